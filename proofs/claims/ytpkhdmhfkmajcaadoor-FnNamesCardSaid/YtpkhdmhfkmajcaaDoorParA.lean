/- An address's text read: the plain side: both ways agree. -/
import Derived.Test.YtpkhdmhfkmajcaaDoorParF
namespace Go.Proofs.YtpkhdmhfkmajcaaDoor
open Go.RowKit
set_option linter.unusedVariables false

theorem ad_same {s : ByteArray} (h1 : rnOk (cutB s 32) = true) (h2 : inB (rnV (cutB s 32)) 1 999 = true) : splitS s 32 = [cutA s 32, cutB s 32] ∧ readS (cutB s 32) = rnV (cutB s 32) := by
  rw [inB_iff] at h2
  obtain ⟨n, hn⟩ : ∃ n : Nat, rnV (cutB s 32) = n := ⟨(rnV (cutB s 32)).toNat, by omega⟩
  have ht := rn_txt_of h1 hn
  have hr : readS (cutB s 32) = n := by rw [ht]; exact readS_txt n (by omega)
  refine ⟨?_, by rw [hr, hn]⟩
  have hl : (cutB s 32).data.toList = Lib.decDigits n := by rw [ht]; rfl
  rcases cut_cases 32 s.data.toList with h | ⟨p, r, e, hp⟩
  · exfalso
    rw [cutB, cut_no h] at hl
    exact dec_ne n hl.symm
  · have hc := cut_byte (r := r) hp
    rw [← e] at hc
    have hr2 : r = Lib.decDigits n := by rw [← hl, cutB, hc]
    apply lists_eq
    rw [splitS_list, e, splitL_cut r hp, splitL_none (l := r) (fun x hx => (dig_facts (dec_digs n x (hr2 ▸ hx))).1)]
    simp [cutA, cutB, hc]
theorem ad_back {s a b : ByteArray} (h1 : splitS s 32 = [a, b]) (h2 : inB (readS b) 1 999 = true) : cutA s 32 = a ∧ cutB s 32 = b ∧ rnOk b = true ∧ rnV b = readS b := by
  rw [inB_iff] at h2
  obtain ⟨n, hn, ht⟩ := readS_inv b (by omega)
  have hb : rnOk b = true ∧ rnV b = readS b := by
    rw [hn, ht]; exact ⟨rnOk_txt n (by omega), rnV_txt n (by omega)⟩
  have hm : splitL 32 s.data.toList = [a.data.toList, b.data.toList] := by rw [← splitS_list, h1]; rfl
  rcases cut_cases 32 s.data.toList with h | ⟨p, r, e, hp⟩
  · rw [splitL_none h] at hm
    have := congrArg List.length hm
    simp at this
  · have hc := cut_byte (r := r) hp
    rw [← e] at hc
    rw [e, splitL_cut r hp] at hm
    injection hm with hm1 hm2
    have hr : r = b.data.toList := by
      rcases cut_cases 32 r with h | ⟨p2, r2, e2, hp2⟩
      · rw [splitL_none h] at hm2
        injection hm2
      · rw [e2, splitL_cut r2 hp2] at hm2
        injection hm2 with _ hm3
        exact absurd hm3 (splitL_ne 32 r2)
    refine ⟨bytes_eq ?_, bytes_eq ?_, hb.1, hb.2⟩
    · rw [cutA, hc]; exact hm1
    · rw [cutB, hc]; exact hr
end Go.Proofs.YtpkhdmhfkmajcaaDoor

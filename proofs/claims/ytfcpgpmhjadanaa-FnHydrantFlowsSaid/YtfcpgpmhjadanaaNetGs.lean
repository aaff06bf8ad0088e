/- GreatestSum: what the program's and the reference's return. -/
import Derived.Test.YtfcpgpmhjadanaaNetV
namespace Go.Proofs.Ytfcpgpmhjadanaa
open Go.RowKit
set_option linter.unusedVariables false

theorem risB_mem {lo hi : Int} {F : List Int} (h : risB lo hi F = true) {x : Int} (hx : x ∈ F) : lo ≤ x ∧ x ≤ hi := by
  have := chainB_mem h hx
  rwa [inB_iff] at this
theorem risB_next {lo hi : Int} {F : List Int} (h : risB lo hi F = true) {i : Nat} {a b : Int} (ha : F[i + 1]? = some a) (hb : F[i]? = some b) : b < a := by
  have := chainB_next h ha hb
  simpa [upB] using this
theorem risB_ge {hi : Int} {F : List Int} (h : risB 0 hi F = true) : ∀ (i : Nat) (x : Int), F[i]? = some x → (i : Int) ≤ x
  | 0, x, hx => (risB_mem h (List.mem_of_getElem? hx)).1
  | i + 1, x, hx => by
    have hi : i < F.length := by have := (List.getElem?_eq_some_iff.1 hx).1; omega
    have h1 := risB_ge h i _ (List.getElem?_eq_getElem hi)
    have h2 := risB_next h hx (List.getElem?_eq_getElem hi)
    omega
theorem risB_length {m : Nat} {F : List Int} (h : risB 0 ((m : Int) - 1) F = true) : F.length ≤ m := by
  by_cases h0 : F.length = 0
  · omega
  · have hl : F.length - 1 < F.length := by omega
    have h1 := risB_ge h _ _ (List.getElem?_eq_getElem hl)
    have h2 := (risB_mem h (List.mem_of_getElem? (List.getElem?_eq_getElem hl))).2
    omega
theorem risB_lt {hi : Int} {F : List Int} (h : risB 0 hi F = true) : ∀ (d i : Nat) (x y : Int), F[i]? = some x → F[i + d + 1]? = some y → x < y
  | 0, i, x, y, hx, hy => risB_next h hy hx
  | d + 1, i, x, y, hx, hy => by
    have hi : i + d + 1 < F.length := by have := (List.getElem?_eq_some_iff.1 hy).1; omega
    have h1 := risB_lt h d i x _ hx (List.getElem?_eq_getElem hi)
    have h2 := risB_next h hy (List.getElem?_eq_getElem hi)
    omega

def grV (M H : List (Int × Int)) (F : List Int) : Int := if openB M H F then sumM M H F 0 else 0
theorem grV_no {M H : List (Int × Int)} {F : List Int} (h : openB M H F = false) : grV M H F = 0 := by rw [grV, h]; rfl
theorem grV_yes {M H : List (Int × Int)} {F : List Int} (h : openB M H F = true) : grV M H F = sumM M H F 0 := by rw [grV, h]; rfl

set_option maxRecDepth 100000 in
set_option maxHeartbeats 4000000 in
theorem implGreatestSum_any (A B C : Option Addr) (n c m d k ecap : Nat) (M H : List (Int × Int)) (F : List Int) (w : World) (hn : n = M.length) (hm : m = H.length) (hnm : n ≤ maxLen) (hmm : m ≤ maxLen) (hkF : k = F.length) (hkm : k ≤ maxLen) (hr : NetRd w A B M H) (hf : Rd w C (F.map (Value.int .i64))) :
    Calls Try.prog 8 #[.agg #[.slice A n c, .slice B m d], .slice C k ecap] w fun e w' => e = .returned (.tuple #[.int .i64 (grV M H F), .bool (openB M H F)]) ∧ Below w.heap.size w w' := by
  have hc := cell_new2 w (.slice A n c) (.slice B m d) 27
  have Q := hide (implisNet_any w.heap.size A B n c m d M H (w.alloc (.cells #[.slice A n c, .slice B m d] 27)) hn hm hnm hmm (hr.alloc _) hc.1 hc.2)
  have Hn := hide hn
  have Hm := hide hm
  have HkF := hide hkF
  have Hr := hide hr
  have Hf := hide hf
  clear hn hm hkF hr hf
  cases hN : netB M H with
  | false =>
    rw [hN] at Q
    have HE := hide (openB_no (F := F) hN)
    clear hN hc
    go_enter Try.func8, Try.ntmps8
    go_wp2_with (go_at_call 24; ((with_reducible refine (Q.out).mono ?_); rintro e w1 ⟨rfl, hb1⟩); obtain ⟨hc1, hf1⟩ := bcell hb1)
    go_ret2
    exact ⟨ret_tup2 (grV_no HE.out).symm HE.out.symm, (by repeat (first | exact Below.refl _ _ | refine below_step ?_ (by assumption) | refine below_step ?_ (Later.below _) | refine below_alloc ?_ _ | refine Below.drew ?_ | refine Below.setCell ?_ (by first | (simp; done) | (simp; omega)) _))⟩
  | true =>
    have hk := netB_ok hN
    have HK := hide hk
    have HE := hide (show openB M H F = risB 0 ((m : Int) - 1) F by rw [openB_eq hN, ← show m = H.length from Hm.out])
    rw [hN] at Q
    have hm10 : m ≤ 10 := by have := hk.h10; have := Hm.out; omega
    clear hN hk
    go_enter Try.func8, Try.ntmps8
    go_wp2_with fail
    refine Q.out.mono ?_
    rintro e w1 ⟨rfl, hq⟩
    have HW1 : Hid (Below w.heap.size w w1) := hide (below_step (below_alloc (Below.refl _ _) _) hq)
    have a0 := cell_on hc.1 hq
    have a1 := cell_on hc.2 hq
    clear hq Q hc
    have QA := areOpen_any w.heap.size B m d C k ecap F w1 (by omega) HkF.out hkm (Hf.out.below HW1.out) a1
    cases hff : risB 0 ((m : Int) - 1) F with
    | false =>
      rw [hff] at QA
      have HE' := hide (show openB M H F = false by rw [HE.out, hff])
      clear hff
      go_wp2_with fail
      refine QA.mono ?_
      rintro e w' ⟨rfl, rfl⟩
      go_wp2
      go_ret2
      exact ⟨ret_tup2 (grV_no HE'.out).symm HE'.out.symm, HW1.out⟩
    | true =>
      rw [hff] at QA
      have HE' := hide (show openB M H F = true by rw [HE.out, hff])
      have HL := hide (risB_length hff)
      have HF := hide (fun (x : Int) (hx : x ∈ F) => show 0 ≤ x ∧ x < (m : Int) by have := risB_mem hff hx; omega)
      clear hff
      go_wp2_with fail
      refine QA.mono ?_
      rintro e w' ⟨rfl, rfl⟩
      go_wp2_with fail
      refine (greatest_any w.heap.size A B C n c m d k _ M H F w1 Hn.out Hm.out HK.out HkF.out (by have := HL.out; have := HkF.out; omega) HF.out (Hr.out.below HW1.out) (Hf.out.below HW1.out) a0 a1).mono ?_
      rintro e w2 ⟨rfl, hq⟩
      go_wp2
      go_ret2
      exact ⟨ret_tup2 (grV_yes HE'.out).symm HE'.out.symm, below_step HW1.out hq⟩

set_option maxRecDepth 100000 in
set_option maxHeartbeats 4000000 in
theorem specGreatestSum_any (A B C : Option Addr) (n c m d k ecap : Nat) (M H : List (Int × Int)) (F : List Int) (w : World) (hn : n = M.length) (hm : m = H.length) (hnm : n ≤ maxLen) (hmm : m ≤ maxLen) (hkF : k = F.length) (hkm : k ≤ maxLen) (hr : NetRd w A B M H) (hf : Rd w C (F.map (Value.int .i64))) :
    Calls Try.prog 9 #[.agg #[.slice A n c, .slice B m d], .slice C k ecap] w fun e w' => e = .returned (.tuple #[.int .i64 (grV M H F), .bool (openB M H F)]) ∧ Below w.heap.size w w' := by
  have hc := cell_new2 w (.slice A n c) (.slice B m d) 27
  have Q := hide (hyOpen_any A B C n c m d k ecap M H F (w.alloc (.cells #[.slice A n c, .slice B m d] 27)) hn hm hnm hmm hkF hkm (hr.alloc _) (hf.alloc _))
  have Hn := hide hn
  have Hm := hide hm
  have HkF := hide hkF
  have Hr := hide hr
  have Hf := hide hf
  clear hn hm hkF hr hf
  cases hA : openB M H F with
  | false =>
    rw [hA] at Q
    have HE := hide hA
    clear hA hc
    go_enter Try.func9, Try.ntmps9
    go_wp2_with (go_at_call 28; ((with_reducible refine (Q.out).mono ?_); rintro e w1 ⟨rfl, hb1⟩); obtain ⟨hc1, hf1⟩ := bcell hb1)
    go_ret2
    exact ⟨ret_tup2 (grV_no HE.out).symm rfl, (by repeat (first | exact Below.refl _ _ | refine below_step ?_ (by assumption) | refine below_step ?_ (Later.below _) | refine below_alloc ?_ _ | refine Below.drew ?_ | refine Below.setCell ?_ (by first | (simp; done) | (simp; omega)) _))⟩
  | true =>
    rw [hA] at Q
    have HE' := hide hA
    rw [openB, Bool.and_eq_true] at hA
    have HK := hide (netB_ok hA.1)
    have hff := hA.2
    rw [← show m = H.length from Hm.out] at hff
    have HL := hide (risB_length hff)
    have HF := hide (fun (x : Int) (hx : x ∈ F) => show 0 ≤ x ∧ x < (m : Int) by have := risB_mem hff hx; omega)
    have hm10 : m ≤ 10 := by have := HK.out.h10; have := Hm.out; omega
    clear hA hff
    go_enter Try.func9, Try.ntmps9
    go_wp2_with fail
    refine Q.out.mono ?_
    rintro e w1 ⟨rfl, hq⟩
    have HW1 : Hid (Below w.heap.size w w1) := hide (below_step (below_alloc (Below.refl _ _) _) hq)
    have a0 := cell_on hc.1 hq
    have a1 := cell_on hc.2 hq
    have z0 := World.block_lt_of_cell? w1 _ a0
    clear hq Q hc
    dsimp only at z0
    go_wp2_with fail
    refine (hySum_any A B C n c m d k _ M H F Hn.out Hm.out HK.out HkF.out (by have := HL.out; have := HkF.out; omega) HF.out n 0 w1 (by omega) (by have := HK.out.m1; have := Hn.out; omega) (Hr.out.below HW1.out) (Hf.out.below HW1.out)).mono ?_
    rintro e w2 ⟨rfl, hq⟩
    go_wp2
    go_ret2
    exact ⟨ret_tup2 (grV_yes HE'.out).symm rfl, below_step HW1.out hq⟩
end Go.Proofs.Ytfcpgpmhjadanaa

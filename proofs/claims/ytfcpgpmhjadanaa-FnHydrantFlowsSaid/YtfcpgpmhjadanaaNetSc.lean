/- ScarceMain: what the program's and the reference's return. -/
import Derived.Test.YtfcpgpmhjadanaaNetWo
namespace Go.Proofs.Ytfcpgpmhjadanaa
open Go.RowKit
set_option linter.unusedVariables false

theorem closeM_ok {M H : List (Int × Int)} (hk : NetOk M H) (i : Nat) (hi : i < M.length) : NetOk (closeM M i) H := by
  refine ⟨by rw [closeM_length]; exact hk.m1, by rw [closeM_length]; exact hk.m10, hk.h10, fun j x hx => ?_, fun j x hx => by rw [closeM_length]; exact hk.hyd j x hx⟩
  unfold closeM at hx
  by_cases hij : i = j
  · subst hij
    rw [List.getElem?_set_self hi] at hx
    injection hx with hx
    subst hx
    have hp := par_some (List.getElem?_eq_getElem hi)
    obtain ⟨h1, h2, h3, h4⟩ := hk.main i _ (List.getElem?_eq_getElem hi)
    rw [hp]
    exact ⟨h1, h2, by omega, by omega⟩
  · rw [List.getElem?_set_ne hij] at hx
    exact hk.main j x hx
def bestN (S : Nat → Int) : Nat → Nat
  | 0 => 0
  | k + 1 => if S k < S (bestN S k) then k else bestN S k
theorem bestN_le (S : Nat → Int) : ∀ k, bestN S k ≤ k
  | 0 => Nat.le_refl _
  | k + 1 => by have := bestN_le S k; rw [bestN]; split <;> omega
theorem bestN_lt (S : Nat → Int) (k : Nat) (h : 0 < k) : bestN S k < k := by
  match k, h with
  | k + 1, _ => have := bestN_le S k; rw [bestN]; split <;> omega
def scS (M H : List (Int × Int)) (F : List Int) (i : Nat) : Int := sumM (closeM M i) H F 0
def scV (M H : List (Int × Int)) (F : List Int) : Int := if openB M H F then (bestN (scS M H F) M.length : Int) else 0
theorem scV_no {M H : List (Int × Int)} {F : List Int} (h : openB M H F = false) : scV M H F = 0 := by rw [scV, h]; rfl
theorem scV_yes {M H : List (Int × Int)} {F : List Int} (h : openB M H F = true) : scV M H F = (bestN (scS M H F) M.length : Int) := by rw [scV, h]; rfl
theorem scS_bd {M H : List (Int × Int)} (hk : NetOk M H) (F : List Int) {i : Nat} (hi : i < M.length) : 0 ≤ scS M H F i ∧ scS M H F i ≤ 5000 := by
  have := (closeM_ok hk i hi).m1
  exact sumM_bd (closeM_ok hk i hi) F (by omega)

set_option maxRecDepth 100000 in
set_option maxHeartbeats 8000000 in
theorem implScarceMain_any (A B C : Option Addr) (n c m d k ecap : Nat) (M H : List (Int × Int)) (F : List Int) (w : World) (hn : n = M.length) (hm : m = H.length) (hnm : n ≤ maxLen) (hmm : m ≤ maxLen) (hkF : k = F.length) (hkm : k ≤ maxLen) (hr : NetRd w A B M H) (hf : Rd w C (F.map (Value.int .i64))) :
    Calls Try.prog 12 #[.agg #[.slice A n c, .slice B m d], .slice C k ecap] w fun e w' => e = .returned (.tuple #[.int .i64 (scV M H F), .bool (openB M H F)]) ∧ Below w.heap.size w w' := by
  have hc := cell_new2 w (.slice A n c) (.slice B m d) 27
  have Q := hide (implisNet_any w.heap.size A B n c m d M H (w.alloc (.cells #[.slice A n c, .slice B m d] 27)) hn hm hnm hmm (hr.alloc _) hc.1 hc.2)
  have Hn := hide hn
  have Hm := hide hm
  have HkF := hide hkF
  have Hr := hide hr
  have Hf := hide hf
  clear hn hm hkF hr hf
  cases hN : netB M H with
  | false =>
    rw [hN] at Q
    have HE := hide (openB_no (F := F) hN)
    clear hN hc
    go_enter Try.func12, Try.ntmps12
    go_wp2_with (go_at_call 24; ((with_reducible refine (Q.out).mono ?_); rintro e w1 ⟨rfl, hb1⟩); obtain ⟨hc1, hf1⟩ := bcell hb1)
    go_ret2
    exact ⟨ret_tup2 (scV_no HE.out).symm HE.out.symm, (by repeat (first | exact Below.refl _ _ | refine below_step ?_ (by assumption) | refine below_step ?_ (Later.below _) | refine below_alloc ?_ _ | refine Below.drew ?_ | refine Below.setCell ?_ (by first | (simp; done) | (simp; omega)) _))⟩
  | true =>
    have hk := netB_ok hN
    have HK := hide hk
    have HE := hide (show openB M H F = risB 0 ((m : Int) - 1) F by rw [openB_eq hN, ← show m = H.length from Hm.out])
    rw [hN] at Q
    have hm10 : m ≤ 10 := by have := hk.h10; have := Hm.out; omega
    have hn10 : n ≤ 10 := by have := hk.m10; have := Hn.out; omega
    have hn1 : 1 ≤ n := by have := hk.m1; have := Hn.out; omega
    clear hN hk
    go_enter Try.func12, Try.ntmps12
    go_wp2_with fail
    refine Q.out.mono ?_
    rintro e w1 ⟨rfl, hq⟩
    have HW1 : Hid (Below w.heap.size w w1) := hide (below_step (below_alloc (Below.refl _ _) _) hq)
    have a0 := cell_on hc.1 hq
    have a1 := cell_on hc.2 hq
    clear hq Q hc
    have QA := areOpen_any w.heap.size B m d C k ecap F w1 (by omega) HkF.out hkm (Hf.out.below HW1.out) a1
    cases hff : risB 0 ((m : Int) - 1) F with
    | false =>
      rw [hff] at QA
      have HE' := hide (show openB M H F = false by rw [HE.out, hff])
      clear hff
      go_wp2_with fail
      refine QA.mono ?_
      rintro e w' ⟨rfl, rfl⟩
      go_wp2
      go_ret2
      exact ⟨ret_tup2 (scV_no HE'.out).symm HE'.out.symm, HW1.out⟩
    | true =>
      rw [hff] at QA
      have HE' := hide (show openB M H F = true by rw [HE.out, hff])
      have HL := hide (risB_length hff)
      have hk10 : k ≤ 10 := by have := HL.out; have := HkF.out; omega
      have HF := hide (fun (x : Int) (hx : x ∈ F) => show 0 ≤ x ∧ x < (m : Int) by have := risB_mem hff hx; omega)
      have HC0 := hide a0
      have HC1 := hide a1
      clear hff
      go_wp2_with fail
      refine QA.mono ?_
      rintro e w' ⟨rfl, rfl⟩
      clear QA
      go_wp2_with fail
      clear a0 a1
      have HSB := hide (fun (i : Nat) (hi : i < n) => scS_bd HK.out F (i := i) (by have := Hn.out; omega))
      go_loopw [6, 7, 21] (fun v u t wr => ∃ j : Nat, j ≤ n ∧ t = .int .i64 j ∧ (j = 0 ∧ v = .int .i64 0 ∧ u = .int .i64 (-1) ∨ 0 < j ∧ v = .int .i64 (bestN (scS M H F) j : Nat) ∧ u = .int .i64 (scS M H F (bestN (scS M H F) j))) ∧ Hid (Below w1.heap.size w1 wr)) (fun _ _ t _ => n - (intOf t).toNat)
      case atStart => exact ⟨0, by omega, rfl, .inl ⟨rfl, rfl, rfl⟩, hide (Below.refl _ _)⟩
      case round =>
        obtain ⟨j, hj, rfl, hst, HB⟩ := hrel
        have HST := hide hst
        clear hst
        have q0 := cell_on HC0.out HB.out
        have q1 := cell_on HC1.out HB.out
        have hbw := World.block_lt_of_cell? wr _ q0
        dsimp only at hbw
        by_cases hjn : j < n
        · have HWB := hide (below_step HW1.out HB.out)
          have QW := hide (withoutMain_any w.heap.size A B n c m d j M H wr Hn.out Hm.out hn10 hm10 hjn (NetRd.below Hr.out HWB.out) q0 q1)
          clear q0 q1
          have hsb := HSB.out j hjn
          go_wp2_with fail
          refine QW.out.mono ?_
          rintro e w2 ⟨⟨v, v', rfl, ho⟩, hq⟩
          obtain ⟨A2, k2, rfl, -⟩ := own_open ho.1
          obtain ⟨A3, k3, rfl, -⟩ := own_open ho.2
          have HX3 := hide (Row.new w2 #[.slice A2 M.length k2, .slice A3 H.length k3] 27)
          have hlm := closeM_length M j
          rw [hlm] at ho ⊢
          have HO := hide ho
          have HB3 := hide (below_alloc hq (.cells #[.slice A2 M.length k2, .slice A3 H.length k3] 27))
          have HO1 := hide (World.ownsRow.alloc HO.out.1 (.cells #[.slice A2 M.length k2, .slice A3 H.length k3] 27))
          have HO2 := hide (World.ownsRow.alloc HO.out.2 (.cells #[.slice A2 M.length k2, .slice A3 H.length k3] 27))
          clear hq ho QW hlm
          go_wp2_with fail
          generalize w2.alloc (.cells #[.slice A2 M.length k2, .slice A3 H.length k3] 27) = w3 at *
          have HWB3 := hide (below_step HWB.out HB3.out)
          refine (greatest_any w2.heap.size A2 A3 C M.length k2 H.length k3 k ecap (closeM M j) H F w3 (closeM_length M j).symm rfl (closeM_ok HK.out j (by have := Hn.out; omega)) HkF.out hk10 (by rw [← show m = H.length from Hm.out]; exact HF.out) ⟨own_rd HO1.out, own_rd HO2.out⟩ (Hf.out.below HWB3.out) (HX3.out.2.1 0 _ rfl) (HX3.out.2.1 1 _ rfl)).mono ?_
          rintro e w4 ⟨rfl, hq⟩
          have HB4 := hide (below_step HB.out (below_step HB3.out hq))
          clear hq
          have hS : sumM (closeM M j) H F 0 = scS M H F j := rfl
          rw [hS]
          clear hS
          rcases HST.out with ⟨rfl, rfl, rfl⟩ | ⟨hj0, rfl, rfl⟩
          · have HB0 := hide (show bestN (scS M H F) 1 = 0 by simp [bestN])
            generalize hs : scS M H F 0 = s at *
            have HS := hide hs
            clear hs
            go_wp2
            go_roundw
            case rel => exact ⟨1, by omega, by go_num, .inr ⟨by omega, by rw [HB0.out]; rfl, by rw [HB0.out, HS.out]⟩, HB4⟩
            case measure => simp [intOf]; omega
          · have hbl := bestN_lt (scS M H F) j hj0
            have hsb2 := HSB.out (bestN (scS M H F) j) (by omega)
            have HN := hide (show bestN (scS M H F) (j + 1) = if scS M H F j < scS M H F (bestN (scS M H F) j) then j else bestN (scS M H F) j from rfl)
            generalize hs : scS M H F j = s at *
            generalize ht : scS M H F (bestN (scS M H F) j) = t at *
            generalize hb : bestN (scS M H F) j = b at *
            have HS := hide hs
            have HT := hide ht
            clear hs ht hb
            by_cases hst : s < t
            · have HN2 := hide (show bestN (scS M H F) (j + 1) = j by rw [HN.out, if_pos hst])
              go_wp2
              go_roundw
              case rel => exact ⟨j + 1, by omega, by go_num, .inr ⟨by omega, by rw [HN2.out], by rw [HN2.out, HS.out]⟩, HB4⟩
              case measure => simp [intOf]; omega
            · have HN2 := hide (show bestN (scS M H F) (j + 1) = b by rw [HN.out, if_neg hst])
              go_wp2
              go_roundw
              case rel => exact ⟨j + 1, by omega, by go_num, .inr ⟨by omega, by rw [HN2.out], by rw [HN2.out]; exact congrArg _ HT.out.symm⟩, HB4⟩
              case measure => simp [intOf]; omega
        · obtain rfl : j = n := by omega
          rcases HST.out with ⟨h0, _⟩ | ⟨hj0, rfl, rfl⟩
          · omega
          · have HE2 := hide (show ((bestN (scS M H F) j : Nat) : Int) = scV M H F by rw [scV_yes HE'.out, ← show j = M.length from Hn.out])
            go_wp2
            go_ret2
            exact ⟨ret_tup2 HE2.out HE'.out.symm, below_step HW1.out HB.out⟩
end Go.Proofs.Ytfcpgpmhjadanaa

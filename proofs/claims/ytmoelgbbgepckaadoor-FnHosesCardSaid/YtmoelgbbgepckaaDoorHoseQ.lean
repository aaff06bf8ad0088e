/- The pressure of a pump, as the reference has it. -/
import Derived.Test.YtmoelgbbgepckaaDoorHoseP
namespace Go.Proofs.YtmoelgbbgepckaaDoor
open Go.RowKit
set_option linter.unusedVariables false

theorem inB_max (x : Int) : inB (max 0 x) 0 2000 = decide (max 0 x ≤ 2000) := by
  have : decide (0 ≤ max 0 x) = true := by simp; omega
  rw [inB, this, Bool.true_and]

set_option maxRecDepth 100000 in
set_option maxHeartbeats 1000000 in
theorem specGreatestFlow_any (A : Option Addr) (n c : Nat) (p : Int) (hs : List (Int × Int)) (w : World) (hn : n = hs.length) (hm : n ≤ 1048576) (hr : Rd w A (hs.flatMap hcells)) :
    Calls Tryd.prog 21 #[.slice A n c, .int .i64 p] w fun e w' => e = .returned (.tuple #[.int .i64 (gfR hs p), .bool (gfOk hs p)]) ∧ Below w.heap.size w w' := by
  have Hn := hide hn
  have HR := hide hr
  clear hn hr
  cases hv : gfOk hs p with
  | false =>
    have e1 : gfR hs p = 0 := by simp [gfR, hv]
    rw [e1]
    go_enter Tryd.func21, Tryd.ntmps21
    go_wp2_with (first | (go_at_call 55; ((with_reducible refine (hoGood_any A n c hs _ Hn.out hm HR.out).mono ?_); rintro e w1 ⟨rfl, hb1⟩); obtain ⟨hc1, hf1⟩ := bcell hb1) | (go_at_call 70; ((with_reducible refine (hoPressure_any _ _).mono ?_); rintro e w' ⟨rfl, rfl⟩)))
    all_goals first
      | (go_ret2; exact ⟨rfl, (by repeat (first | exact Below.refl _ _ | refine below_step ?_ (by assumption) | refine below_step ?_ (Later.below _) | refine below_alloc ?_ _ | refine Below.drew ?_ | refine Below.setCell ?_ (by first | (simp; done) | (simp; omega)) _))⟩)
      | (exfalso; ((try simp only [Bool.not_eq_true'] at *); (try simp only [Bool.not_eq_false'] at *)); simp [gfOk, *] at hv)
  | true =>
    simp only [gfOk, Bool.and_eq_true] at hv
    obtain ⟨hl, hp⟩ := hv
    have c1 := fun w h => hoGood_any A n c hs w Hn.out hm h
    have c2 := fun w => hoPressure_any p w
    rw [hl] at c1
    rw [hp] at c2
    have HL := hide hl
    have HP := hide hp
    clear hl hp
    have C1 := hide c1
    clear c1
    go_enter Tryd.func21, Tryd.ntmps21
    go_wp2_with (first | (go_at_call 55; ((with_reducible refine (C1.out _ HR.out).mono ?_); rintro e w1 ⟨rfl, hb1⟩); obtain ⟨hc1, hf1⟩ := bcell hb1) | (go_at_call 70; ((with_reducible refine (c2 _).mono ?_); rintro e w' ⟨rfl, rfl⟩)))
    go_loopw [6, 7] (fun t u wr => ∃ k m : Nat, k < m ∧ m ≤ 3001 ∧ t = .int .i64 k ∧ u = .int .i64 m ∧ Hid (k = 0 ∨ lineSum hs k ≤ p) ∧ Hid (m = 3001 ∨ p < lineSum hs m) ∧ Below w.heap.size w wr) (fun t u _ => (intOf u - intOf t).toNat)
    case atStart => exact ⟨0, 3001, by omega, by omega, rfl, rfl, hide (.inl rfl), hide (.inl rfl), hb1⟩
    case round =>
      obtain ⟨k, m, hkm, hm2, rfl, rfl, HA, HB, hb⟩ := hrel
      have hm' : (m : Int) ≤ 3001 := by omega
      clear hm2
      by_cases hlt : 1 < (m : Int) - k
      · obtain ⟨j, hj, hj1, hj2⟩ : ∃ j : Nat, ((k : Int) + m) / 2 = j ∧ k < j ∧ j < m := ⟨(k + m) / 2, by omega, by omega, by omega⟩
        have C := hide (fun w h => hoLine_any A n c (((k : Int) + m) / 2) hs w Hn.out h HL.out (inB_true (by omega) (by omega)))
        have HJ := hide hj
        clear hj
        by_cases hc : lineSum hs (((k : Int) + m) / 2) ≤ p
        · go_wp2_with (go_at_call 71; ((with_reducible refine (C.out _ (HR.out.below hb)).mono ?_); rintro e w2 ⟨rfl, hb2⟩); obtain ⟨hc2, hf2⟩ := bcell hb2)
          go_roundw
          case rel => exact ⟨j, m, by omega, by omega, by rw [HJ.out], rfl, hide (.inr (by rw [← HJ.out]; exact hc)), HB, below_step hb hb2⟩
          case measure => simp [intOf]; omega
        · go_wp2_with (go_at_call 71; ((with_reducible refine (C.out _ (HR.out.below hb)).mono ?_); rintro e w2 ⟨rfl, hb2⟩); obtain ⟨hc2, hf2⟩ := bcell hb2)
          go_roundw
          case rel => exact ⟨k, j, by omega, by omega, rfl, by rw [HJ.out], HA, hide (.inr (by rw [← HJ.out]; omega)), below_step hb hb2⟩
          case measure => simp [intOf]; omega
      · go_wp2
        go_ret2
        refine ⟨ret_tup2 ?_ (by simp), hb⟩
        rw [gfR, gfOk, HL.out, HP.out]
        have e := gfOf_eq (k := k) (p := p) (lineB_iff HL.out).1 (by omega) HA.out (by
          rcases HB.out with h | h
          · exact .inl (by omega)
          · rw [show (m : Int) = (k : Int) + 1 by omega] at h
            exact .inr h)
        exact e.symm
end Go.Proofs.YtmoelgbbgepckaaDoor

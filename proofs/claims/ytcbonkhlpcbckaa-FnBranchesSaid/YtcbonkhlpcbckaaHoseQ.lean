/- The pressure of a pump, as the reference has it. -/
import Derived.Test.YtcbonkhlpcbckaaHoseP
namespace Go.Proofs.Ytcbonkhlpcbckaa
open Go.RowKit
set_option linter.unusedVariables false

theorem inB_max (x : Int) : inB (max 0 x) 0 2000 = decide (max 0 x ≤ 2000) := by
  have : decide (0 ≤ max 0 x) = true := by simp; omega
  rw [inB, this, Bool.true_and]

set_option maxRecDepth 100000 in
set_option maxHeartbeats 2000000 in
theorem specPumpPressure_any (A : Option Addr) (m c : Nat) (r n f : Int) (hs : List (Int × Int)) (w : World) (hn : m = hs.length) (hm : m ≤ 1048576) (hr : Rd w A (hs.flatMap hcells)) :
    Calls Try.prog 12 #[.slice A m c, .int .i64 r, .int .i64 n, .int .i64 f] w fun e w' => e = .returned (.tuple #[.int .i64 (pumpR hs r n f), .bool (pumpOk hs r n f)]) ∧ Below w.heap.size w w' := by
  have Hn := hide hn
  have HR := hide hr
  clear hn hr
  cases hv : lineB hs && inB r (-1000) 1000 && inB n 4 40 && inB f 0 3000 with
  | false =>
    have e1 : pumpOk hs r n f = false := by simp [pumpOk, hv]
    have e2 : pumpR hs r n f = 0 := by simp [pumpR, e1]
    rw [e1, e2]
    have HV := hide hv
    clear e1 e2 hv
    go_enter Try.func12, Try.ntmps12
    go_wp2_with (first | (go_at_call 36; ((with_reducible refine (hoGood_any A m c hs _ Hn.out hm HR.out).mono ?_); rintro e w1 ⟨rfl, hb1⟩); obtain ⟨hc1, hf1⟩ := bcell hb1) | (go_at_call 37; ((with_reducible refine (hoRise_any _ _).mono ?_); rintro e w' ⟨rfl, rfl⟩)) | (go_at_call 25; ((with_reducible refine (hoNozzle_any _ _).mono ?_); rintro e w' ⟨rfl, rfl⟩)) | (go_at_call 26; ((with_reducible refine (hoFlow_any _ _).mono ?_); rintro e w' ⟨rfl, rfl⟩)))
    all_goals first
      | (go_ret2; exact ⟨rfl, (by repeat (first | exact Below.refl _ _ | refine below_step ?_ (by assumption) | refine below_step ?_ (Later.below _) | refine below_alloc ?_ _ | refine Below.drew ?_ | refine Below.setCell ?_ (by first | (simp; done) | (simp; omega)) _))⟩)
      | (exfalso; ((try simp only [Bool.not_eq_true'] at *); (try simp only [Bool.not_eq_false'] at *)); have hv := HV.out; simp [*] at hv)
  | true =>
    simp only [Bool.and_eq_true] at hv
    obtain ⟨⟨⟨hl, hri⟩, hno⟩, hf⟩ := hv
    obtain ⟨b0, b1, b2, b3, b4, b5⟩ := pump_bd (n := n) hl hri hf
    obtain ⟨b6, b7⟩ := lpR_bd n f
    have C1 := hide (fun w h => hoGood_any A m c hs w Hn.out hm h)
    rw [hl] at C1
    have c2 := fun w => hoRise_any r w
    rw [hri] at c2
    have c3 := fun w => hoNozzle_any n w
    rw [hno] at c3
    have c4 := fun w => hoFlow_any f w
    rw [hf] at c4
    have C5 := hide (fun w h => hoLine_any A m c f hs w Hn.out h hl hf)
    have c6 := fun w => hoNeeds_any n f w hno hf
    have HL := hide hl
    have HI := hide hri
    have HO := hide hno
    have HF := hide hf
    clear hl hri hno hf
    cases hk : lpOk n f with
    | false =>
      have hk' : decide (lpOf n f ≤ 2000) = false := hk
      rw [hk'] at c6
      clear hk'
      go_enter Try.func12, Try.ntmps12
      go_wp2_with (first | (go_at_call 36; ((with_reducible refine (C1.out _ HR.out).mono ?_); rintro e w1 ⟨rfl, hb1⟩); obtain ⟨hc1, hf1⟩ := bcell hb1) | (go_at_call 37; ((with_reducible refine (c2 _).mono ?_); rintro e w' ⟨rfl, rfl⟩)) | (go_at_call 25; ((with_reducible refine (c3 _).mono ?_); rintro e w' ⟨rfl, rfl⟩)) | (go_at_call 26; ((with_reducible refine (c4 _).mono ?_); rintro e w' ⟨rfl, rfl⟩)) | (go_at_call 38; ((with_reducible refine (l1Most_any _ _ _).mono ?_); rintro e w' ⟨rfl, rfl⟩)) | (go_at_call 30; ((with_reducible refine (hoPressure_any _ _).mono ?_); rintro e w' ⟨rfl, rfl⟩)) | (go_at_call 27; ((with_reducible refine (c6 _).mono ?_); rintro e w' ⟨rfl, rfl⟩)) | (go_at_call 39; ((with_reducible refine (C5.out _ (HR.out.below hb1)).mono ?_); rintro e w2 ⟨rfl, hb2⟩); obtain ⟨hc2, hf2⟩ := bcell hb2))
      all_goals
        go_ret2
        exact ⟨ret_tup2 (by simp [pumpR, pumpOk, hk]) (by simp [pumpOk, hk]), (by repeat (first | exact Below.refl _ _ | refine below_step ?_ (by assumption) | refine below_step ?_ (Later.below _) | refine below_alloc ?_ _ | refine Below.drew ?_ | refine Below.setCell ?_ (by first | (simp; done) | (simp; omega)) _))⟩
    | true =>
      have hk' : decide (lpOf n f ≤ 2000) = true := hk
      rw [hk'] at c6
      clear hk' b6 b7
      have Hk := hide hk
      clear hk
      go_enter Try.func12, Try.ntmps12
      go_wp2_with (first | (go_at_call 36; ((with_reducible refine (C1.out _ HR.out).mono ?_); rintro e w1 ⟨rfl, hb1⟩); obtain ⟨hc1, hf1⟩ := bcell hb1) | (go_at_call 37; ((with_reducible refine (c2 _).mono ?_); rintro e w' ⟨rfl, rfl⟩)) | (go_at_call 25; ((with_reducible refine (c3 _).mono ?_); rintro e w' ⟨rfl, rfl⟩)) | (go_at_call 26; ((with_reducible refine (c4 _).mono ?_); rintro e w' ⟨rfl, rfl⟩)) | (go_at_call 38; ((with_reducible refine (l1Most_any _ _ _).mono ?_); rintro e w' ⟨rfl, rfl⟩)) | (go_at_call 30; ((with_reducible refine (hoPressure_any _ _).mono ?_); rintro e w' ⟨rfl, rfl⟩)) | (go_at_call 27; ((with_reducible refine (c6 _).mono ?_); rintro e w' ⟨rfl, rfl⟩)) | (go_at_call 39; ((with_reducible refine (C5.out _ (HR.out.below hb1)).mono ?_); rintro e w2 ⟨rfl, hb2⟩); obtain ⟨hc2, hf2⟩ := bcell hb2))
      all_goals
        go_ret2
        have e4 : lineB hs = true := HL.out
        have e5 : inB r (-1000) 1000 = true := HI.out
        have e6 : inB n 4 40 = true := HO.out
        have e7 : inB f 0 3000 = true := HF.out
        have e8 : lpOk n f = true := Hk.out
        have e9 : pumpV hs r n f = max 0 (lineSum hs f + r + lpOf n f) := by unfold pumpV; exact Int.max_comm _ _
        first
          | (have hh : decide (max 0 (lineSum hs f + r + lpOf n f) ≤ 2000) = true := by rw [← inB_max]; exact (by first | assumption | exact bnf (by assumption) | exact bnt (by assumption))
             have ea : pumpOk hs r n f = true := by simp only [pumpOk, e4, e5, e6, e7, e8, e9, hh]; rfl
             exact ⟨ret_tup2 (by rw [pumpR, ea, e9]; rfl) ea.symm, (by repeat (first | exact Below.refl _ _ | refine below_step ?_ (by assumption) | refine below_step ?_ (Later.below _) | refine below_alloc ?_ _ | refine Below.drew ?_ | refine Below.setCell ?_ (by first | (simp; done) | (simp; omega)) _))⟩)
          | (have hh : decide (max 0 (lineSum hs f + r + lpOf n f) ≤ 2000) = false := by rw [← inB_max]; exact (by first | assumption | exact bnf (by assumption) | exact bnt (by assumption))
             have ea : pumpOk hs r n f = false := by simp only [pumpOk, e4, e5, e6, e7, e8, e9, hh]; rfl
             exact ⟨ret_tup2 (by rw [pumpR, ea]; rfl) ea.symm, (by repeat (first | exact Below.refl _ _ | refine below_step ?_ (by assumption) | refine below_step ?_ (Later.below _) | refine below_alloc ?_ _ | refine Below.drew ?_ | refine Below.setCell ?_ (by first | (simp; done) | (simp; omega)) _))⟩)

end Go.Proofs.Ytcbonkhlpcbckaa

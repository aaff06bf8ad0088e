/- The pressure of a pump: what each call returns. -/
import Derived.Test.YtcbonkhlpcbckaaHoseL
namespace Go.Proofs.Ytcbonkhlpcbckaa
open Go.RowKit
set_option linter.unusedVariables false

set_option maxHeartbeats 400000 in
theorem hoRise_any (n : Int) (w : World) :
    Calls Try.prog 37 #[.int .i64 n] w fun e w' => e = .returned (.bool (inB n (-1000) 1000)) ∧ w = w' := by
  go_enter Try.func37, Try.ntmps37
  go_wp2_with (go_at_call 42; ((with_reducible refine (l1In_any _ _ _ _).mono ?_); rintro e w' ⟨rfl, rfl⟩))
  go_ret
  exact ⟨rfl, rfl⟩

theorem pump_bd {hs : List (Int × Int)} {r n f : Int} (hv : lineB hs = true) (hr : inB r (-1000) 1000 = true) (hf : inB f 0 3000 = true) :
    0 ≤ lineSum hs f ∧ lineSum hs f ≤ 27000012 ∧ -1000 ≤ r ∧ r ≤ 1000 ∧ 0 ≤ lpOf n f ∧ lpOf n f ≤ 2001 := by
  obtain ⟨a, _, b⟩ := lineB_iff hv
  obtain ⟨f0, f1⟩ := inB_iff.1 hf
  obtain ⟨r0, r1⟩ := inB_iff.1 hr
  obtain ⟨s0, s1⟩ := lineSum_bd f0 f1 a
  obtain ⟨p0, p1⟩ := lpOf_bd n f
  exact ⟨s0, by omega, r0, r1, p0, p1⟩
theorem lpR_bd (n f : Int) : 0 ≤ lpR n f ∧ lpR n f ≤ 2000 := by
  have := lpOf_bd n f
  unfold lpR lpOk
  by_cases h : lpOf n f ≤ 2000 <;> simp [h] <;> omega

set_option maxRecDepth 100000 in
set_option maxHeartbeats 2000000 in
theorem implPumpPressure_any (A : Option Addr) (m c : Nat) (r n f : Int) (hs : List (Int × Int)) (w : World) (hn : m = hs.length) (hm : m ≤ 1048576) (hr : Rd w A (hs.flatMap hcells)) :
    Calls Try.prog 11 #[.slice A m c, .int .i64 r, .int .i64 n, .int .i64 f] w fun e w' => e = .returned (.tuple #[.int .i64 (pumpR hs r n f), .bool (pumpOk hs r n f)]) ∧ Below w.heap.size w w' := by
  have Hn := hide hn
  have HR := hide hr
  clear hn hr
  cases hv : lineB hs && inB r (-1000) 1000 && inB n 4 40 && inB f 0 3000 with
  | false =>
    have e1 : pumpOk hs r n f = false := by simp [pumpOk, hv]
    have e2 : pumpR hs r n f = 0 := by simp [pumpR, e1]
    rw [e1, e2]
    have HV := hide hv
    clear e1 e2 hv
    go_enter Try.func11, Try.ntmps11
    go_wp2_with (first | (go_at_call 34; ((with_reducible refine (isLine_any A m c hs _ Hn.out hm HR.out).mono ?_); rintro e w1 ⟨rfl, hb1⟩); obtain ⟨hc1, hf1⟩ := bcell hb1) | (go_at_call 23; ((with_reducible refine (inside_any _ _ _ _).mono ?_); rintro e w' ⟨rfl, rfl⟩)))
    all_goals first
      | (go_ret2; exact ⟨rfl, (by repeat (first | exact Below.refl _ _ | refine below_step ?_ (by assumption) | refine below_step ?_ (Later.below _) | refine below_alloc ?_ _ | refine Below.drew ?_ | refine Below.setCell ?_ (by first | (simp; done) | (simp; omega)) _))⟩)
      | (exfalso; ((try simp only [Bool.not_eq_true'] at *); (try simp only [Bool.not_eq_false'] at *)); have hv := HV.out; simp [*] at hv)
  | true =>
    simp only [Bool.and_eq_true] at hv
    obtain ⟨⟨⟨hl, hri⟩, hno⟩, hf⟩ := hv
    obtain ⟨b0, b1, b2, b3, b4, b5⟩ := pump_bd (n := n) hl hri hf
    obtain ⟨b6, b7⟩ := lpR_bd n f
    have C1 := hide (fun w h => isLine_any A m c hs w Hn.out hm h)
    rw [hl] at C1
    have c2 := fun w => inside_any r (-1000) 1000 w
    rw [hri] at c2
    have c3 := fun w => inside_any n 4 40 w
    rw [hno] at c3
    have c4 := fun w => inside_any f 0 3000 w
    rw [hf] at c4
    have C5 := hide (fun w h => lineLoss_any A m c f hs w Hn.out h hl hf)
    have c6 := fun w => branchPressure_any n f w hno hf
    have HL := hide hl
    have HI := hide hri
    have HO := hide hno
    have HF := hide hf
    clear hl hri hno hf
    cases hk : lpOk n f with
    | false =>
      rw [hk] at c6
      go_enter Try.func11, Try.ntmps11
      go_wp2_with (first | (go_at_call 34; ((with_reducible refine (C1.out _ HR.out).mono ?_); rintro e w1 ⟨rfl, hb1⟩); obtain ⟨hc1, hf1⟩ := bcell hb1) | (go_at_call 23; ((with_reducible refine (c2 _).mono ?_); rintro e w' ⟨rfl, rfl⟩)) | (go_at_call 23; ((with_reducible refine (c3 _).mono ?_); rintro e w' ⟨rfl, rfl⟩)) | (go_at_call 23; ((with_reducible refine (c4 _).mono ?_); rintro e w' ⟨rfl, rfl⟩)) | (go_at_call 24; ((with_reducible refine (c6 _).mono ?_); rintro e w' ⟨rfl, rfl⟩)) | (go_at_call 35; ((with_reducible refine (C5.out _ (HR.out.below hb1)).mono ?_); rintro e w2 ⟨rfl, hb2⟩); obtain ⟨hc2, hf2⟩ := bcell hb2))
      all_goals
        go_ret2
        exact ⟨ret_tup2 (by simp [pumpR, pumpOk, hk]) (by simp [pumpOk, hk]), (by repeat (first | exact Below.refl _ _ | refine below_step ?_ (by assumption) | refine below_step ?_ (Later.below _) | refine below_alloc ?_ _ | refine Below.drew ?_ | refine Below.setCell ?_ (by first | (simp; done) | (simp; omega)) _))⟩
    | true =>
      have e3 : lpR n f = lpOf n f := by simp [lpR, hk]
      rw [hk, e3] at c6
      clear e3 b6 b7
      have Hk := hide hk
      clear hk
      go_enter Try.func11, Try.ntmps11
      go_wp2_with (first | (go_at_call 34; ((with_reducible refine (C1.out _ HR.out).mono ?_); rintro e w1 ⟨rfl, hb1⟩); obtain ⟨hc1, hf1⟩ := bcell hb1) | (go_at_call 23; ((with_reducible refine (c2 _).mono ?_); rintro e w' ⟨rfl, rfl⟩)) | (go_at_call 23; ((with_reducible refine (c3 _).mono ?_); rintro e w' ⟨rfl, rfl⟩)) | (go_at_call 23; ((with_reducible refine (c4 _).mono ?_); rintro e w' ⟨rfl, rfl⟩)) | (go_at_call 24; ((with_reducible refine (c6 _).mono ?_); rintro e w' ⟨rfl, rfl⟩)) | (go_at_call 35; ((with_reducible refine (C5.out _ (HR.out.below hb1)).mono ?_); rintro e w2 ⟨rfl, hb2⟩); obtain ⟨hc2, hf2⟩ := bcell hb2))
      all_goals
        go_ret2
        have e4 : lineB hs = true := HL.out
        have e5 : inB r (-1000) 1000 = true := HI.out
        have e6 : inB n 4 40 = true := HO.out
        have e7 : inB f 0 3000 = true := HF.out
        have e8 : lpOk n f = true := Hk.out
        first
          | (have e9 : pumpV hs r n f = lineSum hs f + r + lpOf n f := by unfold pumpV; omega
             first
               | (have ea : pumpOk hs r n f = true := by simp only [pumpOk, e4, e5, e6, e7, e8, e9]; simp; omega
                  exact ⟨ret_tup2 (by rw [pumpR, ea, e9]; rfl) ea.symm, (by repeat (first | exact Below.refl _ _ | refine below_step ?_ (by assumption) | refine below_step ?_ (Later.below _) | refine below_alloc ?_ _ | refine Below.drew ?_ | refine Below.setCell ?_ (by first | (simp; done) | (simp; omega)) _))⟩)
               | (have ea : pumpOk hs r n f = false := by simp only [pumpOk, e4, e5, e6, e7, e8, e9]; simp; omega
                  exact ⟨ret_tup2 (by rw [pumpR, ea]; rfl) ea.symm, (by repeat (first | exact Below.refl _ _ | refine below_step ?_ (by assumption) | refine below_step ?_ (Later.below _) | refine below_alloc ?_ _ | refine Below.drew ?_ | refine Below.setCell ?_ (by first | (simp; done) | (simp; omega)) _))⟩))
          | (have e9 : pumpV hs r n f = 0 := by unfold pumpV; omega
             have ea : pumpOk hs r n f = true := by simp only [pumpOk, e4, e5, e6, e7, e8, e9]; simp
             exact ⟨ret_tup2 (by rw [pumpR, ea, e9]; rfl) ea.symm, (by repeat (first | exact Below.refl _ _ | refine below_step ?_ (by assumption) | refine below_step ?_ (Later.below _) | refine below_alloc ?_ _ | refine Below.drew ?_ | refine Below.setCell ?_ (by first | (simp; done) | (simp; omega)) _))⟩)
end Go.Proofs.Ytcbonkhlpcbckaa

/- Laws over lines of hoses: what the law's call returns. -/
import Derived.Test.YtilgejanooifoaaHoseQ
import Derived.Test.YtilgejanooifoaaConvHose
namespace Go.Proofs.Ytilgejanooifoaa
open Go.RowKit
set_option linter.unusedVariables false

theorem szHose_neg {n : Nat} (h : 1048576 < n) : szHose n 1048576 = -1 := by unfold szHose; rw [if_pos (by omega)]
theorem szHose_pos {n : Nat} (h : n ≤ 1048576) : szHose n 1048576 = 1048576 - (n : Int) := by unfold szHose; rw [if_neg (by omega)]

set_option maxHeartbeats 2000000 in
theorem FnExactLineLoss_walk (A : Option Addr) (n c : Nat) (hs : List (Int × Int)) (f : Int) (w : World) (hn : n = hs.length) (hnc : n ≤ c) (hc : c ≤ maxLen) (hr : Rd w A (hs.flatMap hcells)) (_ : (Lit.int .i64 f).wf = true) :
    Calls Try.prog 10 #[.slice A n c, .int .i64 f] w fun e w' => e = .returned (.bool true) ∧ Below w.heap.size w w' := by
  have Hn := hide hn
  have HR := hide hr
  clear hn hr
  by_cases hm : n ≤ 1048576
  · have sz := fun w => szHoseS_any A n c 1048576 w (by omega) (by omega) (by omega)
    rw [szHose_pos hm] at sz
    clear hnc hc
    go_enter Try.func10, Try.ntmps10
    go_wp2_with (go_at_call 27; ((with_reducible refine (sz _).mono ?_); rintro e w' ⟨rfl, rfl⟩))
    refine (toHoseS_any A n c hs _ Hn.out hm HR.out).mono ?_
    rintro e w1 ⟨rfl, hr1, hb1⟩
    have HR1 := hide hr1.rd
    clear hr1
    go_wp2_with fail
    refine (specLineLoss_any _ n n f hs _ Hn.out hm HR1.out).mono ?_
    rintro e w2 ⟨rfl, hb2⟩
    have HW2 := hide (below_step hb1 hb2)
    go_wp2_with fail
    refine (toHoseS_any A n c hs _ Hn.out hm (HR.out.below HW2.out)).mono ?_
    rintro e w3 ⟨rfl, hr3, hb3⟩
    have HR3 := hide hr3.rd
    clear hr3
    go_wp2_with fail
    refine (implLineLoss_any _ n n f hs _ Hn.out hm HR3.out).mono ?_
    rintro e w4 ⟨rfl, hb4⟩
    have HW4 := hide (below_step (below_step HW2.out hb3) hb4)
    go_wp2_with fail
    refine (toHoseS_any A n c hs _ Hn.out hm (HR.out.below HW4.out)).mono ?_
    rintro e w5 ⟨rfl, hr5, hb5⟩
    have HR5 := hide hr5.rd
    have HR35 := hide ((HR3.out.below hb4).below hb5)
    clear hr5
    go_wp2_with fail
    refine (eqHoseS_same _ _ n n n hs _ Hn.out hm HR35.out HR5.out).mono ?_
    rintro e w6 ⟨rfl, hb6⟩
    go_wp2
    go_ret
    exact ⟨rfl, (by repeat (first | exact Below.refl _ _ | refine below_step ?_ (by assumption) | refine below_alloc ?_ _ | refine Below.drew ?_ | refine Below.setCell ?_ (by first | (simp; done) | (simp; omega)) _))⟩
  · have sz := fun w => szHoseS_any A n c 1048576 w (by omega) (by omega) (by omega)
    rw [szHose_neg (by omega)] at sz
    clear hnc hc
    go_enter Try.func10, Try.ntmps10
    go_wp2_with (go_at_call 27; ((with_reducible refine (sz _).mono ?_); rintro e w' ⟨rfl, rfl⟩))
    go_ret
    exact ⟨rfl, Below.refl _ _⟩
set_option maxHeartbeats 2000000 in
theorem FnExactGreatestFlow_walk (A : Option Addr) (n c : Nat) (hs : List (Int × Int)) (f : Int) (w : World) (hn : n = hs.length) (hnc : n ≤ c) (hc : c ≤ maxLen) (hr : Rd w A (hs.flatMap hcells)) (_ : (Lit.int .i64 f).wf = true) :
    Calls Try.prog 11 #[.slice A n c, .int .i64 f] w fun e w' => e = .returned (.bool true) ∧ Below w.heap.size w w' := by
  have Hn := hide hn
  have HR := hide hr
  clear hn hr
  by_cases hm : n ≤ 1048576
  · have sz := fun w => szHoseS_any A n c 1048576 w (by omega) (by omega) (by omega)
    rw [szHose_pos hm] at sz
    clear hnc hc
    go_enter Try.func11, Try.ntmps11
    go_wp2_with (go_at_call 27; ((with_reducible refine (sz _).mono ?_); rintro e w' ⟨rfl, rfl⟩))
    refine (toHoseS_any A n c hs _ Hn.out hm HR.out).mono ?_
    rintro e w1 ⟨rfl, hr1, hb1⟩
    have HR1 := hide hr1.rd
    clear hr1
    go_wp2_with fail
    refine (specGreatestFlow_any _ n n f hs _ Hn.out hm HR1.out).mono ?_
    rintro e w2 ⟨rfl, hb2⟩
    have HW2 := hide (below_step hb1 hb2)
    go_wp2_with fail
    refine (toHoseS_any A n c hs _ Hn.out hm (HR.out.below HW2.out)).mono ?_
    rintro e w3 ⟨rfl, hr3, hb3⟩
    have HR3 := hide hr3.rd
    clear hr3
    go_wp2_with fail
    refine (implGreatestFlow_any _ n n f hs _ Hn.out hm HR3.out).mono ?_
    rintro e w4 ⟨rfl, hb4⟩
    have HW4 := hide (below_step (below_step HW2.out hb3) hb4)
    go_wp2_with fail
    refine (toHoseS_any A n c hs _ Hn.out hm (HR.out.below HW4.out)).mono ?_
    rintro e w5 ⟨rfl, hr5, hb5⟩
    have HR5 := hide hr5.rd
    have HR35 := hide ((HR3.out.below hb4).below hb5)
    clear hr5
    go_wp2_with fail
    refine (eqHoseS_same _ _ n n n hs _ Hn.out hm HR35.out HR5.out).mono ?_
    rintro e w6 ⟨rfl, hb6⟩
    go_wp2
    go_ret
    exact ⟨rfl, (by repeat (first | exact Below.refl _ _ | refine below_step ?_ (by assumption) | refine below_alloc ?_ _ | refine Below.drew ?_ | refine Below.setCell ?_ (by first | (simp; done) | (simp; omega)) _))⟩
  · have sz := fun w => szHoseS_any A n c 1048576 w (by omega) (by omega) (by omega)
    rw [szHose_neg (by omega)] at sz
    clear hnc hc
    go_enter Try.func11, Try.ntmps11
    go_wp2_with (go_at_call 27; ((with_reducible refine (sz _).mono ?_); rintro e w' ⟨rfl, rfl⟩))
    go_ret
    exact ⟨rfl, Below.refl _ _⟩
set_option maxHeartbeats 2000000 in
theorem FnExactPumpPressure_walk (A : Option Addr) (n c : Nat) (hs : List (Int × Int)) (r y f : Int) (w : World) (hn : n = hs.length) (hnc : n ≤ c) (hc : c ≤ maxLen) (hr : Rd w A (hs.flatMap hcells)) (_ : (Lit.int .i64 r).wf = true) (_ : (Lit.int .i64 y).wf = true) (_ : (Lit.int .i64 f).wf = true) :
    Calls Try.prog 12 #[.slice A n c, .int .i64 r, .int .i64 y, .int .i64 f] w fun e w' => e = .returned (.bool true) ∧ Below w.heap.size w w' := by
  have Hn := hide hn
  have HR := hide hr
  clear hn hr
  by_cases hm : n ≤ 1048576
  · have sz := fun w => szHoseS_any A n c 1048576 w (by omega) (by omega) (by omega)
    rw [szHose_pos hm] at sz
    clear hnc hc
    go_enter Try.func12, Try.ntmps12
    go_wp2_with (go_at_call 27; ((with_reducible refine (sz _).mono ?_); rintro e w' ⟨rfl, rfl⟩))
    refine (toHoseS_any A n c hs _ Hn.out hm HR.out).mono ?_
    rintro e w1 ⟨rfl, hr1, hb1⟩
    have HR1 := hide hr1.rd
    clear hr1
    go_wp2_with fail
    refine (specPumpPressure_any _ n n r y f hs _ Hn.out hm HR1.out).mono ?_
    rintro e w2 ⟨rfl, hb2⟩
    have HW2 := hide (below_step hb1 hb2)
    go_wp2_with fail
    refine (toHoseS_any A n c hs _ Hn.out hm (HR.out.below HW2.out)).mono ?_
    rintro e w3 ⟨rfl, hr3, hb3⟩
    have HR3 := hide hr3.rd
    clear hr3
    go_wp2_with fail
    refine (implPumpPressure_any _ n n r y f hs _ Hn.out hm HR3.out).mono ?_
    rintro e w4 ⟨rfl, hb4⟩
    have HW4 := hide (below_step (below_step HW2.out hb3) hb4)
    go_wp2_with fail
    refine (toHoseS_any A n c hs _ Hn.out hm (HR.out.below HW4.out)).mono ?_
    rintro e w5 ⟨rfl, hr5, hb5⟩
    have HR5 := hide hr5.rd
    have HR35 := hide ((HR3.out.below hb4).below hb5)
    clear hr5
    go_wp2_with fail
    refine (eqHoseS_same _ _ n n n hs _ Hn.out hm HR35.out HR5.out).mono ?_
    rintro e w6 ⟨rfl, hb6⟩
    go_wp2
    go_ret
    exact ⟨rfl, (by repeat (first | exact Below.refl _ _ | refine below_step ?_ (by assumption) | refine below_alloc ?_ _ | refine Below.drew ?_ | refine Below.setCell ?_ (by first | (simp; done) | (simp; omega)) _))⟩
  · have sz := fun w => szHoseS_any A n c 1048576 w (by omega) (by omega) (by omega)
    rw [szHose_neg (by omega)] at sz
    clear hnc hc
    go_enter Try.func12, Try.ntmps12
    go_wp2_with (go_at_call 27; ((with_reducible refine (sz _).mono ?_); rintro e w' ⟨rfl, rfl⟩))
    go_ret
    exact ⟨rfl, Below.refl _ _⟩
end Go.Proofs.Ytilgejanooifoaa

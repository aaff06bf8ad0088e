/- Laws over calls: what the law's call returns. -/
import Derived.Test.YthdfhddlebeonaaCallB
import Derived.Test.YthdfhddlebeonaaConvCall
namespace Go.Proofs.Ythdfhddlebeonaa
open Go.RowKit
set_option linter.unusedVariables false

theorem szCall_neg {n : Nat} (h : 1048576 < n) : szCall n 1048576 = -1 := by unfold szCall; rw [if_pos (by omega)]
theorem szCall_pos {n : Nat} (h : n ≤ 1048576) : szCall n 1048576 = 1048576 - (n : Int) := by unfold szCall; rw [if_neg (by omega)]

set_option maxHeartbeats 4000000 in
theorem FnExactDistanceOf_walk (x0 x1 x2 x3 x4 y0 y1 y2 y3 y4 : Int) (w : World) :
    Calls Try.prog 3 #[.agg #[.int .i64 x0, .int .i64 x1, .int .i64 x2, .int .i64 x3, .int .i64 x4], .agg #[.int .i64 y0, .int .i64 y1, .int .i64 y2, .int .i64 y3, .int .i64 y4]] w fun e w' => e = .returned (.bool true) ∧ Below w.heap.size w w' := by
  go_enter Try.func3, Try.ntmps3
  go_wp2_with fail
  (refine wp_region_later (by kernel_rfl) (by kernel_rfl) ?_; (repeat (go_big_quiet_step (first | (go_at_call 16; with_reducible exact calls_later (toCall_any _ _ _ _ _ _)) | (go_at_call 15; with_reducible exact calls_later (specDistanceOf_any _ _ _ _ _ _ _ _ _ _ _))))); refine wpQuiet_nil ?_; refine later_intro (fun w1 hb1 => ?_); (first | (obtain ⟨n1, rfl⟩ := later_up n1 hb1) | (obtain ⟨n1, rfl⟩ := later_of hb1)); clear hb1)
  go_wp2_with fail
  (refine wp_region_later (by kernel_rfl) (by kernel_rfl) ?_; (repeat (go_big_quiet_step (first | (go_at_call 16; with_reducible exact calls_later (toCall_any _ _ _ _ _ _)) | (go_at_call 17; with_reducible exact calls_later (implDistanceOf_any _ _ _ _ _ _ _ _ _ _ _))))); refine wpQuiet_nil ?_; refine later_intro (fun w1 hb1 => ?_); (first | (obtain ⟨n1, rfl⟩ := later_up n1 hb1) | (obtain ⟨n1, rfl⟩ := later_of hb1)); clear hb1)
  go_wp2
  go_ret
  exact ⟨rfl, (by repeat (first | exact Below.refl _ _ | refine below_step ?_ (by assumption) | refine below_step ?_ (Later.below _) | refine below_alloc ?_ _ | refine Below.drew ?_ | refine Below.setCell ?_ (by first | (simp; done) | (simp; omega)) _))⟩

set_option maxHeartbeats 4000000 in
theorem FnExactAreOneEvent_walk (x0 x1 x2 x3 x4 y0 y1 y2 y3 y4 win rad : Int) (w : World) (_ : (Lit.int .i64 win).wf = true) (_ : (Lit.int .i64 rad).wf = true) :
    Calls Try.prog 4 #[.agg #[.int .i64 x0, .int .i64 x1, .int .i64 x2, .int .i64 x3, .int .i64 x4], .agg #[.int .i64 y0, .int .i64 y1, .int .i64 y2, .int .i64 y3, .int .i64 y4], .int .i64 win, .int .i64 rad] w fun e w' => e = .returned (.bool true) ∧ Below w.heap.size w w' := by
  go_enter Try.func4, Try.ntmps4
  go_wp2_with fail
  (refine wp_region_later (by kernel_rfl) (by kernel_rfl) ?_; (repeat (go_big_quiet_step (first | (go_at_call 16; with_reducible exact calls_later (toCall_any _ _ _ _ _ _)) | (go_at_call 18; with_reducible exact calls_later (specAreOneEvent_any _ _ _ _ _ _ _ _ _ _ _ _ _))))); refine wpQuiet_nil ?_; refine later_intro (fun w1 hb1 => ?_); (first | (obtain ⟨n1, rfl⟩ := later_up n1 hb1) | (obtain ⟨n1, rfl⟩ := later_of hb1)); clear hb1)
  go_wp2_with fail
  (refine wp_region_later (by kernel_rfl) (by kernel_rfl) ?_; (repeat (go_big_quiet_step (first | (go_at_call 16; with_reducible exact calls_later (toCall_any _ _ _ _ _ _)) | (go_at_call 19; with_reducible exact calls_later (implAreOneEvent_any _ _ _ _ _ _ _ _ _ _ _ _ _))))); refine wpQuiet_nil ?_; refine later_intro (fun w1 hb1 => ?_); (first | (obtain ⟨n1, rfl⟩ := later_up n1 hb1) | (obtain ⟨n1, rfl⟩ := later_of hb1)); clear hb1)
  go_wp2
  go_ret
  exact ⟨rfl, (by repeat (first | exact Below.refl _ _ | refine below_step ?_ (by assumption) | refine below_step ?_ (Later.below _) | refine below_alloc ?_ _ | refine Below.drew ?_ | refine Below.setCell ?_ (by first | (simp; done) | (simp; omega)) _))⟩

set_option maxHeartbeats 2000000 in
theorem FnExactAreCalls_walk (A : Option Addr) (n c : Nat) (hs : List (Int × Int × Int × Int × Int))  (w : World) (hn : n = hs.length) (hnc : n ≤ c) (hc : c ≤ maxLen) (hr : Rd w A (hs.flatMap ccells))  :
    Calls Try.prog 5 #[.slice A n c] w fun e w' => e = .returned (.bool true) ∧ Below w.heap.size w w' := by
  have Hn := hide hn
  have HR := hide hr
  clear hn hr
  by_cases hm : n ≤ 1048576
  · have sz := fun w => szCallS_any A n c 1048576 w (by omega) (by omega) (by omega)
    rw [szCall_pos hm] at sz
    clear hnc hc
    go_enter Try.func5, Try.ntmps5
    go_wp2_with (go_at_call 20; ((with_reducible refine (sz _).mono ?_); rintro e w' ⟨rfl, rfl⟩))
    refine (toCallS_any A n c hs _ Hn.out hm HR.out).mono ?_
    rintro e w1 ⟨rfl, hr1, hb1⟩
    have HR1 := hide hr1.rd
    clear hr1
    go_wp2_with fail
    refine (specAreCalls_any _ n n  hs _ Hn.out hm HR1.out).mono ?_
    rintro e w2 ⟨rfl, hb2⟩
    have HW2 := hide (below_step hb1 hb2)
    go_wp2_with fail
    refine (toCallS_any A n c hs _ Hn.out hm (HR.out.below HW2.out)).mono ?_
    rintro e w3 ⟨rfl, hr3, hb3⟩
    have HR3 := hide hr3.rd
    clear hr3
    go_wp2_with fail
    refine (implAreCalls_any _ n n  hs _ Hn.out hm HR3.out).mono ?_
    rintro e w4 ⟨rfl, hb4⟩
    have HW4 := hide (below_step (below_step HW2.out hb3) hb4)
    go_wp2_with fail
    refine (toCallS_any A n c hs _ Hn.out hm (HR.out.below HW4.out)).mono ?_
    rintro e w5 ⟨rfl, hr5, hb5⟩
    have HR5 := hide hr5.rd
    have HR35 := hide ((HR3.out.below hb4).below hb5)
    clear hr5
    go_wp2_with fail
    refine (eqCallS_same _ _ n n n hs _ Hn.out hm HR35.out HR5.out).mono ?_
    rintro e w6 ⟨rfl, hb6⟩
    go_wp2
    go_ret
    exact ⟨rfl, (by repeat (first | exact Below.refl _ _ | refine below_step ?_ (by assumption) | refine below_step ?_ (Later.below _) | refine below_alloc ?_ _ | refine Below.drew ?_ | refine Below.setCell ?_ (by first | (simp; done) | (simp; omega)) _))⟩
  · have sz := fun w => szCallS_any A n c 1048576 w (by omega) (by omega) (by omega)
    rw [szCall_neg (by omega)] at sz
    clear hnc hc
    go_enter Try.func5, Try.ntmps5
    go_wp2_with (go_at_call 20; ((with_reducible refine (sz _).mono ?_); rintro e w' ⟨rfl, rfl⟩))
    go_ret
    exact ⟨rfl, Below.refl _ _⟩
end Go.Proofs.Ythdfhddlebeonaa

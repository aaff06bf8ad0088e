/- Two calls: whether they are valid, their distance, whether they are one event. -/
import Derived.Test.YthdfhddlebeonaaSmall
namespace Go.Proofs.Ythdfhddlebeonaa
open Go.RowKit
set_option linter.unusedVariables false

def callB (x0 x1 x2 x3 x4 : Int) : Bool := inB x0 0 99999 && inB x1 0 9999 && inB x2 0 9999 && inB x3 0 5 && inB x4 1 9999

set_option maxHeartbeats 1000000 in
theorem isCall_any (x0 x1 x2 x3 x4 : Int) (w : World) :
    Calls Try.prog 59 #[.agg #[.int .i64 x0, .int .i64 x1, .int .i64 x2, .int .i64 x3, .int .i64 x4]] w fun e w' => e = .returned (.bool (callB x0 x1 x2 x3 x4)) ∧ Below w.heap.size w w' := by
  go_enter Try.func59, Try.ntmps59
  go_wp2_with (go_at_call 69; ((with_reducible refine (inside_any _ _ _ _).mono ?_); rintro e w' ⟨rfl, rfl⟩))
  all_goals
    go_ret
    exact ⟨ret_bool (by simp [callB, *]), (by repeat (first | exact Below.refl _ _ | refine below_step ?_ (by assumption) | refine below_step ?_ (Later.below _) | refine below_alloc ?_ _ | refine Below.drew ?_ | refine Below.setCell ?_ (by first | (simp; done) | (simp; omega)) _))⟩
set_option maxHeartbeats 1000000 in
theorem clOne_any (x0 x1 x2 x3 x4 : Int) (w : World) :
    Calls Try.prog 57 #[.agg #[.int .i64 x0, .int .i64 x1, .int .i64 x2, .int .i64 x3, .int .i64 x4]] w fun e w' => e = .returned (.bool (callB x0 x1 x2 x3 x4)) ∧ Below w.heap.size w w' := by
  go_enter Try.func57, Try.ntmps57
  go_wp2_with (go_at_call 68; ((with_reducible refine (l1In_any _ _ _ _).mono ?_); rintro e w' ⟨rfl, rfl⟩))
  all_goals
    go_ret
    exact ⟨ret_bool (by simp [callB, *]), (by repeat (first | exact Below.refl _ _ | refine below_step ?_ (by assumption) | refine below_step ?_ (Later.below _) | refine below_alloc ?_ _ | refine Below.drew ?_ | refine Below.setCell ?_ (by first | (simp; done) | (simp; omega)) _))⟩

/-- The difference of two numbers, without its sign. -/
def dif (a b : Int) : Int := if a ≤ b then b - a else a - b

set_option maxHeartbeats 400000 in
theorem between_any (a b : Int) (w : World) (h0 : -1000000000 ≤ a) (h1 : a ≤ 1000000000) (h2 : -1000000000 ≤ b) (h3 : b ≤ 1000000000) :
    Calls Try.prog 89 #[.int .i64 a, .int .i64 b] w fun e w' => e = .returned (.int .i64 (dif a b)) ∧ w = w' := by
  go_enter Try.func89, Try.ntmps89
  go_wp2
  all_goals
    go_ret
    exact ⟨ret_int (by unfold dif; split <;> omega), rfl⟩

set_option maxHeartbeats 400000 in
theorem l1Abs_any (a b : Int) (w : World) (h0 : -1000000000 ≤ a) (h1 : a ≤ 1000000000) (h2 : -1000000000 ≤ b) (h3 : b ≤ 1000000000) :
    Calls Try.prog 88 #[.int .i64 (a - b)] w fun e w' => e = .returned (.int .i64 (dif a b)) ∧ w = w' := by
  go_enter Try.func88, Try.ntmps88
  go_wp2_with (go_at_call 83; ((with_reducible refine (l1Most_any _ _ _).mono ?_); rintro e w' ⟨rfl, rfl⟩))
  all_goals
    go_ret
    exact ⟨ret_int (by unfold dif; split <;> omega), rfl⟩

def far (x1 x2 y1 y2 : Int) : Int := dif x1 y1 + dif x2 y2
theorem dif_bd {a b : Int} (h0 : -1000000000 ≤ a) (h1 : a ≤ 1000000000) (h2 : -1000000000 ≤ b) (h3 : b ≤ 1000000000) : 0 ≤ dif a b ∧ dif a b ≤ 2000000000 := by unfold dif; split <;> omega

def ok9 (a : Int) : Prop := -1000000000 ≤ a ∧ a ≤ 1000000000
theorem callB_ok {x0 x1 x2 x3 x4 : Int} (h : callB x0 x1 x2 x3 x4 = true) : (0 ≤ x0 ∧ x0 ≤ 99999) ∧ (0 ≤ x1 ∧ x1 ≤ 9999) ∧ (0 ≤ x2 ∧ x2 ≤ 9999) ∧ (0 ≤ x3 ∧ x3 ≤ 5) ∧ (1 ≤ x4 ∧ x4 ≤ 9999) := by
  simp only [callB, Bool.and_eq_true, inB_iff] at h
  omega

set_option maxHeartbeats 1000000 in
theorem distance_any (x0 x1 x2 x3 x4 y0 y1 y2 y3 y4 : Int) (w : World) (hx : callB x0 x1 x2 x3 x4 = true) (hy : callB y0 y1 y2 y3 y4 = true) :
    Calls Try.prog 60 #[.agg #[.int .i64 x0, .int .i64 x1, .int .i64 x2, .int .i64 x3, .int .i64 x4], .agg #[.int .i64 y0, .int .i64 y1, .int .i64 y2, .int .i64 y3, .int .i64 y4]] w fun e w' => e = .returned (.int .i64 (far x1 x2 y1 y2)) ∧ Below w.heap.size w w' := by
  obtain ⟨_, ⟨a0, a1⟩, ⟨a2, a3⟩, _, _⟩ := callB_ok hx
  obtain ⟨_, ⟨b0, b1⟩, ⟨b2, b3⟩, _, _⟩ := callB_ok hy
  obtain ⟨d0, d1⟩ := dif_bd (a := x1) (b := y1) (by omega) (by omega) (by omega) (by omega)
  obtain ⟨d2, d3⟩ := dif_bd (a := x2) (b := y2) (by omega) (by omega) (by omega) (by omega)
  have ef : IntKind.i64.wrap (dif x1 y1 + dif x2 y2) = dif x1 y1 + dif x2 y2 := IntWalk.i64_in _ (by omega)
  have q1 := fun w => between_any x1 y1 w (by omega) (by omega) (by omega) (by omega)
  have q2 := fun w => between_any x2 y2 w (by omega) (by omega) (by omega) (by omega)
  have Q1 := hide q1
  have Q2 := hide q2
  clear hx hy q1 q2
  go_enter Try.func60, Try.ntmps60
  go_wp2_with fail
  refine wp_region_later (by kernel_rfl) (by kernel_rfl) ?_
  repeat (go_big_quiet_step (first | (go_at_call 89; with_reducible exact calls_later_same (Q1.out _)) | (go_at_call 89; with_reducible exact calls_later_same (Q2.out _))))
  refine wpQuiet_nil ?_
  refine later_intro fun w1 hb1 => ?_
  clear ef
  go_wp2
  go_ret
  exact ⟨ret_int (by rfl), (by repeat (first | exact Below.refl _ _ | refine below_step ?_ (by assumption) | refine below_step ?_ (Later.below _) | refine below_alloc ?_ _ | refine Below.drew ?_ | refine Below.setCell ?_ (by first | (simp; done) | (simp; omega)) _))⟩

set_option maxHeartbeats 1000000 in
theorem clFar_any (x0 x1 x2 x3 x4 y0 y1 y2 y3 y4 : Int) (w : World) (hx : callB x0 x1 x2 x3 x4 = true) (hy : callB y0 y1 y2 y3 y4 = true) :
    Calls Try.prog 58 #[.agg #[.int .i64 x0, .int .i64 x1, .int .i64 x2, .int .i64 x3, .int .i64 x4], .agg #[.int .i64 y0, .int .i64 y1, .int .i64 y2, .int .i64 y3, .int .i64 y4]] w fun e w' => e = .returned (.int .i64 (far x1 x2 y1 y2)) ∧ Below w.heap.size w w' := by
  obtain ⟨_, ⟨a0, a1⟩, ⟨a2, a3⟩, _, _⟩ := callB_ok hx
  obtain ⟨_, ⟨b0, b1⟩, ⟨b2, b3⟩, _, _⟩ := callB_ok hy
  obtain ⟨d0, d1⟩ := dif_bd (a := x1) (b := y1) (by omega) (by omega) (by omega) (by omega)
  obtain ⟨d2, d3⟩ := dif_bd (a := x2) (b := y2) (by omega) (by omega) (by omega) (by omega)
  have ef : IntKind.i64.wrap (dif x1 y1 + dif x2 y2) = dif x1 y1 + dif x2 y2 := IntWalk.i64_in _ (by omega)
  have eg : IntKind.i64.wrap (x1 - y1) = x1 - y1 := IntWalk.i64_in _ (by omega)
  have eh : IntKind.i64.wrap (x2 - y2) = x2 - y2 := IntWalk.i64_in _ (by omega)
  have q1 := fun w => l1Abs_any x1 y1 w (by omega) (by omega) (by omega) (by omega)
  have q2 := fun w => l1Abs_any x2 y2 w (by omega) (by omega) (by omega) (by omega)
  have Q1 := hide q1
  have Q2 := hide q2
  clear hx hy q1 q2
  go_enter Try.func58, Try.ntmps58
  go_wp2_with fail
  refine wp_region_later (by kernel_rfl) (by kernel_rfl) ?_
  repeat (go_big_quiet_step (first | (go_at_call 88; with_reducible exact calls_later_same (Q1.out _)) | (go_at_call 88; with_reducible exact calls_later_same (Q2.out _))))
  refine wpQuiet_nil ?_
  refine later_intro fun w1 hb1 => ?_
  clear ef eg eh
  go_wp2
  go_ret
  exact ⟨ret_int (by rfl), (by repeat (first | exact Below.refl _ _ | refine below_step ?_ (by assumption) | refine below_step ?_ (Later.below _) | refine below_alloc ?_ _ | refine Below.drew ?_ | refine Below.setCell ?_ (by first | (simp; done) | (simp; omega)) _))⟩

def evB (x0 x1 x2 x3 y0 y1 y2 y3 win rad : Int) : Bool := decide (dif x0 y0 ≤ win) && decide (far x1 x2 y1 y2 ≤ rad) && (x3 == y3 || x3 == 0 || y3 == 0)

set_option maxHeartbeats 4000000 in
theorem oneEvent_any (x0 x1 x2 x3 x4 y0 y1 y2 y3 y4 win rad : Int) (w : World) (hx : callB x0 x1 x2 x3 x4 = true) (hy : callB y0 y1 y2 y3 y4 = true) :
    Calls Try.prog 64 #[.agg #[.int .i64 x0, .int .i64 x1, .int .i64 x2, .int .i64 x3, .int .i64 x4], .agg #[.int .i64 y0, .int .i64 y1, .int .i64 y2, .int .i64 y3, .int .i64 y4], .int .i64 win, .int .i64 rad] w fun e w' => e = .returned (.bool (evB x0 x1 x2 x3 y0 y1 y2 y3 win rad)) ∧ Below w.heap.size w w' := by
  obtain ⟨⟨a0, a1⟩, _, _, ⟨a2, a3⟩, _⟩ := callB_ok hx
  obtain ⟨⟨b0, b1⟩, _, _, ⟨b2, b3⟩, _⟩ := callB_ok hy
  have HX := hide hx
  have HY := hide hy
  clear hx hy
  go_enter Try.func64, Try.ntmps64
  go_wp2_with (first | (go_at_call 89; ((with_reducible refine (between_any _ _ _ (by omega) (by omega) (by omega) (by omega)).mono ?_); rintro e w' ⟨rfl, rfl⟩)) | (go_at_call 88; ((with_reducible refine (l1Abs_any _ _ _ (by omega) (by omega) (by omega) (by omega)).mono ?_); rintro e w' ⟨rfl, rfl⟩)) | (go_at_call 60; ((with_reducible refine (distance_any _ _ _ _ _ _ _ _ _ _ _ HX.out HY.out).mono ?_); rintro e w1 ⟨rfl, hb1⟩); obtain ⟨hc1, hf1⟩ := bcell hb1))
  all_goals
    go_ret
    exact ⟨ret_bool (by simp [evB, *] <;> omega), (by repeat (first | exact Below.refl _ _ | refine below_step ?_ (by assumption) | refine below_step ?_ (Later.below _) | refine below_alloc ?_ _ | refine Below.drew ?_ | refine Below.setCell ?_ (by first | (simp; done) | (simp; omega)) _))⟩
set_option maxHeartbeats 4000000 in
theorem clSame_any (x0 x1 x2 x3 x4 y0 y1 y2 y3 y4 win rad : Int) (w : World) (hx : callB x0 x1 x2 x3 x4 = true) (hy : callB y0 y1 y2 y3 y4 = true) :
    Calls Try.prog 62 #[.agg #[.int .i64 x0, .int .i64 x1, .int .i64 x2, .int .i64 x3, .int .i64 x4], .agg #[.int .i64 y0, .int .i64 y1, .int .i64 y2, .int .i64 y3, .int .i64 y4], .int .i64 win, .int .i64 rad] w fun e w' => e = .returned (.bool (evB x0 x1 x2 x3 y0 y1 y2 y3 win rad)) ∧ Below w.heap.size w w' := by
  obtain ⟨⟨a0, a1⟩, _, _, ⟨a2, a3⟩, _⟩ := callB_ok hx
  obtain ⟨⟨b0, b1⟩, _, _, ⟨b2, b3⟩, _⟩ := callB_ok hy
  have HX := hide hx
  have HY := hide hy
  clear hx hy
  go_enter Try.func62, Try.ntmps62
  go_wp2_with (first | (go_at_call 89; ((with_reducible refine (between_any _ _ _ (by omega) (by omega) (by omega) (by omega)).mono ?_); rintro e w' ⟨rfl, rfl⟩)) | (go_at_call 88; ((with_reducible refine (l1Abs_any _ _ _ (by omega) (by omega) (by omega) (by omega)).mono ?_); rintro e w' ⟨rfl, rfl⟩)) | (go_at_call 58; ((with_reducible refine (clFar_any _ _ _ _ _ _ _ _ _ _ _ HX.out HY.out).mono ?_); rintro e w1 ⟨rfl, hb1⟩); obtain ⟨hc1, hf1⟩ := bcell hb1))
  all_goals
    go_ret
    exact ⟨ret_bool (by simp [evB, *] <;> omega), (by repeat (first | exact Below.refl _ _ | refine below_step ?_ (by assumption) | refine below_step ?_ (Later.below _) | refine below_alloc ?_ _ | refine Below.drew ?_ | refine Below.setCell ?_ (by first | (simp; done) | (simp; omega)) _))⟩
end Go.Proofs.Ythdfhddlebeonaa

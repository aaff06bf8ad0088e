/- Two calls: whether they are valid, their distance, whether they are one event. -/
import Derived.Test.YtmmeoabmjbclcaaSmall
namespace Go.Proofs.Ytmmeoabmjbclcaa
open Go.RowKit
set_option linter.unusedVariables false

def callB (x0 x1 x2 x3 x4 : Int) : Bool := inB x0 0 99999 && inB x1 0 9999 && inB x2 0 9999 && inB x3 0 5 && inB x4 1 9999

set_option maxHeartbeats 1000000 in
theorem isCall_any (x0 x1 x2 x3 x4 : Int) (w : World) :
    Calls Try.prog 29 #[.agg #[.int .i64 x0, .int .i64 x1, .int .i64 x2, .int .i64 x3, .int .i64 x4]] w fun e w' => e = .returned (.bool (callB x0 x1 x2 x3 x4)) ∧ Below w.heap.size w w' := by
  go_enter Try.func29, Try.ntmps29
  go_wp2_with (go_at_call 25; ((with_reducible refine (inside_any _ _ _ _).mono ?_); rintro e w' ⟨rfl, rfl⟩))
  all_goals
    go_ret
    exact ⟨ret_bool (by simp [callB, *]), (by repeat (first | exact Below.refl _ _ | refine below_step ?_ (by assumption) | refine below_step ?_ (Later.below _) | refine below_alloc ?_ _ | refine Below.drew ?_ | refine Below.setCell ?_ (by first | (simp; done) | (simp; omega)) _))⟩
set_option maxHeartbeats 1000000 in
theorem clOne_any (x0 x1 x2 x3 x4 : Int) (w : World) :
    Calls Try.prog 30 #[.agg #[.int .i64 x0, .int .i64 x1, .int .i64 x2, .int .i64 x3, .int .i64 x4]] w fun e w' => e = .returned (.bool (callB x0 x1 x2 x3 x4)) ∧ Below w.heap.size w w' := by
  go_enter Try.func30, Try.ntmps30
  go_wp2_with (go_at_call 31; ((with_reducible refine (l1In_any _ _ _ _).mono ?_); rintro e w' ⟨rfl, rfl⟩))
  all_goals
    go_ret
    exact ⟨ret_bool (by simp [callB, *]), (by repeat (first | exact Below.refl _ _ | refine below_step ?_ (by assumption) | refine below_step ?_ (Later.below _) | refine below_alloc ?_ _ | refine Below.drew ?_ | refine Below.setCell ?_ (by first | (simp; done) | (simp; omega)) _))⟩

/-- The difference of two numbers, without its sign. -/
def dif (a b : Int) : Int := if a ≤ b then b - a else a - b

def far (x1 x2 y1 y2 : Int) : Int := dif x1 y1 + dif x2 y2
theorem dif_bd {a b : Int} (h0 : -1000000000 ≤ a) (h1 : a ≤ 1000000000) (h2 : -1000000000 ≤ b) (h3 : b ≤ 1000000000) : 0 ≤ dif a b ∧ dif a b ≤ 2000000000 := by unfold dif; split <;> omega

def ok9 (a : Int) : Prop := -1000000000 ≤ a ∧ a ≤ 1000000000
theorem callB_ok {x0 x1 x2 x3 x4 : Int} (h : callB x0 x1 x2 x3 x4 = true) : (0 ≤ x0 ∧ x0 ≤ 99999) ∧ (0 ≤ x1 ∧ x1 ≤ 9999) ∧ (0 ≤ x2 ∧ x2 ≤ 9999) ∧ (0 ≤ x3 ∧ x3 ≤ 5) ∧ (1 ≤ x4 ∧ x4 ≤ 9999) := by
  simp only [callB, Bool.and_eq_true, inB_iff] at h
  omega

def evB (x0 x1 x2 x3 y0 y1 y2 y3 win rad : Int) : Bool := decide (dif x0 y0 ≤ win) && decide (far x1 x2 y1 y2 ≤ rad) && (x3 == y3 || x3 == 0 || y3 == 0)

end Go.Proofs.Ytmmeoabmjbclcaa

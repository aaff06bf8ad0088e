/- DistanceOf and AreOneEvent: what each call returns. -/
import Derived.Test.YthdfhddlebeonaaCallA
namespace Go.Proofs.Ythdfhddlebeonaa
open Go.RowKit
set_option linter.unusedVariables false

def distOk (x0 x1 x2 x3 x4 y0 y1 y2 y3 y4 : Int) : Bool := callB x0 x1 x2 x3 x4 && callB y0 y1 y2 y3 y4
def distR (x0 x1 x2 x3 x4 y0 y1 y2 y3 y4 : Int) : Int := if distOk x0 x1 x2 x3 x4 y0 y1 y2 y3 y4 then far x1 x2 y1 y2 else 0

set_option maxHeartbeats 4000000 in
theorem implDistanceOf_any (x0 x1 x2 x3 x4 y0 y1 y2 y3 y4 : Int) (w : World) :
    Calls Try.prog 17 #[.agg #[.int .i64 x0, .int .i64 x1, .int .i64 x2, .int .i64 x3, .int .i64 x4], .agg #[.int .i64 y0, .int .i64 y1, .int .i64 y2, .int .i64 y3, .int .i64 y4]] w fun e w' => e = .returned (.tuple #[.int .i64 (distR x0 x1 x2 x3 x4 y0 y1 y2 y3 y4), .bool (distOk x0 x1 x2 x3 x4 y0 y1 y2 y3 y4)]) ∧ Below w.heap.size w w' := by
  go_enter Try.func17, Try.ntmps17
  go_wp2_with (first | (go_at_call 59; ((with_reducible refine (isCall_any _ _ _ _ _ _).mono ?_); rintro e w1 ⟨rfl, hb1⟩); obtain ⟨n1, rfl⟩ := later_of hb1; clear hb1) | (go_at_call 60; ((with_reducible refine (distance_any _ _ _ _ _ _ _ _ _ _ _ (by first | assumption | exact bnf (by assumption) | exact bnt (by assumption)) (by first | assumption | exact bnf (by assumption) | exact bnt (by assumption))).mono ?_); rintro e w2 ⟨rfl, hb2⟩); obtain ⟨n2, rfl⟩ := later_of hb2; clear hb2))
  all_goals
    ((try simp only [Bool.not_eq_true'] at *); (try simp only [Bool.not_eq_false'] at *))
    go_ret2
    exact ⟨ret_tup2 (by simp [distR, distOk, *]) (by simp [distOk, *]), (by repeat (first | exact Below.refl _ _ | refine below_step ?_ (by assumption) | refine below_step ?_ (Later.below _) | refine below_alloc ?_ _ | refine Below.drew ?_ | refine Below.setCell ?_ (by first | (simp; done) | (simp; omega)) _))⟩
set_option maxHeartbeats 4000000 in
theorem specDistanceOf_any (x0 x1 x2 x3 x4 y0 y1 y2 y3 y4 : Int) (w : World) :
    Calls Try.prog 15 #[.agg #[.int .i64 x0, .int .i64 x1, .int .i64 x2, .int .i64 x3, .int .i64 x4], .agg #[.int .i64 y0, .int .i64 y1, .int .i64 y2, .int .i64 y3, .int .i64 y4]] w fun e w' => e = .returned (.tuple #[.int .i64 (distR x0 x1 x2 x3 x4 y0 y1 y2 y3 y4), .bool (distOk x0 x1 x2 x3 x4 y0 y1 y2 y3 y4)]) ∧ Below w.heap.size w w' := by
  go_enter Try.func15, Try.ntmps15
  go_wp2_with (first | (go_at_call 57; ((with_reducible refine (clOne_any _ _ _ _ _ _).mono ?_); rintro e w1 ⟨rfl, hb1⟩); obtain ⟨n1, rfl⟩ := later_of hb1; clear hb1) | (go_at_call 58; ((with_reducible refine (clFar_any _ _ _ _ _ _ _ _ _ _ _ (by first | assumption | exact bnf (by assumption) | exact bnt (by assumption)) (by first | assumption | exact bnf (by assumption) | exact bnt (by assumption))).mono ?_); rintro e w2 ⟨rfl, hb2⟩); obtain ⟨n2, rfl⟩ := later_of hb2; clear hb2))
  all_goals
    ((try simp only [Bool.not_eq_true'] at *); (try simp only [Bool.not_eq_false'] at *))
    go_ret2
    exact ⟨ret_tup2 (by simp [distR, distOk, *]) (by simp [distOk, *]), (by repeat (first | exact Below.refl _ _ | refine below_step ?_ (by assumption) | refine below_step ?_ (Later.below _) | refine below_alloc ?_ _ | refine Below.drew ?_ | refine Below.setCell ?_ (by first | (simp; done) | (simp; omega)) _))⟩

def winB (win rad : Int) : Bool := inB win 0 120 && inB rad 0 5000
set_option maxHeartbeats 400000 in
theorem windowFits_any (a b : Int) (w : World) : Calls Try.prog 63 #[.int .i64 a, .int .i64 b] w fun e w' => e = .returned (.bool (winB a b)) ∧ w = w' := by
  go_enter Try.func63, Try.ntmps63
  go_wp2_with (go_at_call 69; ((with_reducible refine (inside_any _ _ _ _).mono ?_); rintro e w' ⟨rfl, rfl⟩))
  all_goals
    go_ret
    exact ⟨ret_bool (by simp [winB, *]), rfl⟩
set_option maxHeartbeats 400000 in
theorem clWindow_any (a : Int) (w : World) : Calls Try.prog 73 #[.int .i64 a] w fun e w' => e = .returned (.bool (inB a 0 120)) ∧ w = w' := by
  go_enter Try.func73, Try.ntmps73
  go_wp2_with (go_at_call 68; ((with_reducible refine (l1In_any _ _ _ _).mono ?_); rintro e w' ⟨rfl, rfl⟩))
  go_ret
  exact ⟨rfl, rfl⟩
set_option maxHeartbeats 400000 in
theorem clLimits_any (a b : Int) (w : World) : Calls Try.prog 61 #[.int .i64 a, .int .i64 b] w fun e w' => e = .returned (.bool (winB a b)) ∧ w = w' := by
  go_enter Try.func61, Try.ntmps61
  go_wp2_with (first | (go_at_call 68; ((with_reducible refine (l1In_any _ _ _ _).mono ?_); rintro e w' ⟨rfl, rfl⟩)) | (go_at_call 73; ((with_reducible refine (clWindow_any _ _).mono ?_); rintro e w' ⟨rfl, rfl⟩)))
  all_goals
    go_ret
    exact ⟨ret_bool (by simp [winB, *]), rfl⟩

def oneOk (x0 x1 x2 x3 x4 y0 y1 y2 y3 y4 win rad : Int) : Bool := callB x0 x1 x2 x3 x4 && callB y0 y1 y2 y3 y4 && winB win rad
def oneR (x0 x1 x2 x3 x4 y0 y1 y2 y3 y4 win rad : Int) : Bool := oneOk x0 x1 x2 x3 x4 y0 y1 y2 y3 y4 win rad && evB x0 x1 x2 x3 y0 y1 y2 y3 win rad

set_option maxHeartbeats 4000000 in
theorem implAreOneEvent_any (x0 x1 x2 x3 x4 y0 y1 y2 y3 y4 win rad : Int) (w : World) :
    Calls Try.prog 19 #[.agg #[.int .i64 x0, .int .i64 x1, .int .i64 x2, .int .i64 x3, .int .i64 x4], .agg #[.int .i64 y0, .int .i64 y1, .int .i64 y2, .int .i64 y3, .int .i64 y4], .int .i64 win, .int .i64 rad] w fun e w' => e = .returned (.tuple #[.bool (oneR x0 x1 x2 x3 x4 y0 y1 y2 y3 y4 win rad), .bool (oneOk x0 x1 x2 x3 x4 y0 y1 y2 y3 y4 win rad)]) ∧ Below w.heap.size w w' := by
  go_enter Try.func19, Try.ntmps19
  go_wp2_with (first | (go_at_call 59; ((with_reducible refine (isCall_any _ _ _ _ _ _).mono ?_); rintro e w1 ⟨rfl, hb1⟩); obtain ⟨n1, rfl⟩ := later_of hb1; clear hb1) | (go_at_call 63; ((with_reducible refine (windowFits_any _ _ _).mono ?_); rintro e w' ⟨rfl, rfl⟩)) | (go_at_call 64; ((with_reducible refine (oneEvent_any _ _ _ _ _ _ _ _ _ _ _ _ _ (by first | assumption | exact bnf (by assumption) | exact bnt (by assumption)) (by first | assumption | exact bnf (by assumption) | exact bnt (by assumption))).mono ?_); rintro e w2 ⟨rfl, hb2⟩); obtain ⟨n2, rfl⟩ := later_of hb2; clear hb2))
  all_goals
    ((try simp only [Bool.not_eq_true'] at *); (try simp only [Bool.not_eq_false'] at *))
    go_ret2
    exact ⟨ret_tupb (by simp [oneR, oneOk, *]) (by simp [oneOk, *]), (by repeat (first | exact Below.refl _ _ | refine below_step ?_ (by assumption) | refine below_step ?_ (Later.below _) | refine below_alloc ?_ _ | refine Below.drew ?_ | refine Below.setCell ?_ (by first | (simp; done) | (simp; omega)) _))⟩
set_option maxHeartbeats 4000000 in
theorem specAreOneEvent_any (x0 x1 x2 x3 x4 y0 y1 y2 y3 y4 win rad : Int) (w : World) :
    Calls Try.prog 18 #[.agg #[.int .i64 x0, .int .i64 x1, .int .i64 x2, .int .i64 x3, .int .i64 x4], .agg #[.int .i64 y0, .int .i64 y1, .int .i64 y2, .int .i64 y3, .int .i64 y4], .int .i64 win, .int .i64 rad] w fun e w' => e = .returned (.tuple #[.bool (oneR x0 x1 x2 x3 x4 y0 y1 y2 y3 y4 win rad), .bool (oneOk x0 x1 x2 x3 x4 y0 y1 y2 y3 y4 win rad)]) ∧ Below w.heap.size w w' := by
  go_enter Try.func18, Try.ntmps18
  go_wp2_with (first | (go_at_call 57; ((with_reducible refine (clOne_any _ _ _ _ _ _).mono ?_); rintro e w1 ⟨rfl, hb1⟩); obtain ⟨n1, rfl⟩ := later_of hb1; clear hb1) | (go_at_call 61; ((with_reducible refine (clLimits_any _ _ _).mono ?_); rintro e w' ⟨rfl, rfl⟩)) | (go_at_call 62; ((with_reducible refine (clSame_any _ _ _ _ _ _ _ _ _ _ _ _ _ (by first | assumption | exact bnf (by assumption) | exact bnt (by assumption)) (by first | assumption | exact bnf (by assumption) | exact bnt (by assumption))).mono ?_); rintro e w2 ⟨rfl, hb2⟩); obtain ⟨n2, rfl⟩ := later_of hb2; clear hb2))
  all_goals
    ((try simp only [Bool.not_eq_true'] at *); (try simp only [Bool.not_eq_false'] at *))
    go_ret2
    exact ⟨ret_tupb (by simp [oneR, oneOk, *]) (by simp [oneOk, *]), (by repeat (first | exact Below.refl _ _ | refine below_step ?_ (by assumption) | refine below_step ?_ (Later.below _) | refine below_alloc ?_ _ | refine Below.drew ?_ | refine Below.setCell ?_ (by first | (simp; done) | (simp; omega)) _))⟩
end Go.Proofs.Ythdfhddlebeonaa

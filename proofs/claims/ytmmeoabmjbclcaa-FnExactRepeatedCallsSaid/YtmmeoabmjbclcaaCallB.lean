/- DistanceOf and AreOneEvent: what each call returns. -/
import Derived.Test.YtmmeoabmjbclcaaCallA
namespace Go.Proofs.Ytmmeoabmjbclcaa
open Go.RowKit
set_option linter.unusedVariables false

def distOk (x0 x1 x2 x3 x4 y0 y1 y2 y3 y4 : Int) : Bool := callB x0 x1 x2 x3 x4 && callB y0 y1 y2 y3 y4
def distR (x0 x1 x2 x3 x4 y0 y1 y2 y3 y4 : Int) : Int := if distOk x0 x1 x2 x3 x4 y0 y1 y2 y3 y4 then far x1 x2 y1 y2 else 0

def winB (win rad : Int) : Bool := inB win 0 120 && inB rad 0 5000
set_option maxHeartbeats 400000 in
theorem clWindow_any (a : Int) (w : World) : Calls Try.prog 24 #[.int .i64 a] w fun e w' => e = .returned (.bool (inB a 0 120)) ∧ w = w' := by
  go_enter Try.func24, Try.ntmps24
  go_wp2_with (go_at_call 31; ((with_reducible refine (l1In_any _ _ _ _).mono ?_); rintro e w' ⟨rfl, rfl⟩))
  go_ret
  exact ⟨rfl, rfl⟩
def oneOk (x0 x1 x2 x3 x4 y0 y1 y2 y3 y4 win rad : Int) : Bool := callB x0 x1 x2 x3 x4 && callB y0 y1 y2 y3 y4 && winB win rad
def oneR (x0 x1 x2 x3 x4 y0 y1 y2 y3 y4 win rad : Int) : Bool := oneOk x0 x1 x2 x3 x4 y0 y1 y2 y3 y4 win rad && evB x0 x1 x2 x3 y0 y1 y2 y3 win rad

end Go.Proofs.Ytmmeoabmjbclcaa

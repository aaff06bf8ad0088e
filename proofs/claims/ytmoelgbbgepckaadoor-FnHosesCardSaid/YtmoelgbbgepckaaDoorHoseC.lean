/- Branches, longest hoses and pressures: what each call returns. -/
import Derived.Test.YtmoelgbbgepckaaDoorHoseB
namespace Go.Proofs.YtmoelgbbgepckaaDoor
open Go.RowKit
set_option linter.unusedVariables false

def bfOk (n p : Int) : Bool := inB n 4 40 && inB p 0 2000
def bfR (n p : Int) : Int := if bfOk n p then bfOf n p else 0

theorem lpOf_bd (n f : Int) : 0 ≤ lpOf n f ∧ lpOf n f ≤ 2001 := by
  unfold lpOf
  have h : ∀ (P : Nat → Bool) (N : Nat), least P N ≤ N + 1 := by
    intro P N
    induction N with
    | zero => unfold least; split <;> omega
    | succ N ih => unfold least; split <;> (try split) <;> omega
  have := h (pressP n f) 2000
  omega

def lpOk (n f : Int) : Bool := decide (lpOf n f ≤ 2000)
def lpR (n f : Int) : Int := if lpOk n f then lpOf n f else 0

def bpOk (n f : Int) : Bool := inB n 4 40 && inB f 0 3000 && lpOk n f
def bpR (n f : Int) : Int := if bpOk n f then lpOf n f else 0

end Go.Proofs.YtmoelgbbgepckaaDoor

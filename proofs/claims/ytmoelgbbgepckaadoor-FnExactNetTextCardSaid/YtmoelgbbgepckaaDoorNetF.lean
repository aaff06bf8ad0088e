/- The way of a hydrant. -/
import Derived.Test.YtmoelgbbgepckaaDoorNetE
namespace Go.Proofs.YtmoelgbbgepckaaDoor
open Go.RowKit
set_option linter.unusedVariables false
def natL (L : List Nat) : List Value := L.map fun i : Nat => Value.int .i64 (i : Int)
theorem natL_append (A B : List Nat) : natL (A ++ B) = natL A ++ natL B := by simp [natL]
theorem natL_length (A : List Nat) : (natL A).length = A.length := by simp [natL]
theorem natL_get {L : List Nat} {i k : Nat} (h : L[i]? = some k) : (natL L)[i]? = some (.int .i64 (k : Int)) := by simp [natL, h]

def WayPost (M : List (Int × Int)) (x : Int) (w : World) (e : Ending) (w' : World) : Prop :=
  (∃ v, e = .returned v ∧ w'.ownsRow w.heap.size 3 1 v (wayL M x).length (natL (wayL M x))) ∧ Below w.heap.size w w'

end Go.Proofs.YtmoelgbbgepckaaDoor

/- Nets cloned, one main closed. -/
import Derived.Test.YtmoelgbbgepckaaDoorRowsX
import Derived.Test.YtmoelgbbgepckaaDoorPyD
namespace Go.Proofs.YtmoelgbbgepckaaDoor
open Go.RowKit
set_option linter.unusedVariables false

theorem mcells_one (l : List (Int × Int)) : ∀ u ∈ l.flatMap mcells, u.oneCell' = true := by
  intro u hu
  obtain ⟨t, _, ht⟩ := List.mem_flatMap.1 hu
  simp [mcells] at ht
  rcases ht with rfl | rfl <;> rfl
theorem infoMainT : (Tryd.prog.info? 120).map (fun i => (i.zero, i.size, i.bytes)) = some (some (.agg #[.int .i64 0, .int .i64 0]), 2, 16) := by kernel_rfl
theorem infoHydrantT : (Tryd.prog.info? 118).map (fun i => (i.zero, i.size, i.bytes)) = some (some (.agg #[.int .i64 0, .int .i64 0]), 2, 16) := by kernel_rfl
def closeM (M : List (Int × Int)) (i : Nat) : List (Int × Int) := M.set i (par M i, 0)
/-- A net of the call's own. -/
def OwnN (w : World) (B : Nat) (M H : List (Int × Int)) (v v' : Value) : Prop := w.ownsRow B 120 2 v M.length (M.flatMap mcells) ∧ w.ownsRow B 118 2 v' H.length (H.flatMap mcells)
def CutNPost (M H : List (Int × Int)) (i : Nat) (w : World) (e : Ending) (w' : World) : Prop :=
  (∃ v v', e = .returned (.agg #[v, v']) ∧ OwnN w' w.heap.size (closeM M i) H v v') ∧ Below w.heap.size w w'

end Go.Proofs.YtmoelgbbgepckaaDoor

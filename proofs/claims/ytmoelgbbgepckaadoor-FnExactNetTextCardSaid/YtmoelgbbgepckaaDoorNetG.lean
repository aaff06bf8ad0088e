/- Nets' loads: what the program's and the reference's loops hand back. -/
import Derived.Test.YtmoelgbbgepckaaDoorNetF
namespace Go.Proofs.YtmoelgbbgepckaaDoor
open Go.RowKit
set_option linter.unusedVariables false

theorem own_apart {w w' : World} {B n sz : Nat} {e : TypeId} {v : Value} {xs : List Value} {row : Option Nat} (h : w.ownsRow B e sz v n xs) (hg : w.grownBy w' row) (hne : ∀ k, v.ownBlock = some k → some k ≠ row) : w'.ownsRow B e sz v n xs :=
  h.kept hg (by
    cases hv : v.ownBlock with
    | none => exact .inl rfl
    | some k => exact .inr (hne k hv))
def LoadsPost (D : Nat → Int) (n : Nat) (w : World) (e : Ending) (w' : World) : Prop :=
  (∃ g, e = .returned (.slice (some ⟨g, 0, none⟩) n n) ∧ OwnD w' w.heap.size g n D) ∧ Below w.heap.size w w'

end Go.Proofs.YtmoelgbbgepckaaDoor

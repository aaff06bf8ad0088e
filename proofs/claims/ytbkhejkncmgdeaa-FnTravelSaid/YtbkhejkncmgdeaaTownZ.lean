/- A town without a street. -/
import Derived.Test.YtbkhejkncmgdeaaTownY
namespace Go.Proofs.Ytbkhejkncmgdeaa
open Go.RowKit
set_option linter.unusedVariables false

theorem own_some {w : World} {B n sz : Nat} {e : TypeId} {v : Value} {xs : List Value} (h : w.ownsRow B e sz v n xs) (hn : 0 < n) : ∃ g cap, v = .slice (some ⟨g, 0, none⟩) n cap ∧ B ≤ g ∧ g < w.heap.size ∧ n ≤ cap ∧ cap ≤ maxLen := by
  rcases h.2 with ⟨_, h0⟩ | ⟨g, cap, cur, rfl, hb, hg, h1, h2, _⟩
  · omega
  · exact ⟨g, cap, rfl, hb, (Array.getElem?_eq_some_iff.1 hg).1, h1, h2⟩
/-- A town as it is handed back: its number of nodes, and the streets in a row of the call's own. -/
def TownVal (W : World) (B : Nat) (nd : Int) (L : List (Int × Int × Int)) (v : Value) : Prop := W.ownsRow B 34 3 v L.length (L.flatMap tcells)

/-- A store into another block. -/
theorem ownsRow_far {w : World} {B g n cap sz : Nat} {e : TypeId} {xs : List Value} (h : w.ownsRow B e sz (.slice (some ⟨g, 0, none⟩) n cap) n xs) {q o : Nat} {u : Value} (hq : q ≠ g) : (w.setCell ⟨q, o, none⟩ u).ownsRow B e sz (.slice (some ⟨g, 0, none⟩) n cap) n xs :=
  h.kept (grown_set (g := q) u rfl) (.inr (fun e => hq (by injection e with e; exact e.symm)))

def WoPost (k : Nat) (l : List (Int × Int × Int)) (i : Nat) (w : World) (e : Ending) (w' : World) : Prop :=
  (∃ v, e = .returned (.agg #[.int .i64 (k : Int), v]) ∧ w'.ownsRow w.heap.size 34 3 v (cutL l i).length ((cutL l i).flatMap tcells)) ∧ Below w.heap.size w w'

theorem own_far_any {w : World} {B n sz : Nat} {e : TypeId} {v : Value} {xs : List Value} (h : w.ownsRow B e sz v n xs) {q o : Nat} {u : Value} (hq : q < B) : (w.setCell ⟨q, o, none⟩ u).ownsRow B e sz v n xs := ownsRow_setCell_below h (a := ⟨q, o, none⟩) hq u

end Go.Proofs.Ytbkhejkncmgdeaa

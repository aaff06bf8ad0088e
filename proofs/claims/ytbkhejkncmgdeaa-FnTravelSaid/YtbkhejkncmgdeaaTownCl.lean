/- CloseStreet. -/
import Derived.Test.YtbkhejkncmgdeaaTownZ
namespace Go.Proofs.Ytbkhejkncmgdeaa
open Go.RowKit
set_option linter.unusedVariables false

def closeOk (nd : Int) (l : List (Int × Int × Int)) (i j : Int) : Bool := bothB nd l i j && decide (0 ≤ stFind l i j)
def closeN (nd : Int) (l : List (Int × Int × Int)) (i j : Int) : Int := if closeOk nd l i j then nd else 0
def closeL (nd : Int) (l : List (Int × Int × Int)) (i j : Int) : List (Int × Int × Int) := if closeOk nd l i j then cutL l (stFind l i j).toNat else []
theorem cutL_le {α : Type} (l : List α) (i : Nat) : (cutL l i).length ≤ l.length := by simp [cutL]; omega
theorem townB_len {nd : Int} {l : List (Int × Int × Int)} (h : townB nd l = true) : l.length ≤ 40 := by
  obtain ⟨k, _, hk⟩ := townB_ok h
  exact hk.len
theorem bothB_town {nd : Int} {l : List (Int × Int × Int)} {i j : Int} (h : bothB nd l i j = true) : townB nd l = true := by
  rw [bothB, goodB, Bool.and_eq_true, Bool.and_eq_true] at h
  exact h.1.1
theorem closeL_length (nd : Int) (l : List (Int × Int × Int)) (i j : Int) : (closeL nd l i j).length ≤ 40 := by
  unfold closeL
  split
  · rename_i h
    rw [closeOk, Bool.and_eq_true] at h
    exact Nat.le_trans (cutL_le _ _) (townB_len (bothB_town h.1))
  · simp
theorem stFind_lt {l : List (Int × Int × Int)} {a b : Int} (h : 0 ≤ stFind l a b) : ∃ k : Nat, stFind l a b = k ∧ k < l.length := by
  rcases findI_cases (isSt a b) l with hf | ⟨k, t, hf, hk, _⟩
  · rw [stFind, hf] at h; omega
  · exact ⟨k, hf, (List.getElem?_eq_some_iff.1 hk).1⟩

def ClosePost (nd : Int) (l : List (Int × Int × Int)) (i j : Int) (w : World) (e : Ending) (w' : World) : Prop :=
  (∃ v, e = .returned (.tuple #[.agg #[.int .i64 (closeN nd l i j), v], .bool (closeOk nd l i j)]) ∧ w'.ownsRow w.heap.size 34 3 v (closeL nd l i j).length ((closeL nd l i j).flatMap tcells)) ∧ Below w.heap.size w w'
theorem ClosePost.no {nd : Int} {l : List (Int × Int × Int)} {i j : Int} {w w' : World} (h : closeOk nd l i j = false) (hb : Below w.heap.size w w') : ClosePost nd l i j w (.returned (.tuple #[.agg #[.int .i64 0, .slice none 0 0], .bool false])) w' := by
  refine ⟨⟨.slice none 0 0, by rw [closeN, h]; rfl, ?_⟩, hb⟩
  rw [closeL, h]
  exact World.ownsRow_nil _ _ _ _
theorem ClosePost.yes {k : Nat} {l : List (Int × Int × Int)} {i j : Int} {w w' : World} {q : Nat} {v : Value} (h : closeOk k l i j = true) (hq : stFind l i j = q) (hv : w'.ownsRow w.heap.size 34 3 v (cutL l q).length ((cutL l q).flatMap tcells)) (hb : Below w.heap.size w w') : ClosePost k l i j w (.returned (.tuple #[.agg #[.int .i64 (k : Int), v], .bool true])) w' := by
  refine ⟨⟨v, by rw [closeN, h]; rfl, ?_⟩, hb⟩
  rw [closeL, h, hq]
  exact hv

end Go.Proofs.Ytbkhejkncmgdeaa

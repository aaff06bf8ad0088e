/- DetourOf. -/
import Derived.Test.YtbkhejkncmgdeaaTownCl
namespace Go.Proofs.Ytbkhejkncmgdeaa
open Go.RowKit
set_option linter.unusedVariables false

def detThen (nd : Int) (l : List (Int × Int × Int)) (i j : Int) : Int := timesF nd.toNat (cutL l (stFind l i j).toNat) i.toNat j.toNat
def detOk (nd : Int) (l : List (Int × Int × Int)) (i j : Int) : Bool := closeOk nd l i j && decide (0 ≤ detThen nd l i j)
def detV (nd : Int) (l : List (Int × Int × Int)) (i j : Int) : Int := if detOk nd l i j then detThen nd l i j - timesF nd.toNat l i.toNat j.toNat else 0
theorem detV_no {nd : Int} {l : List (Int × Int × Int)} {i j : Int} (h : detOk nd l i j = false) : detV nd l i j = 0 := by rw [detV, h]; rfl
theorem detOk_no {nd : Int} {l : List (Int × Int × Int)} {i j : Int} (h : closeOk nd l i j = false) : detOk nd l i j = false := by rw [detOk, h]; rfl
theorem cutL_fits {k : Nat} {l : List (Int × Int × Int)} (h : Fits k l) (i : Nat) : Fits k (cutL l i) := fun t ht => by
  rcases List.mem_append.1 ht with ht | ht
  · exact h t (List.mem_of_mem_take ht)
  · exact h t (List.mem_of_mem_drop ht)
theorem det_yes {k x y q : Nat} {l : List (Int × Int × Int)} (h : closeOk k l x y = true) (hq : stFind l x y = q) : ∀ b, decide (0 ≤ timesF k (cutL l q) x y) = b → detOk k l x y = b ∧ detV k l x y = if b then timesF k (cutL l q) x y - timesF k l x y else 0 := by
  intro b hb
  have e : detThen k l x y = timesF k (cutL l q) x y := by rw [detThen, hq]; rfl
  have h1 : detOk k l x y = b := by rw [detOk, h, e, hb]; rfl
  exact ⟨h1, by rw [detV, h1, e]; rfl⟩

end Go.Proofs.Ytbkhejkncmgdeaa

/- The longest hose: what each call returns. -/
import Derived.Test.YtmoelgbbgepckaaDoorHoseC
namespace Go.Proofs.YtmoelgbbgepckaaDoor
open Go.RowKit
set_option linter.unusedVariables false

def longP (kind f p : Int) : Nat → Bool := fun k => decide (lossOf kind k f ≤ p)
def longOf (kind f p : Int) : Int := (greatest (longP kind f p) 5000 : Nat)
attribute [irreducible] longOf
theorem longOf_eq {kind f p : Int} {k : Nat} (hf : 0 ≤ f) (hk : k ≤ 5000) (h0 : k = 0 ∨ lossOf kind k f ≤ p) (h1 : k = 5000 ∨ p < lossOf kind (k + 1) f) : longOf kind f p = k := by
  unfold longOf
  rw [greatest_eq (P := longP kind f p) (fun j hj => ?_) 5000 k hk (h0.imp id fun h => by simpa [longP] using h) (h1.imp id fun h => by simp [longP]; omega)]
  simp only [longP, decide_eq_true_eq] at hj ⊢
  have := lossOf_len (k := kind) (l := (j : Int)) (m := ((j + 1 : Nat) : Int)) hf (by omega)
  omega
theorem longOf_bd (kind f p : Int) : 0 ≤ longOf kind f p ∧ longOf kind f p ≤ 5000 := by
  unfold longOf
  have := greatest_le (longP kind f p) 5000
  omega

def longOk (kind f p : Int) : Bool := inB kind 0 3 && inB f 0 3000 && inB p 0 2000
def longR (kind f p : Int) : Int := if longOk kind f p then longOf kind f p else 0

theorem hoseB_mk {k l : Int} (h : inB k 0 3 = true) (h1 : 1 ≤ l) (h2 : l ≤ 5000) : hoseB k l = true := by
  rw [hoseB, h, inB_true h1 h2]; rfl

end Go.Proofs.YtmoelgbbgepckaaDoor

/- Houses of a road, the highest risk of a node. -/
import Derived.Test.YtfahiammopgflaaStrL
import Derived.Test.YtfahiammopgflaaSums
namespace Go.Proofs.Ytfahiammopgflaa
open Go.RowKit
set_option linter.unusedVariables false

abbrev StrT := ByteArray × Int × Int × Int × Int
theorem strsB_elem {l : List StrT} (h : strsB l = true) {x : StrT} (hx : x ∈ l) : strP x = true := by
  simp only [strsB, Bool.and_eq_true] at h
  exact chainB_mem h.1 hx
theorem strsB_len {l : List StrT} (h : strsB l = true) : l.length ≤ 30 := by
  simp only [strsB, Bool.and_eq_true, decide_eq_true_eq] at h
  exact h.2
theorem strP_bd {x0 : ByteArray} {x1 x2 x3 x4 : Int} (h : strP (x0, x1, x2, x3, x4) = true) : (1 ≤ x1 ∧ x1 ≤ x2 ∧ x2 ≤ 999) ∧ (0 ≤ x3 ∧ x3 ≤ 13) ∧ (1 ≤ x4 ∧ x4 ≤ 5) := by
  simp only [strP, strB, Bool.and_eq_true, inB_iff, decide_eq_true_eq] at h
  omega

def houseF (s : ByteArray) (x : StrT) : Int := if (x.1.toList == s.toList) = true then x.2.2.1 - x.2.1 + 1 else 0
def riskF (n : Int) (x : StrT) : Int := if x.2.2.2.1 = n then x.2.2.2.2 else 0
theorem houseF_bd {s : ByteArray} {l : List StrT} (h : strsB l = true) : ∀ x ∈ l, 0 ≤ houseF s x ∧ houseF s x ≤ (999 : Nat) := by
  intro ⟨x0, x1, x2, x3, x4⟩ hx
  have := strP_bd (strsB_elem h hx)
  unfold houseF
  dsimp only
  split <;> omega

def housesV (l : List StrT) (s : ByteArray) : Int := if strsB l && roadB s then sumK (houseF s) l l.length else 0
def riskV (l : List StrT) (n : Int) : Int := if strsB l && inB n 0 13 then maxK (riskF n) l l.length else 0


end Go.Proofs.Ytfahiammopgflaa

/- Valid towns and their nodes: the guards of the program's and the reference's functions. -/
import Derived.Test.YtnbiknaihogknaaDoorTownT
import Derived.Test.YtnbiknaihogknaaDoorTownF
namespace Go.Proofs.YtnbiknaihogknaaDoor
open Go.RowKit
set_option linter.unusedVariables false

/-- What a valid town gives. -/
structure TownOk (k : Nat) (l : List (Int × Int × Int)) : Prop where
  lo : 1 ≤ k
  hi : k ≤ 14
  len : l.length ≤ 40
  chain : chainB (fitB k) befB l = true
theorem TownOk.fits {k : Nat} {l : List (Int × Int × Int)} (h : TownOk k l) : Fits k l := fun t ht => chainB_mem h.chain ht
theorem townB_ok {nd : Int} {l : List (Int × Int × Int)} (h : townB nd l = true) : ∃ k : Nat, nd = k ∧ TownOk k l := by
  simp only [townB, streetsB, Bool.and_eq_true, decide_eq_true_eq, inB_iff] at h
  obtain ⟨⟨⟨h1, h2⟩, h3⟩, h4⟩ := h
  obtain ⟨k, rfl⟩ := Int.eq_ofNat_of_zero_le (show 0 ≤ nd by omega)
  exact ⟨k, rfl, by omega, by omega, h3, h4⟩
theorem nodeB_ok {k : Nat} {i : Int} (h : nodeB k i = true) : ∃ j : Nat, i = j ∧ j < k := by
  obtain ⟨h1, h2⟩ := nodeB_iff.1 h
  obtain ⟨j, rfl⟩ := Int.eq_ofNat_of_zero_le h1
  exact ⟨j, rfl, by omega⟩

def goodB (nd : Int) (l : List (Int × Int × Int)) (i : Int) : Bool := townB nd l && nodeB nd i
def bothB (nd : Int) (l : List (Int × Int × Int)) (i j : Int) : Bool := goodB nd l i && nodeB nd j

def travOk (nd : Int) (l : List (Int × Int × Int)) (i j : Int) : Bool := bothB nd l i j && decide (0 ≤ timesF nd.toNat l i.toNat j.toNat)
def travV (nd : Int) (l : List (Int × Int × Int)) (i j : Int) : Int := if travOk nd l i j then timesF nd.toNat l i.toNat j.toNat else 0

end Go.Proofs.YtnbiknaihogknaaDoor

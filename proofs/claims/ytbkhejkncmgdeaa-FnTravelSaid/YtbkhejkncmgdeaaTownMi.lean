/- MiddleNode. -/
import Derived.Test.YtbkhejkncmgdeaaTownDe
namespace Go.Proofs.Ytbkhejkncmgdeaa
open Go.RowKit
set_option linter.unusedVariables false

def minN (d : Nat → Int) : Nat → Int
  | 0 => d 0
  | i + 1 => min (minN d i) (d (i + 1))
def maxN (d : Nat → Int) : Nat → Int
  | 0 => d 0
  | i + 1 => max (maxN d i) (d (i + 1))
def maxZ (d : Nat → Int) : Nat → Int
  | 0 => 0
  | i + 1 => max (maxZ d i) (d i)
def allFin (d : Nat → Int) (n : Nat) : Bool := (List.range n).all fun v => decide (0 ≤ d v)
theorem allFin_iff {d : Nat → Int} {n : Nat} : allFin d n = true ↔ ∀ v, v < n → 0 ≤ d v := by simp [allFin]
theorem minN_neg {d : Nat → Int} : ∀ n, minN d n < 0 ↔ ∃ v, v < n + 1 ∧ d v < 0
  | 0 => by
    constructor
    · intro h; exact ⟨0, by omega, h⟩
    · rintro ⟨v, hv, h⟩; rw [show v = 0 by omega] at h; exact h
  | n + 1 => by
    have ih := minN_neg (d := d) n
    simp only [minN]
    constructor
    · intro h
      by_cases h1 : minN d n < 0
      · obtain ⟨v, hv, hd⟩ := ih.1 h1; exact ⟨v, by omega, hd⟩
      · exact ⟨n + 1, by omega, by omega⟩
    · rintro ⟨v, hv, hd⟩
      by_cases h1 : v = n + 1
      · subst h1; omega
      · have := ih.2 ⟨v, by omega, hd⟩; omega
theorem minN_fin {d : Nat → Int} {n : Nat} (hn : 1 ≤ n) : decide (minN d (n - 1) < 0) = !allFin d n := by
  rw [Bool.eq_iff_iff]
  simp only [decide_eq_true_eq, Bool.not_eq_true', minN_neg, ← Bool.not_eq_true, allFin_iff]
  constructor
  · rintro ⟨v, hv, hd⟩ h
    have := h v (by omega)
    omega
  · intro h
    refine Classical.byContradiction fun hc => h fun v hv => ?_
    by_cases h0 : 0 ≤ d v
    · exact h0
    · exact absurd ⟨v, by omega, by omega⟩ hc
theorem maxN_Z {d : Nat → Int} : ∀ n, (∀ v, v < n + 1 → 0 ≤ d v) → maxN d n = maxZ d (n + 1)
  | 0, h => by have := h 0 (by omega); simp only [maxN, maxZ]; omega
  | n + 1, h => by
    rw [maxN, maxN_Z n (fun v hv => h v (by omega))]
    rfl
theorem maxZ_bd {d : Nat → Int} {B : Int} (hB : 0 ≤ B) : ∀ n, (∀ v, v < n → d v ≤ B) → 0 ≤ maxZ d n ∧ maxZ d n ≤ B
  | 0, _ => by simp only [maxZ]; omega
  | n + 1, h => by
    have ih := maxZ_bd hB n (fun v hv => h v (by omega))
    have := h n (by omega)
    simp only [maxZ]
    omega
/-- The greatest travel time from a node; -1 where one lacks. -/
def worstF (k : Nat) (l : List (Int × Int × Int)) (x : Nat) : Int := if allFin (timesF k l x) k then maxZ (timesF k l x) k else -1
def midF (W : Nat → Int) : Nat → Nat
  | 0 => 0
  | n + 1 => if W n < W (midF W n) then n else midF W n
theorem midF_lt (W : Nat → Int) : ∀ n, 1 ≤ n → midF W n < n
  | 0, h => by omega
  | n + 1, _ => by
    simp only [midF]
    split
    · omega
    · cases n with
      | zero => simp [midF]
      | succ n => have := midF_lt W (n + 1) (by omega); omega
theorem fin_all {k : Nat} {l : List (Int × Int × Int)} (hf : Fits k l) (hk : 1 ≤ k) (h : allFin (timesF k l 0) k = true) : ∀ x, x < k → allFin (timesF k l x) k = true := by
  intro x hx
  rw [allFin_iff] at *
  intro v hv
  have d0 := times_dist hf (show 0 < k by omega)
  have dx := times_dist hf hx
  have h1 := (d0.walk x (h x hx)).rev (edges_sym l)
  have h2 := d0.walk v (h v hv)
  exact (dx.least v _ (h1.append h2)).1
theorem worst_bd {k x : Nat} {l : List (Int × Int × Int)} (hk : TownOk k l) (hx : x < k) : -1 ≤ worstF k l x ∧ worstF k l x ≤ 5000000 := by
  unfold worstF
  split
  · have := maxZ_bd (d := timesF k l x) (B := 5000000) (by omega) k (fun v _ => (mid_bd (x := x) hk.fits hk.len hk.hi (F := []) (by simp) (by simp) v).2)
    omega
  · omega

def middleOk (nd : Int) (l : List (Int × Int × Int)) : Bool := townB nd l && decide (0 ≤ worstF nd.toNat l 0)
def middleV (nd : Int) (l : List (Int × Int × Int)) : Int := if middleOk nd l then midF (worstF nd.toNat l) nd.toNat else 0
def middleW (nd : Int) (l : List (Int × Int × Int)) : Int := if middleOk nd l then worstF nd.toNat l (midF (worstF nd.toNat l) nd.toNat) else 0
theorem worst_fin {k x : Nat} {l : List (Int × Int × Int)} : decide (0 ≤ worstF k l x) = allFin (timesF k l x) k := by
  unfold worstF
  cases h : allFin (timesF k l x) k with
  | true =>
    have : ∀ n, 0 ≤ maxZ (timesF k l x) n := fun n => by
      induction n with
      | zero => simp [maxZ]
      | succ n ih => simp only [maxZ]; omega
    simpa using this k
  | false => simp

theorem middle_no {nd : Int} {l : List (Int × Int × Int)} (h : middleOk nd l = false) : middleV nd l = 0 ∧ middleW nd l = 0 := by rw [middleV, middleW, h]; exact ⟨rfl, rfl⟩
theorem middle_yes {k : Nat} {l : List (Int × Int × Int)} (h : middleOk k l = true) : middleV k l = midF (worstF k l) k ∧ middleW k l = worstF k l (midF (worstF k l) k) := by rw [middleV, middleW, h]; exact ⟨rfl, rfl⟩

end Go.Proofs.Ytbkhejkncmgdeaa

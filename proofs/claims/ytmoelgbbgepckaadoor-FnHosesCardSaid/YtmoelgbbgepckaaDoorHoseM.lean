/- Plain arithmetic of the hose chapter: losses grow, the greatest number below a bound, the least number above one. No program in sight. -/
import Derived.IntWalk
import Derived.Test.YtmoelgbbgepckaaDoorSmall
namespace Go.Proofs.YtmoelgbbgepckaaDoor

def fac (k : Int) : Int := if k = 0 then 3 else if k = 1 then 20 else if k = 2 then 160 else 5000
def lossOf (k l f : Int) : Int := (fac k * f * f * l + 99999999) / 100000000

theorem sq_nonneg (s : Int) : 0 ≤ s * s := by
  rcases Int.le_total 0 s with h | h
  · exact Int.mul_nonneg h h
  · have := Int.mul_nonneg (a := -s) (b := -s) (by omega) (by omega)
    rwa [Int.neg_mul_neg] at this

theorem fac_bd (k : Int) : 3 ≤ fac k ∧ fac k ≤ 5000 := by unfold fac; repeat' split <;> omega

theorem lossOf_bd {k l f : Int} (hl : 0 ≤ l) (hl1 : l ≤ 5000) (hf : 0 ≤ f) (hf1 : f ≤ 3000) : 0 ≤ lossOf k l f ∧ lossOf k l f ≤ 2250001 := by
  obtain ⟨c0, c1⟩ := fac_bd k
  obtain ⟨a1, a2⟩ := mul_bd (show 0 ≤ fac k by omega) c1 hf hf1
  obtain ⟨b1, b2⟩ := mul_bd a1 a2 hf hf1
  obtain ⟨d1, d2⟩ := mul_bd b1 b2 hl hl1
  unfold lossOf
  omega

theorem lossOf_flow {k l f g : Int} (hl : 0 ≤ l) (hf : 0 ≤ f) (h : f ≤ g) : lossOf k l f ≤ lossOf k l g := by
  obtain ⟨c0, _⟩ := fac_bd k
  have a : fac k * f ≤ fac k * g := Int.mul_le_mul_of_nonneg_left h (by omega)
  have a0 : 0 ≤ fac k * f := Int.mul_nonneg (by omega) hf
  have b : fac k * f * f ≤ fac k * g * g := Int.mul_le_mul a h hf (by omega)
  have d : fac k * f * f * l ≤ fac k * g * g * l := Int.mul_le_mul_of_nonneg_right b hl
  unfold lossOf
  omega

theorem lossOf_len {k l m f : Int} (hf : 0 ≤ f) (h : l ≤ m) : lossOf k l f ≤ lossOf k m f := by
  obtain ⟨c0, _⟩ := fac_bd k
  have a0 : 0 ≤ fac k * f := Int.mul_nonneg (by omega) hf
  have b0 : 0 ≤ fac k * f * f := Int.mul_nonneg a0 hf
  have d : fac k * f * f * l ≤ fac k * f * f * m := Int.mul_le_mul_of_nonneg_left h b0
  unfold lossOf
  omega

theorem lossOf_zero (k f : Int) : lossOf k 0 f = 0 := by unfold lossOf; simp
theorem lossOf_zero_flow (k l : Int) : lossOf k l 0 = 0 := by unfold lossOf; simp

def hosesV (d l : Int) : Int := ((11 * d + 9) / 10 + l - 1) / l
theorem hosesV_alt (d l : Int) : (11 * d + 10 * l - 1) / (10 * l) = hosesV d l := by
  have h : (11 * d + 10 * l - 1) / 10 / l = (11 * d + 10 * l - 1) / (10 * l) := by rw [Int.ediv_ediv_of_nonneg (by omega)]
  rw [← h]
  unfold hosesV
  congr 1
  omega

/-- The greatest k from 1 to N with P k, else 0. -/
def greatest (P : Nat → Bool) : Nat → Nat
  | 0 => 0
  | n + 1 => if P (n + 1) then n + 1 else greatest P n

theorem down_of {P : Nat → Bool} (hP : ∀ k, P (k + 1) = true → P k = true) : ∀ (d k : Nat), P (k + d) = true → P k = true
  | 0, _, h => h
  | d + 1, k, h => down_of hP d k (hP _ h)

theorem greatest_eq {P : Nat → Bool} (hP : ∀ k, P (k + 1) = true → P k = true) : ∀ (N m : Nat), m ≤ N → (m = 0 ∨ P m = true) → (m = N ∨ P (m + 1) = false) → greatest P N = m
  | 0, m, hm, _, _ => by simp [greatest]; omega
  | N + 1, m, hm, h0, h1 => by
    unfold greatest
    by_cases he : m = N + 1
    · subst he
      rw [if_pos (h0.resolve_left (by omega))]
    · have hf : P (m + 1) = false := h1.resolve_left he
      have hN : P (N + 1) = false := by
        cases hp : P (N + 1) with
        | false => rfl
        | true =>
          have := down_of hP (N - m) (m + 1) (by rw [show m + 1 + (N - m) = N + 1 by omega]; exact hp)
          rw [hf] at this
          cases this
      rw [if_neg (by rw [hN]; simp)]
      exact greatest_eq hP N m (by omega) h0 (.inr hf)

theorem greatest_le (P : Nat → Bool) : ∀ N, greatest P N ≤ N
  | 0 => by simp [greatest]
  | N + 1 => by
    unfold greatest
    split
    · omega
    · have := greatest_le P N; omega

theorem greatest_mono {P Q : Nat → Bool} (h : ∀ k, P k = true → Q k = true) : ∀ N, greatest P N ≤ greatest Q N
  | 0 => by simp [greatest]
  | N + 1 => by
    unfold greatest
    by_cases hp : P (N + 1) = true
    · rw [if_pos hp, if_pos (h _ hp)]; omega
    · rw [if_neg hp]
      have := greatest_mono h N
      have := greatest_le P N
      split <;> omega

/-- The least k from 0 to N with P k, else N + 1. -/
def least (P : Nat → Bool) : Nat → Nat
  | 0 => if P 0 then 0 else 1
  | n + 1 => if least P n ≤ n then least P n else if P (n + 1) then n + 1 else n + 2

theorem up_of {P : Nat → Bool} (hP : ∀ k, P k = true → P (k + 1) = true) : ∀ (d k : Nat), P k = true → P (k + d) = true
  | 0, _, h => h
  | d + 1, k, h => hP _ (up_of hP d k h)

theorem least_eq {P : Nat → Bool} (hP : ∀ k, P k = true → P (k + 1) = true) : ∀ (N m : Nat), m ≤ N + 1 → (m = N + 1 ∨ P m = true) → (m = 0 ∨ P (m - 1) = false) → least P N = m
  | 0, m, hm, h0, h1 => by
    unfold least
    have hc : m = 0 ∨ m = 1 := by omega
    rcases hc with rfl | rfl
    · rw [if_pos (h0.resolve_left (by omega))]
    · rw [if_neg (by have := h1.resolve_left (by omega); simp at this; simp [this])]
  | N + 1, m, hm, h0, h1 => by
    have key : ∀ m', m' ≤ N + 1 → (m' = N + 1 ∨ P m' = true) → (m' = 0 ∨ P (m' - 1) = false) → least P N = m' := fun m' a b c => least_eq hP N m' a b c
    unfold least
    by_cases he : m ≤ N
    · have : least P N = m := key m (by omega) (.inr (h0.resolve_left (by omega))) h1
      rw [this, if_pos he]
    · have hN : P N = false := by
        have h2 := h1.resolve_left (by omega)
        cases hp : P N with
        | false => rfl
        | true =>
          have := up_of hP (m - 1 - N) N hp
          rw [show N + (m - 1 - N) = m - 1 by omega, h2] at this
          cases this
      have : least P N = N + 1 := key (N + 1) (by omega) (.inl rfl) (.inr (by simpa using hN))
      rw [this, if_neg (by omega)]
      by_cases hm1 : m = N + 1
      · subst hm1
        rw [if_pos (h0.resolve_left (by omega))]
      · have hm2 : m = N + 2 := by omega
        subst hm2
        have := h1.resolve_left (by omega)
        rw [if_neg (by simp at this; simp [this])]

/-- The flow of a branch: the greatest one whose square fits. -/
def flowP (S : Int) : Nat → Bool := fun k => decide ((k : Int) * k * 1000000 ≤ S)
def flowOf (S : Int) : Int := (greatest (flowP S) 3000 : Nat)
attribute [irreducible] flowOf
theorem flowP_down (S : Int) (k : Nat) (h : flowP S (k + 1) = true) : flowP S k = true := by
  simp only [flowP, decide_eq_true_eq] at h ⊢
  have : (k : Int) * k ≤ ((k + 1 : Nat) : Int) * ((k + 1 : Nat) : Int) := Int.mul_le_mul (by omega) (by omega) (by omega) (by omega)
  omega
theorem flowOf_eq {S : Int} {k : Nat} (hk : k ≤ 3000) (h0 : k = 0 ∨ (k : Int) * k * 1000000 ≤ S) (h1 : k = 3000 ∨ S < ((k : Int) + 1) * ((k : Int) + 1) * 1000000) : flowOf S = k := by
  unfold flowOf
  rw [greatest_eq (flowP_down S) 3000 k hk (h0.imp id fun h => by simpa [flowP] using h) (h1.imp id fun h => by simp [flowP]; omega)]
theorem flowOf_bd (S : Int) : 0 ≤ flowOf S ∧ flowOf S ≤ 3000 := by
  unfold flowOf
  have := greatest_le (flowP S) 3000
  omega
theorem flowOf_mono {S T : Int} (h : S ≤ T) : flowOf S ≤ flowOf T := by
  unfold flowOf
  have := greatest_mono (P := flowP S) (Q := flowP T) (fun k hk => by simp only [flowP, decide_eq_true_eq] at hk ⊢; omega) 3000
  omega

def bfOf (n p : Int) : Int := flowOf (66 * n * n * (66 * n * n * p))
attribute [irreducible] bfOf
theorem bfOf_def (n p : Int) : bfOf n p = flowOf (66 * n * n * (66 * n * n * p)) := by unfold bfOf; rfl
theorem bfOf_mono {n p q : Int} (h : p ≤ q) : bfOf n p ≤ bfOf n q := by
  rw [bfOf_def, bfOf_def]
  refine flowOf_mono ?_
  generalize 66 * n * n = s
  rw [← Int.mul_assoc, ← Int.mul_assoc]
  exact Int.mul_le_mul_of_nonneg_left h (sq_nonneg s)
theorem bfOf_bd (n p : Int) : 0 ≤ bfOf n p ∧ bfOf n p ≤ 3000 := by rw [bfOf_def]; exact flowOf_bd _

/-- The least pressure for a flow: 2001 if there is none. -/
def pressP (n f : Int) : Nat → Bool := fun k => decide (f ≤ bfOf n k)
def lpOf (n f : Int) : Int := (least (pressP n f) 2000 : Nat)
attribute [irreducible] lpOf
theorem pressP_up (n f : Int) (k : Nat) (h : pressP n f k = true) : pressP n f (k + 1) = true := by
  simp only [pressP, decide_eq_true_eq] at h ⊢
  have := bfOf_mono (n := n) (p := (k : Int)) (q := ((k + 1 : Nat) : Int)) (by omega)
  omega
theorem lpOf_eq {n f : Int} {k : Nat} (hk : k ≤ 2001) (h0 : k = 2001 ∨ f ≤ bfOf n k) (h1 : k = 0 ∨ bfOf n ((k : Int) - 1) < f) : lpOf n f = k := by
  unfold lpOf
  rw [least_eq (pressP_up n f) 2000 k hk (h0.imp id fun h => by simpa [pressP] using h) ?_]
  rcases h1 with h1 | h1
  · exact .inl h1
  · by_cases hk0 : k = 0
    · exact .inl hk0
    · refine .inr ?_
      simp only [pressP, decide_eq_false_iff_not]
      rw [show ((k - 1 : Nat) : Int) = (k : Int) - 1 by omega]
      omega
end Go.Proofs.YtmoelgbbgepckaaDoor

/- Sums, greatest values and first places along a list. -/
import Derived.Test.YtmmeoabmjbclcaaMem
namespace Go.Proofs.Ytmmeoabmjbclcaa
set_option linter.unusedVariables false

section
variable {α : Type}
def sumK (f : α → Int) (l : List α) (k : Nat) : Int := ((l.take k).map f).foldl (· + ·) 0
theorem sumK_zero (f : α → Int) (l : List α) : sumK f l 0 = 0 := by simp [sumK]
theorem sumK_succ {f : α → Int} {l : List α} {k : Nat} {a : α} (h : l[k]? = some a) : sumK f l (k + 1) = sumK f l k + f a := by
  simp [sumK, List.take_add_one, h]
theorem sumK_all {f : α → Int} {l : List α} {k : Nat} (h : l.length ≤ k) : sumK f l k = sumK f l l.length := by
  simp [sumK, List.take_of_length_le h]
theorem sumK_bd {f : α → Int} {l : List α} (B : Nat) (h : ∀ x ∈ l, 0 ≤ f x ∧ f x ≤ B) : ∀ k : Nat, 0 ≤ sumK f l k ∧ sumK f l k ≤ k * B
  | 0 => by simp [sumK]
  | k + 1 => by
    have ih := sumK_bd B h k
    cases hk : l[k]? with
    | none =>
      have : sumK f l (k + 1) = sumK f l k := by simp [sumK, List.take_add_one, hk]
      rw [this]
      have : ((k + 1 : Nat) : Int) * B = k * B + B := by rw [show ((k + 1 : Nat) : Int) = (k : Int) + 1 by omega, Int.add_mul, Int.one_mul]
      omega
    | some a =>
      rw [sumK_succ hk]
      have h1 := h a (List.mem_of_getElem? hk)
      have : ((k + 1 : Nat) : Int) * B = k * B + B := by rw [show ((k + 1 : Nat) : Int) = (k : Int) + 1 by omega, Int.add_mul, Int.one_mul]
      omega
def maxK (f : α → Int) (l : List α) (k : Nat) : Int := ((l.take k).map f).foldl max 0
theorem maxK_zero (f : α → Int) (l : List α) : maxK f l 0 = 0 := by simp [maxK]
theorem maxK_succ {f : α → Int} {l : List α} {k : Nat} {a : α} (h : l[k]? = some a) : maxK f l (k + 1) = max (maxK f l k) (f a) := by
  simp [maxK, List.take_add_one, h]
theorem maxK_all {f : α → Int} {l : List α} {k : Nat} (h : l.length ≤ k) : maxK f l k = maxK f l l.length := by
  simp [maxK, List.take_of_length_le h]
theorem maxK_nonneg (f : α → Int) (l : List α) : ∀ k : Nat, 0 ≤ maxK f l k
  | 0 => by simp [maxK]
  | k + 1 => by
    have ih := maxK_nonneg f l k
    cases hk : l[k]? with
    | none =>
      have : maxK f l (k + 1) = maxK f l k := by simp [maxK, List.take_add_one, hk]
      rw [this]
      exact ih
    | some a =>
      rw [maxK_succ hk]
      omega

/-- The place of the first element of which p holds; -1 where there is none. -/
def findI (p : α → Bool) (l : List α) : Int := match l.findIdx? p with | some i => (i : Int) | none => -1
theorem findI_none {p : α → Bool} {l : List α} (h : ∀ (i : Nat) (a : α), l[i]? = some a → p a = false) : findI p l = -1 := by
  have : l.findIdx? p = none := by
    rw [List.findIdx?_eq_none_iff]
    intro x hx
    obtain ⟨i, hi⟩ := List.mem_iff_getElem?.1 hx
    exact h i x hi
  rw [findI, this]
theorem findI_at {p : α → Bool} {l : List α} {k : Nat} {a : α} (ha : l[k]? = some a) (hp : p a = true) (h : ∀ (i : Nat) (b : α), i < k → l[i]? = some b → p b = false) : findI p l = k := by
  have : l.findIdx? p = some k := by
    rw [List.findIdx?_eq_some_iff_getElem]
    obtain ⟨hk, rfl⟩ := List.getElem?_eq_some_iff.1 ha
    refine ⟨hk, hp, fun j hj => ?_⟩
    simp [h j _ hj (List.getElem?_eq_getElem (by omega))]
  rw [findI, this]
theorem findI_cases (p : α → Bool) (l : List α) : findI p l = -1 ∨ ∃ k a, findI p l = (k : Nat) ∧ l[k]? = some a ∧ p a = true := by
  unfold findI
  cases h : l.findIdx? p with
  | none => exact .inl rfl
  | some k =>
    rw [List.findIdx?_eq_some_iff_getElem] at h
    obtain ⟨hk, hp, _⟩ := h
    exact .inr ⟨k, l[k], rfl, List.getElem?_eq_getElem hk, hp⟩
end
end Go.Proofs.Ytmmeoabmjbclcaa

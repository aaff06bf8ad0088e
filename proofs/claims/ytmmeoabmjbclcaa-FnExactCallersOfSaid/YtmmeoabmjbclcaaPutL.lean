/- What l1Put computes: the set of the numbers, rising. -/
import Derived.Test.YtmmeoabmjbclcaaPut
namespace Go.Proofs.Ytmmeoabmjbclcaa
set_option linter.unusedVariables false

theorem putF_cons (y : Int) (ys : List Int) (x : Int) : putF (y :: ys) x = if y < x then y :: putF ys x else if y = x then y :: ys else x :: y :: ys := by
  by_cases h : y < x
  · have e : putI (y :: ys) x = putI ys x + 1 := by simp [putI, h]
    rw [if_pos h, putF, e]
    simp only [List.getElem?_cons_succ, List.take_succ_cons, List.drop_succ_cons]
    rw [putF]
    split <;> simp
  · have e : putI (y :: ys) x = 0 := by simp [putI, h]
    rw [if_neg h, putF, e]
    by_cases h2 : y = x
    · simp [h2]
    · rw [if_neg h2, if_neg (by simpa using h2)]
      simp
theorem putF_nil (x : Int) : putF [] x = [x] := by simp [putF, putI]
theorem putF_mem {x z : Int} : ∀ {ys : List Int}, z ∈ putF ys x ↔ z = x ∨ z ∈ ys
  | [] => by simp [putF_nil]
  | y :: ys => by
    rw [putF_cons]
    split
    · rw [List.mem_cons, putF_mem, List.mem_cons]
      constructor <;> (rintro (h | h | h) <;> simp [h])
    · split
      · rename_i h; subst h
        simp
      · simp
theorem putF_sorted {x : Int} : ∀ {ys : List Int}, ys.Pairwise (· < ·) → (putF ys x).Pairwise (· < ·)
  | [], _ => by simp [putF_nil]
  | y :: ys, h => by
    rw [putF_cons]
    rw [List.pairwise_cons] at h
    split
    · rw [List.pairwise_cons]
      refine ⟨fun z hz => ?_, putF_sorted h.2⟩
      rcases putF_mem.1 hz with rfl | hz
      · assumption
      · exact h.1 z hz
    · split
      · exact List.pairwise_cons.2 h
      · rw [List.pairwise_cons]
        refine ⟨fun z hz => ?_, List.pairwise_cons.2 h⟩
        rcases List.mem_cons.1 hz with rfl | hz
        · omega
        · have := h.1 z hz
          omega
theorem putF_count {x : Int} : ∀ {ys : List Int}, ys.Pairwise (· < ·) → (putF ys x).length = if x ∈ ys then ys.length else ys.length + 1
  | [], _ => by simp [putF_nil]
  | y :: ys, h => by
    rw [putF_cons]
    rw [List.pairwise_cons] at h
    split
    · rename_i hy
      have hne : x ≠ y := by omega
      rw [List.length_cons, putF_count h.2]
      simp only [List.mem_cons, hne, false_or, List.length_cons]
      split <;> rfl
    · split
      · rename_i he; subst he
        simp
      · have hni : x ∉ y :: ys := by
          intro hx
          rcases List.mem_cons.1 hx with hx | hx
          · omega
          · have := h.1 x hx
            omega
        rw [if_neg hni]
        rfl

/-- The numbers f a of the first k elements, each once, rising. -/
def putK (f : Int → Int) (l : List Int) (k : Nat) : List Int := ((l.take k).map f).foldl putF []
theorem putK_zero (f : Int → Int) (l : List Int) : putK f l 0 = [] := by simp [putK]
theorem putK_succ {f : Int → Int} {l : List Int} {k : Nat} {a : Int} (h : l[k]? = some a) : putK f l (k + 1) = putF (putK f l k) (f a) := by simp [putK, List.take_add_one, h]
theorem putK_all {f : Int → Int} {l : List Int} {k : Nat} (h : l.length ≤ k) : putK f l k = putK f l l.length := by simp [putK, List.take_of_length_le h]
theorem foldl_put_sorted : ∀ (l acc : List Int), acc.Pairwise (· < ·) → (l.foldl putF acc).Pairwise (· < ·)
  | [], _, h => h
  | x :: l, acc, h => foldl_put_sorted l (putF acc x) (putF_sorted h)
theorem putK_sorted (f : Int → Int) (l : List Int) (k : Nat) : (putK f l k).Pairwise (· < ·) := foldl_put_sorted _ _ List.Pairwise.nil
theorem putK_length (f : Int → Int) (l : List Int) : ∀ k : Nat, (putK f l k).length ≤ k
  | 0 => by simp [putK]
  | k + 1 => by
    have ih := putK_length f l k
    cases hk : l[k]? with
    | none =>
      have : putK f l (k + 1) = putK f l k := by simp [putK, List.take_add_one, hk]
      rw [this]
      omega
    | some a =>
      rw [putK_succ hk]
      have := putF_length (putK f l k) (f a)
      omega
end Go.Proofs.Ytmmeoabmjbclcaa

/- Similar names: the plain law. -/
import Derived.Test.YtpkhdmhfkmajcaaMem
namespace Go.Proofs.Ytpkhdmhfkmajcaa
set_option linter.unusedVariables false

def eraseB (b : List UInt8) (i : Nat) : List UInt8 := b.take i ++ b.drop (i + 1)
/-- Whether a is b without one element. -/
def lessL (a b : List UInt8) : Bool := (List.range b.length).any fun i => decide (eraseB b i = a)
def lcp : List UInt8 → List UInt8 → Nat
  | x :: a, y :: b => if x = y then lcp a b + 1 else 0
  | _, _ => 0
theorem lcp_at : ∀ (i : Nat) (a b : List UInt8), i ≤ a.length → i ≤ b.length → (∀ j, j < i → a[j]? = b[j]?) → (i < a.length → i < b.length → a[i]? ≠ b[i]?) → lcp a b = i
  | 0, [], _, _, _, _, _ => by simp [lcp]
  | 0, _ :: _, [], _, _, _, _ => by simp [lcp]
  | 0, x :: a, y :: b, _, _, _, h => by
    have := h (by simp) (by simp)
    simp at this
    simp [lcp, this]
  | i + 1, [], _, h, _, _, _ => by simp at h
  | i + 1, _ :: _, [], _, h, _, _ => by simp at h
  | i + 1, x :: a, y :: b, h1, h2, h3, h4 => by
    have h0 := h3 0 (by omega)
    simp at h0
    rw [lcp, if_pos h0, lcp_at i a b (by simpa using h1) (by simpa using h2) (fun j hj => by have := h3 (j + 1) (by omega); simpa using this) (fun q1 q2 => by have := h4 (by simpa using q1) (by simpa using q2); simpa using this)]
theorem lessL_iff {a b : List UInt8} : lessL a b = true ↔ ∃ i, i < b.length ∧ eraseB b i = a := by
  rw [lessL, List.any_eq_true]
  constructor
  · rintro ⟨i, hi, h⟩
    exact ⟨i, List.mem_range.1 hi, by simpa using h⟩
  · rintro ⟨i, hi, h⟩
    exact ⟨i, List.mem_range.2 hi, by simpa using h⟩
theorem eraseB_length {b : List UInt8} {i : Nat} (h : i < b.length) : (eraseB b i).length + 1 = b.length := by simp [eraseB]; omega
theorem lessL_length {a b : List UInt8} (h : a.length + 1 ≠ b.length) : lessL a b = false := by
  cases hc : lessL a b with
  | false => rfl
  | true =>
    obtain ⟨i, hi, he⟩ := lessL_iff.1 hc
    have := eraseB_length hi
    rw [he] at this
    exact absurd this h
theorem eraseB_zero (y : UInt8) (b : List UInt8) : eraseB (y :: b) 0 = b := by simp [eraseB]
theorem eraseB_succ (y : UInt8) (b : List UInt8) (i : Nat) : eraseB (y :: b) (i + 1) = y :: eraseB b i := by simp [eraseB]
theorem lessL_cons (x y : UInt8) (a b : List UInt8) : lessL (x :: a) (y :: b) = true ↔ b = x :: a ∨ (x = y ∧ lessL a b = true) := by
  rw [lessL_iff, lessL_iff]
  constructor
  · rintro ⟨i, hi, he⟩
    cases i with
    | zero => rw [eraseB_zero] at he; exact .inl he
    | succ i =>
      rw [eraseB_succ] at he
      injection he with h1 h2
      exact .inr ⟨h1.symm, i, by simpa using hi, h2⟩
  · rintro (h | ⟨rfl, i, hi, he⟩)
    · exact ⟨0, by simp, by rw [eraseB_zero, h]⟩
    · exact ⟨i + 1, by simpa using hi, by rw [eraseB_succ, he]⟩
theorem lessL_lcp : ∀ (a b : List UInt8), a.length + 1 = b.length → (lessL a b = true ↔ a.drop (lcp a b) = b.drop (lcp a b + 1))
  | [], [], h => by simp at h
  | [], [y], _ => by simp [lessL_iff, eraseB, lcp]
  | [], _ :: _ :: _, h => by simp at h
  | x :: a, [], h => by simp at h
  | x :: a, y :: b, h => by
    have hl : a.length + 1 = b.length := by simpa using h
    rw [lessL_cons, lcp]
    by_cases hxy : x = y
    · subst hxy
      rw [if_pos rfl]
      simp only [List.drop_succ_cons, true_and]
      rw [← lessL_lcp a b hl]
      constructor
      · rintro (h | h)
        · rw [h]; exact lessL_iff.2 ⟨0, by simp, eraseB_zero _ _⟩
        · exact h
      · exact .inr
    · rw [if_neg hxy]
      simp only [hxy, false_and, or_false, List.drop_zero, Nat.zero_add, List.drop_succ_cons]
      exact ⟨fun h => h.symm, fun h => h.symm⟩
def diffs (a b : List UInt8) : List Nat := (List.range a.length).filter fun i => decide (a[i]? ≠ b[i]?)
theorem diffs_cons (x y : UInt8) (a b : List UInt8) : diffs (x :: a) (y :: b) = if x = y then (diffs a b).map (· + 1) else 0 :: (diffs a b).map (· + 1) := by
  unfold diffs
  rw [List.length_cons, List.range_succ_eq_map, List.filter_cons, List.filter_map]
  simp only [List.getElem?_cons_zero, ne_eq, Option.some.injEq]
  have : ((fun i => decide (¬(x :: a)[i]? = (y :: b)[i]?)) ∘ Nat.succ) = (fun i => decide (¬a[i]? = b[i]?)) := by
    funext i; simp
  rw [this]
  by_cases h : x = y
  · rw [if_pos h, if_neg (by simp [h])]
  · rw [if_neg h, if_pos (by simp [h])]
theorem diffs_nil : ∀ (a b : List UInt8), a.length = b.length → (diffs a b = [] ↔ a = b)
  | [], [], _ => by simp [diffs]
  | [], _ :: _, h => by simp at h
  | _ :: _, [], h => by simp at h
  | x :: a, y :: b, h => by
    rw [diffs_cons]
    have ih := diffs_nil a b (by simpa using h)
    by_cases hxy : x = y
    · simp [hxy, ih]
    · simp [hxy]
/-- What the two differences must be. -/
def diffOk (a b : List UInt8) (d : List Nat) : Bool := match d with
  | [i, k] => decide (k = i + 1) && decide (a[i]? = b[k]?) && decide (a[k]? = b[i]?)
  | [_] => true
  | _ => false
def simS (a b : List UInt8) : Bool := lessL a b || lessL b a || (decide (a.length = b.length) && diffOk a b (diffs a b))
def simE (a b : List UInt8) : Bool := decide (a.drop (lcp a b + 1) = b.drop (lcp a b + 1)) || (decide (lcp a b + 1 < a.length) && decide (a[lcp a b]? = b[lcp a b + 1]?) && decide (a[lcp a b + 1]? = b[lcp a b]?) && decide (a.drop (lcp a b + 2) = b.drop (lcp a b + 2)))
def simP (a b : List UInt8) : Bool := if a = b then false else if a.length + 1 < b.length then false else if a.length < b.length then decide (a.drop (lcp a b) = b.drop (lcp a b + 1)) else simE a b
def simI (a b : List UInt8) : Bool := if b.length < a.length then simP b a else simP a b
theorem diffOk_map (x : UInt8) (a b : List UInt8) (d : List Nat) : diffOk (x :: a) (x :: b) (d.map (· + 1)) = diffOk a b d := by
  match d with
  | [] => rfl
  | [_] => rfl
  | [i, k] => simp [diffOk]
  | _ :: _ :: _ :: _ => rfl
theorem simE_diff : ∀ (a b : List UInt8), a.length = b.length → a ≠ b → simE a b = diffOk a b (diffs a b)
  | [], [], _, h => absurd rfl h
  | [], _ :: _, h, _ => by simp at h
  | _ :: _, [], h, _ => by simp at h
  | x :: a, y :: b, h, hne => by
    have hl : a.length = b.length := by simpa using h
    rw [diffs_cons]
    by_cases hxy : x = y
    · subst hxy
      have hab : a ≠ b := fun e => hne (by rw [e])
      rw [if_pos rfl, diffOk_map, ← simE_diff a b hl hab]
      have hc : lcp (x :: a) (x :: b) = lcp a b + 1 := by rw [lcp, if_pos rfl]
      unfold simE
      rw [hc]
      simp
    · rw [if_neg hxy]
      have hc : lcp (x :: a) (y :: b) = 0 := by rw [lcp, if_neg hxy]
      unfold simE
      rw [hc]
      match a, b, hl with
      | [], [], _ => simp [diffs, diffOk]
      | u :: a, v :: b, hl2 =>
        have hl3 : a.length = b.length := by simpa using hl2
        rw [diffs_cons]
        have hn := diffs_nil a b hl3
        by_cases huv : u = v
        · subst huv
          rw [if_pos rfl]
          by_cases hab : a = b
          · subst hab
            simp [hn.2 rfl, diffOk]
          · cases hd : diffs a b with
            | nil => exact absurd (hn.1 hd) hab
            | cons i d =>
              cases d with
              | nil => simp [diffOk, hab]
              | cons k d => simp [diffOk, hab]
        · rw [if_neg huv]
          by_cases hab : a = b
          · subst hab
            simp [hn.2 rfl, diffOk, huv]
          · cases hd : diffs a b with
            | nil => exact absurd (hn.1 hd) hab
            | cons i d => simp [diffOk, hab, huv]
theorem lessL_self_len {a b : List UInt8} (h : a.length = b.length) : lessL a b = false := lessL_length (by omega)
theorem simP_eq {a b : List UInt8} (h : a.length ≤ b.length) : simP a b = (lessL a b || (decide (a.length = b.length) && diffOk a b (diffs a b))) := by
  unfold simP
  by_cases he : a = b
  · subst he
    rw [if_pos rfl, lessL_self_len rfl, (diffs_nil a a rfl).2 rfl]
    simp [diffOk]
  · rw [if_neg he]
    by_cases h1 : a.length + 1 < b.length
    · rw [if_pos h1, lessL_length (by omega), decide_eq_false (by omega)]; rfl
    · rw [if_neg h1]
      by_cases h2 : a.length < b.length
      · rw [if_pos h2, decide_eq_false (show ¬ a.length = b.length by omega), Bool.false_and, Bool.or_false, Bool.eq_iff_iff, lessL_lcp a b (by omega)]
        simp
      · have hl : a.length = b.length := by omega
        rw [if_neg h2, lessL_self_len hl, decide_eq_true hl, simE_diff a b hl he]
        simp
theorem diffs_comm {a b : List UInt8} (h : a.length = b.length) : diffs a b = diffs b a := by
  unfold diffs
  rw [h]
  congr 1
  funext i
  rw [decide_eq_decide]
  exact ⟨fun h e => h e.symm, fun h e => h e.symm⟩
theorem diffOk_comm (a b : List UInt8) (d : List Nat) : diffOk a b d = diffOk b a d := by
  match d with
  | [] => rfl
  | [_] => rfl
  | [i, k] =>
    simp only [diffOk, Bool.and_assoc]
    congr 1
    rw [Bool.and_comm]
    congr 1 <;> (rw [decide_eq_decide]; exact ⟨Eq.symm, Eq.symm⟩)
  | _ :: _ :: _ :: _ => rfl
theorem simI_eq (a b : List UInt8) : simI a b = simS a b := by
  unfold simI simS
  by_cases h : b.length < a.length
  · rw [if_pos h, simP_eq (by omega), lessL_length (a := a) (b := b) (by omega), decide_eq_false (show ¬ b.length = a.length by omega), decide_eq_false (show ¬ a.length = b.length by omega)]
    simp
  · rw [if_neg h, simP_eq (by omega)]
    by_cases h2 : a.length = b.length
    · rw [lessL_self_len h2.symm]; simp
    · rw [lessL_length (a := b) (b := a) (by omega)]; simp
end Go.Proofs.Ytpkhdmhfkmajcaa

/- A house removed: the plain law. -/
import Derived.Test.YtpkhdmhfkmajcaaSimE
namespace Go.Proofs.Ytpkhdmhfkmajcaa
open Go.RowKit
set_option linter.unusedVariables false

theorem strR_same {b a : StrT} (h : strR b a = true) (e : b.1.toList = a.1.toList) : b.2.2.1 < a.2.1 := by
  simp only [strR, Bool.not_eq_true', Bool.or_eq_false_iff, Bool.and_eq_false_iff] at h
  rcases h.2 with h1 | h1
  · rw [e] at h1; simp at h1
  · simpa using h1
theorem strsB_chain {l : List StrT} (h : strsB l = true) : chainB strP strR l = true := by
  rw [strsB, Bool.and_eq_true] at h
  exact h.1
theorem elem_bd {l : List StrT} (h : strsB l = true) {i : Nat} {x : StrT} (hx : l[i]? = some x) : (1 ≤ x.2.1 ∧ x.2.1 ≤ x.2.2.1 ∧ x.2.2.1 ≤ 999) := by
  obtain ⟨x0, x1, x2, x3, x4⟩ := x
  exact (strP_bd (strsB_elem h (List.mem_of_getElem? hx))).1
theorem lows {l : List StrT} (h : strsB l = true) : ∀ (d i : Nat) (x y : StrT), l[i]? = some x → l[i + d + 1]? = some y → x.1.toList = y.1.toList → x.2.2.1 < y.2.1
  | 0, i, x, y, hx, hy, e => strR_same (chainB_next (strsB_chain h) hy hx) e
  | d + 1, i, x, y, hx, hy, e => by
    have hi : i + d + 1 < l.length := by have := (List.getElem?_eq_some_iff.1 hy).1; omega
    have hz : l[i + d + 1]? = some l[i + d + 1] := List.getElem?_eq_getElem hi
    have h1 := names_le h (d + 1) i x _ hx (by rw [show i + (d + 1) = i + d + 1 by omega]; exact hz)
    have h2 := names_le h 1 (i + d + 1) _ y hz (by rw [show i + d + 1 + 1 = i + (d + 1) + 1 by omega]; exact hy)
    have e1 : x.1.toList = l[i + d + 1].1.toList := by
      rcases h1 with h1 | h1
      · rcases h2 with h2 | h2
        · have := List.lt_trans h1 h2
          rw [e] at this
          exact absurd this (List.lt_irrefl _)
        · rw [h2, e] at h1
          exact absurd h1 (List.lt_irrefl _)
      · exact h1
    have h3 := lows h d i x _ hx hz e1
    have h4 := strR_same (chainB_next (strsB_chain h) (show l[i + d + 1 + 1]? = some y by rw [show i + d + 1 + 1 = i + (d + 1) + 1 by omega]; exact hy) hz) (by rw [← e1, e])
    have h5 := elem_bd h hz
    omega
/-- Whether x comes before s in the list's order. -/
def befB (s x : StrT) : Bool := Op.bytesLess x.1.toList s.1.toList || (x.1.toList == s.1.toList && decide (x.2.1 < s.2.1))
def putS (l : List StrT) (s : StrT) : List StrT := l.takeWhile (befB s) ++ [s] ++ l.dropWhile (befB s)
theorem putS_at {s : StrT} : ∀ {X Y : List StrT}, (∀ x ∈ X, befB s x = true) → (∀ y, Y.head? = some y → befB s y = false) → putS (X ++ Y) s = X ++ [s] ++ Y
  | [], [], _, _ => by simp [putS]
  | [], y :: Y, _, hY => by
    have := hY y rfl
    simp [putS, this]
  | x :: X, Y, hX, hY => by
    have h0 := hX x (List.mem_cons_self ..)
    have ih := putS_at (X := X) (Y := Y) (fun z hz => hX z (List.mem_cons_of_mem _ hz)) hY
    unfold putS at ih ⊢
    simp only [List.cons_append, List.takeWhile_cons, List.dropWhile_cons, h0, if_true]
    simpa using ih
theorem befB_iff {s x : StrT} : befB s x = true ↔ x.1.toList < s.1.toList ∨ (x.1.toList = s.1.toList ∧ x.2.1 < s.2.1) := by
  simp [befB, less_lex]
theorem take_bef {l : List StrT} (h : strsB l = true) {q : Nat} {x : StrT} (hx : l[q]? = some x) {s : StrT} (e : s.1 = x.1) (hl : x.2.1 ≤ s.2.1) : ∀ y ∈ l.take q, befB s y = true := by
  intro y hy
  obtain ⟨i, hi⟩ := List.mem_iff_getElem?.1 hy
  have hiq : i < q := by
    have := (List.getElem?_eq_some_iff.1 hi).1
    rw [List.length_take] at this
    omega
  rw [List.getElem?_take_of_lt hiq] at hi
  rw [befB_iff, e]
  rcases names_le h (q - i) i y x hi (by rw [show i + (q - i) = q by omega]; exact hx) with h1 | h1
  · exact .inl h1
  · right
    have h2 := lows h (q - i - 1) i y x hi (by rw [show i + (q - i - 1) + 1 = q by omega]; exact hx) h1
    have h3 := elem_bd h hi
    exact ⟨h1, by omega⟩
theorem drop_bef {l : List StrT} (h : strsB l = true) {q : Nat} {x : StrT} (hx : l[q]? = some x) {s : StrT} (e : s.1 = x.1) (hl : s.2.1 ≤ x.2.2.1) : ∀ y, (l.drop (q + 1)).head? = some y → befB s y = false := by
  intro y hy
  have hy2 : l[q + 1]? = some y := by rw [List.head?_drop] at hy; exact hy
  cases hc : befB s y with
  | false => rfl
  | true =>
    exfalso
    rw [befB_iff, e] at hc
    rcases names_le h 1 q x y hx hy2 with h1 | h1
    · rcases hc with hc | hc
      · exact List.lt_irrefl _ (List.lt_trans h1 hc)
      · rw [hc.1] at h1; exact List.lt_irrefl _ h1
    · rcases hc with hc | hc
      · rw [h1] at hc; exact List.lt_irrefl _ hc
      · have := strR_same (chainB_next (strsB_chain h) hy2 hx) h1
        omega
def belowS (x : StrT) (h : Int) : StrT := (x.1, x.2.1, h - 1, x.2.2.2.1, x.2.2.2.2)
def aboveS (x : StrT) (h : Int) : StrT := (x.1, h + 1, x.2.2.1, x.2.2.2.1, x.2.2.2.2)
def belowL (x : StrT) (h : Int) : List StrT := if x.2.1 ≤ h - 1 then [belowS x h] else []
def aboveL (x : StrT) (h : Int) : List StrT := if h + 1 ≤ x.2.2.1 then [aboveS x h] else []
/-- The list behind the removal of house h out of stretch x, number q. -/
def rhN (l : List StrT) (q : Nat) (x : StrT) (h : Int) : List StrT := l.take q ++ belowL x h ++ aboveL x h ++ l.drop (q + 1)
def put1 (l : List StrT) (s : StrT) : List StrT := if s.2.1 ≤ s.2.2.1 then putS l s else l
theorem put_both {l : List StrT} (h : strsB l = true) {q : Nat} {x : StrT} (hx : l[q]? = some x) {k : Int} (h1 : x.2.1 ≤ k) (h2 : k ≤ x.2.2.1) :
    put1 (put1 (l.take q ++ l.drop (q + 1)) (belowS x k)) (aboveS x k) = rhN l q x k := by
  have hA : ∀ y ∈ l.take q, befB (aboveS x k) y = true := take_bef h hx rfl (by show x.2.1 ≤ k + 1; omega)
  have e1 : put1 (l.take q ++ l.drop (q + 1)) (belowS x k) = l.take q ++ belowL x k ++ l.drop (q + 1) := by
    unfold put1 belowL
    by_cases hc : x.2.1 ≤ k - 1
    · rw [if_pos (show (belowS x k).2.1 ≤ (belowS x k).2.2.1 from hc), if_pos hc]
      exact putS_at (take_bef h hx rfl (Int.le_refl _)) (drop_bef h hx rfl (by show x.2.1 ≤ x.2.2.1; omega))
    · rw [if_neg (show ¬ (belowS x k).2.1 ≤ (belowS x k).2.2.1 from hc), if_neg hc]; simp
  rw [e1]
  unfold put1 rhN aboveL
  by_cases hc : k + 1 ≤ x.2.2.1
  · rw [if_pos (show (aboveS x k).2.1 ≤ (aboveS x k).2.2.1 from hc), if_pos hc]
    refine putS_at (fun y hy => ?_) (drop_bef h hx rfl hc)
    rcases List.mem_append.1 hy with hy | hy
    · exact hA y hy
    · unfold belowL at hy
      split at hy
      · simp at hy
        subst hy
        rw [befB_iff]
        right
        exact ⟨rfl, by show x.2.1 < k + 1; omega⟩
      · simp at hy
  · rw [if_neg (show ¬ (aboveS x k).2.1 ≤ (aboveS x k).2.2.1 from hc), if_neg hc]; simp
end Go.Proofs.Ytpkhdmhfkmajcaa

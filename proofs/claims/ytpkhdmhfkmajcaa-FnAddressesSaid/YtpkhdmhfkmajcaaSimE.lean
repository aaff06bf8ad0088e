/- Similar roads: the plain law. -/
import Derived.Test.YtpkhdmhfkmajcaaSimA
import Derived.Test.YtpkhdmhfkmajcaaStrH
namespace Go.Proofs.Ytpkhdmhfkmajcaa
open Go.RowKit
set_option linter.unusedVariables false

theorem less_lex : ∀ x y : List UInt8, Op.bytesLess x y = decide (x < y)
  | [], [] => by simp [Op.bytesLess]
  | [], _ :: _ => by simp [Op.bytesLess]
  | _ :: _, [] => by simp [Op.bytesLess]
  | a :: x, b :: y => by
    rw [Op.bytesLess, less_lex x y, Bool.eq_iff_iff]
    simp only [List.cons_lt_cons_iff, decide_eq_true_eq]
    by_cases h1 : a < b <;> by_cases h2 : a = b <;> simp [h1, h2]
def simN (x s : ByteArray) : Bool := simS x.data.toList s.data.toList
theorem simN_cong {x y s : ByteArray} (h : x.toList = y.toList) : simN x s = simN y s := by
  rw [toList_data, toList_data] at h
  rw [simN, simN, h]
def newAt (l : List StrT) : Nat → Bool
  | 0 => true
  | j + 1 => match l[j]?, l[j + 1]? with
    | some b, some a => !(b.1.toList == a.1.toList)
    | _, _ => true
theorem newAt_succ {l : List StrT} {j : Nat} {a b : StrT} (hb : l[j]? = some b) (ha : l[j + 1]? = some a) : newAt l (j + 1) = !(b.1.toList == a.1.toList) := by simp [newAt, ha, hb]
def roadsK (l : List StrT) (s : ByteArray) : Nat → List ByteArray
  | 0 => []
  | k + 1 => match l[k]? with
    | some x => if simN x.1 s && newAt l k then roadsK l s k ++ [x.1] else roadsK l s k
    | none => roadsK l s k
theorem roadsK_yes {l : List StrT} {s : ByteArray} {k : Nat} {x : StrT} (hx : l[k]? = some x) (h : (simN x.1 s && newAt l k) = true) : roadsK l s (k + 1) = roadsK l s k ++ [x.1] := by rw [roadsK, hx]; dsimp only; rw [if_pos h]
theorem roadsK_no {l : List StrT} {s : ByteArray} {k : Nat} {x : StrT} (hx : l[k]? = some x) (h : (simN x.1 s && newAt l k) = false) : roadsK l s (k + 1) = roadsK l s k := by rw [roadsK, hx]; dsimp only; rw [if_neg (by rw [h]; simp)]
theorem roadsK_length (l : List StrT) (s : ByteArray) : ∀ k, (roadsK l s k).length ≤ k
  | 0 => by simp [roadsK]
  | k + 1 => by
    have := roadsK_length l s k
    rw [roadsK]
    split
    · split
      · simp; omega
      · omega
    · omega
theorem roadsK_mem {l : List StrT} {s : ByteArray} : ∀ (k : Nat) (y : ByteArray), y ∈ roadsK l s k → ∃ i x, i < k ∧ l[i]? = some x ∧ x.1 = y
  | 0, y, h => by simp [roadsK] at h
  | k + 1, y, h => by
    rw [roadsK] at h
    split at h
    · next x hx =>
      split at h
      · rcases List.mem_append.1 h with h | h
        · obtain ⟨i, z, hi, hz, he⟩ := roadsK_mem k y h
          exact ⟨i, z, by omega, hz, he⟩
        · simp at h
          exact ⟨k, x, by omega, hx, h.symm⟩
      · obtain ⟨i, z, hi, hz, he⟩ := roadsK_mem k y h
        exact ⟨i, z, by omega, hz, he⟩
    · obtain ⟨i, z, hi, hz, he⟩ := roadsK_mem k y h
      exact ⟨i, z, by omega, hz, he⟩
def hasS (L : List ByteArray) (s : ByteArray) : Bool := L.any fun x => x.toList == s.toList
theorem hasS_append (L L' : List ByteArray) (s : ByteArray) : hasS (L ++ L') s = (hasS L s || hasS L' s) := by simp [hasS]
theorem hasS_cong {L : List ByteArray} {s t : ByteArray} (h : s.toList = t.toList) : hasS L s = hasS L t := by rw [hasS, hasS, h]
theorem strR_le {b a : StrT} (h : strR b a = true) : b.1.toList < a.1.toList ∨ b.1.toList = a.1.toList := by
  simp only [strR, Bool.not_eq_true', Bool.or_eq_false_iff, Bool.and_eq_false_iff, less_lex] at h
  rcases h.1 with h1 | h1
  · left; simpa using h1
  · right; simpa using h1
theorem names_le {l : List StrT} (h : strsB l = true) : ∀ (d i : Nat) (x y : StrT), l[i]? = some x → l[i + d]? = some y → x.1.toList < y.1.toList ∨ x.1.toList = y.1.toList
  | 0, i, x, y, hx, hy => by
    rw [Nat.add_zero, hx] at hy
    injection hy with hy
    right; rw [hy]
  | d + 1, i, x, y, hx, hy => by
    have hi : i + d < l.length := by have := (List.getElem?_eq_some_iff.1 hy).1; omega
    rw [strsB, Bool.and_eq_true] at h
    have h1 := names_le (by rw [strsB, Bool.and_eq_true]; exact h) d i x _ hx (List.getElem?_eq_getElem hi)
    have h2 := strR_le (chainB_next h.1 hy (List.getElem?_eq_getElem hi))
    rcases h1 with h1 | h1
    · rcases h2 with h2 | h2
      · exact .inl (List.lt_trans h1 h2)
      · rw [← h2]; exact .inl h1
    · rw [h1]; exact h2
theorem roadsK_all {l : List StrT} {s : ByteArray} : ∀ (k : Nat), k ≤ l.length → ∀ (i : Nat) (x : StrT), i < k → l[i]? = some x → simN x.1 s = true → hasS (roadsK l s k) x.1 = true
  | 0, _, i, x, hi, _, _ => absurd hi (by omega)
  | k + 1, hk, i, x, hi, hx, hs => by
    have hy : l[k]? = some l[k] := List.getElem?_eq_getElem (by omega)
    have IH := roadsK_all (l := l) (s := s) k (by omega)
    by_cases hik : i < k
    · have ih := IH i x hik hx hs
      cases hc : (simN l[k].1 s && newAt l k) with
      | true => rw [roadsK_yes hy hc, hasS_append, ih]; rfl
      | false => rw [roadsK_no hy hc]; exact ih
    · have hik2 : i = k := by omega
      subst hik2
      rw [hx] at hy
      injection hy with hy
      cases hc : (simN x.1 s && newAt l i) with
      | true => rw [roadsK_yes hx hc, hasS_append]; simp [hasS]
      | false =>
        rw [roadsK_no hx hc]
        rw [hs, Bool.true_and] at hc
        match i, hx, hc, hk, IH with
        | 0, _, hc, _, _ => simp [newAt] at hc
        | j + 1, hx, hc, hk, IH =>
          have hb : l[j]? = some l[j] := List.getElem?_eq_getElem (by omega)
          rw [newAt_succ hb hx] at hc
          have he : l[j].1.toList = x.1.toList := by simpa using hc
          have := IH j _ (by omega) hb (by rw [simN_cong he]; exact hs)
          rw [hasS_cong he] at this
          exact this
/-- Whether a name is there already, told by its neighbour. -/
theorem has_new {l : List StrT} (h : strsB l = true) {s : ByteArray} {k : Nat} {x : StrT} (hx : l[k]? = some x) (hs : simN x.1 s = true) : hasS (roadsK l s k) x.1 = !newAt l k := by
  have hk : k < l.length := (List.getElem?_eq_some_iff.1 hx).1
  match k, hx, hk with
  | 0, hx, hk => simp [hasS, roadsK, newAt]
  | j + 1, hx, hk =>
    have hb : l[j]? = some l[j] := List.getElem?_eq_getElem (by omega)
    rw [newAt_succ hb hx, Bool.not_not]
    by_cases he : l[j].1.toList = x.1.toList
    · have := roadsK_all (s := s) (j + 1) (by omega) j _ (by omega) hb (by rw [simN_cong he]; exact hs)
      rw [hasS_cong he] at this
      rw [this]; simpa using he
    · have h2 : (l[j].1.toList == x.1.toList) = false := by simpa using he
      rw [h2]
      cases hc : hasS (roadsK l s (j + 1)) x.1 with
      | false => rfl
      | true =>
        exfalso
        obtain ⟨y, hy, hyx⟩ := List.any_eq_true.1 hc
        obtain ⟨i, z, hi, hz, rfl⟩ := roadsK_mem _ _ hy
        have hzx : z.1.toList = x.1.toList := by simpa using hyx
        have h3 := names_le h (j - i) i z l[j] hz (by rw [show i + (j - i) = j by omega]; exact hb)
        have h4 := names_le h 1 j l[j] x hb hx
        rcases h4 with h4 | h4
        · rcases h3 with h3 | h3
          · have := List.lt_trans h3 h4
            rw [hzx] at this
            exact List.lt_irrefl _ this
          · rw [← h3, hzx] at h4
            exact List.lt_irrefl _ h4
        · exact he h4
end Go.Proofs.Ytpkhdmhfkmajcaa

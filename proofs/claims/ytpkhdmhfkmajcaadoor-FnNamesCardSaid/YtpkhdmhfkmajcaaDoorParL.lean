/- Reading texts: the plain side: cuts at a byte, numbers. -/
import Derived.Test.YtpkhdmhfkmajcaaDoorNumT
import Derived.Lib.SplitLaws
import Derived.Lib.FieldsLaws
import Derived.Lib.AtoiAll
namespace Go.Proofs.YtpkhdmhfkmajcaaDoor
open Go.RowKit
set_option linter.unusedVariables false

/-- A text's pieces between the places of a byte. -/
def splitL (b : UInt8) : List UInt8 → List (List UInt8)
  | [] => [[]]
  | c :: r => if c = b then [] :: splitL b r else (c :: (splitL b r).headD []) :: (splitL b r).tail
theorem splitL_ne (b : UInt8) : ∀ l, splitL b l ≠ []
  | [] => by simp [splitL]
  | c :: r => by rw [splitL]; split <;> simp
theorem splitL_form (b : UInt8) (l : List UInt8) : splitL b l = (splitL b l).headD [] :: (splitL b l).tail := by
  cases h : splitL b l with
  | nil => exact absurd h (splitL_ne b l)
  | cons x y => rfl
theorem splitL_none {b : UInt8} : ∀ {l : List UInt8}, (∀ x ∈ l, x ≠ b) → splitL b l = [l]
  | [], _ => rfl
  | c :: r, h => by
    rw [splitL, if_neg (h c (List.mem_cons_self ..)), splitL_none (l := r) (fun x hx => h x (List.mem_cons_of_mem _ hx))]
    rfl
theorem splitL_cut {b : UInt8} (r : List UInt8) : ∀ {p : List UInt8}, (∀ x ∈ p, x ≠ b) → splitL b (p ++ b :: r) = p :: splitL b r
  | [], _ => by simp [splitL]
  | c :: p, h => by
    rw [List.cons_append, splitL, if_neg (h c (List.mem_cons_self ..)), splitL_cut r (p := p) (fun x hx => h x (List.mem_cons_of_mem _ hx))]
    rfl
/-- Pieces that end with the byte, each. -/
theorem splitL_ends {b : UInt8} : ∀ {ps : List (List UInt8)}, (∀ p ∈ ps, ∀ x ∈ p, x ≠ b) → splitL b (ps.flatMap (· ++ [b])) = ps ++ [[]]
  | [], _ => rfl
  | p :: ps, h => by
    rw [List.flatMap_cons, List.append_assoc, List.singleton_append, splitL_cut _ (h p (List.mem_cons_self ..)), splitL_ends (ps := ps) (fun q hq => h q (List.mem_cons_of_mem _ hq))]
    rfl
/-- Pieces that begin with the byte, each, behind a first one. -/
theorem splitL_begins {b : UInt8} : ∀ {ps : List (List UInt8)} {p : List UInt8}, (∀ x ∈ p, x ≠ b) → (∀ p ∈ ps, ∀ x ∈ p, x ≠ b) → splitL b (p ++ ps.flatMap (b :: ·)) = p :: ps
  | [], p, h, _ => by simp [splitL_none h]
  | q :: ps, p, h, h2 => by
    rw [List.flatMap_cons, List.cons_append, splitL_cut _ h, splitL_begins (ps := ps) (h2 q (List.mem_cons_self ..)) (fun q hq => h2 q (List.mem_cons_of_mem _ hq))]
theorem splitL_snoc {b c : UInt8} : ∀ {l : List UInt8} {A : List (List UInt8)} {z : List UInt8}, splitL b l = A ++ [z] → splitL b (l ++ [c]) = if c = b then A ++ [z] ++ [[]] else A ++ [z ++ [c]]
  | [], A, z, h => by
    have h' : A = [] ∧ z = [] := by
      cases A with
      | nil => simpa [splitL] using h.symm
      | cons a A => have := congrArg List.length h; simp [splitL] at this
    obtain ⟨rfl, rfl⟩ := h'
    by_cases hc : c = b <;> simp [splitL, hc]
  | d :: r, A, z, h => by
    rw [splitL] at h
    rw [List.cons_append, splitL]
    by_cases hd : d = b
    · rw [if_pos hd] at h ⊢
      cases A with
      | nil =>
        simp only [List.nil_append, List.cons.injEq] at h
        exact absurd h.2 (splitL_ne b r)
      | cons a A =>
        simp only [List.cons_append, List.cons.injEq] at h
        rw [splitL_snoc (l := r) h.2, ← h.1]
        split <;> simp
    · rw [if_neg hd] at h ⊢
      have hf := splitL_form b r
      cases A with
      | nil =>
        simp only [List.nil_append, List.cons.injEq] at h
        rw [h.2] at hf
        rw [splitL_snoc (l := r) (A := []) hf, ← h.1]
        split <;> simp
      | cons a A =>
        simp only [List.cons_append, List.cons.injEq] at h
        rw [h.2] at hf
        rw [splitL_snoc (l := r) (A := (splitL b r).headD [] :: A) hf, ← h.1]
        split <;> simp

/-- The library's cut is this cut, at a separator of one byte. -/
theorem split_one (b : UInt8) : ∀ l : List UInt8, Lib.split l [b] = splitL b l
  | [] => by
    have h : Lib.index ([] : List UInt8) [b] = -1 := by simp [Lib.index]
    rw [Lib.split, Lib.count_miss h, Lib.splitK]; rfl
  | c :: r => by
    have ih := split_one b r
    rw [splitL]
    by_cases hc : c = b
    · subst hc
      have hx : Lib.index (c :: r) [c] = ((0 : Nat) : Int) := by rw [Lib.index]; simp [List.isPrefixOf]
      rw [if_pos rfl, ← ih, Lib.split, Lib.count_cons_eq, Nat.add_comm, Lib.splitK, hx, Lib.split]
      simp
    · rw [if_neg hc, ← ih]
      have hp : ([b] : List UInt8).isPrefixOf (c :: r) = false := by simp [List.isPrefixOf, Ne.symm hc]
      have hx : Lib.index (c :: r) [b] = if Lib.index r [b] == -1 then -1 else Lib.index r [b] + 1 := by rw [Lib.index, hp]; simp
      rw [Lib.split, Lib.split, Lib.count_cons_ne c b r hc]
      by_cases hm : Lib.index r [b] = -1
      · rw [Lib.count_miss hm, Lib.splitK, Lib.splitK]; rfl
      · have hge := Lib.index_ge r [b]
        obtain ⟨j, hj⟩ : ∃ j : Nat, Lib.index r [b] = j := ⟨(Lib.index r [b]).toNat, by omega⟩
        have hx' : Lib.index (c :: r) [b] = ((j + 1 : Nat) : Int) := by rw [hx, if_neg (fun e => hm (beq_iff_eq.1 e)), hj]; omega
        have n1 : ¬ ((j : Int) == -1) = true := fun e => by have := beq_iff_eq.1 e; omega
        have n2 : ¬ (((j + 1 : Nat) : Int) == -1) = true := fun e => by have := beq_iff_eq.1 e; omega
        rw [Lib.count_hit (by simp) hj, Nat.add_comm, Lib.splitK, Lib.splitK, hj, hx', if_neg n1, if_neg n2]
        simp

/-- The pieces that the reference has behind i bytes, and where the next one begins. -/
def cutD (s : ByteArray) (b : UInt8) : Nat → List ByteArray × Nat
  | 0 => ([], 0)
  | i + 1 => if s.data[i]? = some b then ((cutD s b i).1 ++ [s.extract (cutD s b i).2 i], i + 1) else cutD s b i
theorem cutD_le (s : ByteArray) (b : UInt8) : ∀ i, (cutD s b i).2 ≤ i ∧ (cutD s b i).1.length ≤ i
  | 0 => by simp [cutD]
  | i + 1 => by
    have ih := cutD_le s b i
    rw [cutD]
    split
    · simp only [List.length_append, List.length_singleton]; omega
    · omega
def splitS (s : ByteArray) (b : UInt8) : List ByteArray := (cutD s b s.size).1 ++ [s.extract (cutD s b s.size).2 s.size]
theorem extract_list (s : ByteArray) (i j : Nat) : (s.extract i j).data.toList = (s.data.toList.take j).drop i := by
  rw [ByteArray.data_extract, Array.toList_extract, List.extract_eq_take_drop, List.drop_take]
theorem cutD_split (s : ByteArray) (b : UInt8) : ∀ i, i ≤ s.size → splitL b (s.data.toList.take i) = ((cutD s b i).1.map (·.data.toList)) ++ [(s.data.toList.take i).drop (cutD s b i).2]
  | 0, _ => by simp [cutD, splitL]
  | i + 1, hi => by
    have ih := cutD_split s b i (by omega)
    have hle := (cutD_le s b i).1
    have hlt : i < s.data.toList.length := by rw [Array.length_toList]; exact hi
    have hs : s.data.toList.take (i + 1) = s.data.toList.take i ++ [s.data.toList[i]] := List.take_succ_eq_append_getElem hlt
    rw [hs, splitL_snoc ih, cutD]
    have hc : (s.data[i]? = some b) = (s.data.toList[i] = b) := by
      rw [← Array.getElem?_toList, List.getElem?_eq_getElem hlt, Option.some.injEq]
    by_cases h : s.data.toList[i] = b
    · rw [if_pos h, if_pos (hc ▸ h)]
      have hz : (s.data.toList.take i ++ [s.data.toList[i]]).drop (i + 1) = [] := List.drop_eq_nil_of_le (by simp; omega)
      simp only [List.map_append, List.map_cons, List.map_nil, extract_list, hz]
    · rw [if_neg h, if_neg (hc ▸ h)]
      rw [List.drop_append_of_le_length (by simp; omega)]
theorem splitS_list (s : ByteArray) (b : UInt8) : (splitS s b).map (·.data.toList) = splitL b s.data.toList := by
  have h := cutD_split s b s.size (Nat.le_refl _)
  have hz : s.data.toList.take s.size = s.data.toList := List.take_of_length_le (Nat.le_refl _)
  rw [hz] at h
  rw [h, splitS, List.map_append, List.map_singleton, extract_list, hz]

/-- The number that the reference reads: its digits from the left. -/
def digs : Int → List UInt8 → Int
  | n, [] => n
  | n, c :: r => if c < 48 ∨ c > 57 then -1 else digs (10 * n + ((c.toNat : Int) - 48)) r
def readS (s : ByteArray) : Int := if s.size < 1 ∨ 6 < s.size ∨ (s.data[0]? = some 48 ∧ 1 < s.size) then -1 else digs 0 s.data.toList
end Go.Proofs.YtpkhdmhfkmajcaaDoor

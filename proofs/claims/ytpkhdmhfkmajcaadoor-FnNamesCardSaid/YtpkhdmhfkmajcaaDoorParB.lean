/- Reading texts: the plain side: what all parsers share. -/
import Derived.Test.YtpkhdmhfkmajcaaDoorParF
namespace Go.Proofs.YtpkhdmhfkmajcaaDoor
open Go.RowKit
set_option linter.unusedVariables false

def bt1 (l : List UInt8) : ByteArray := ⟨l.toArray⟩
theorem bt1_list (l : List UInt8) : (bt1 l).data.toList = l := rfl
theorem bt1_txt (n : Nat) : bt1 (Lib.decDigits n) = txt n := rfl
/-- A number with at most k digits. -/
theorem txt_le : ∀ (k n : Nat), 1 ≤ k → n < 10 ^ k → (txt n).size ≤ k
  | 0, _, h, _ => by omega
  | k + 1, n, _, h => by
    by_cases h1 : n < 10
    · rw [txt_one h1]
      show 1 ≤ k + 1
      omega
    · rw [Nat.pow_succ] at h
      have hk : 1 ≤ k := by
        rcases Nat.eq_zero_or_pos k with h0 | h0
        · subst h0; omega
        · exact h0
      have ih := txt_le k (n / 10) hk (by omega)
      rw [txt_more h1, ByteArray.size_append]
      show (txt (n / 10)).size + 1 ≤ k + 1
      omega
/-- The library's pieces at one byte are the reference's. -/
theorem split_same (s : ByteArray) (b : UInt8) : Lib.splitB ⟨#[b]⟩ 0 (Lib.countB s ⟨#[b]⟩) s = splitS s b := by
  apply lists_eq
  rw [splitS_list, Lib.splitB_data, ← split_one b s.data.toList]
  rfl
theorem count_same (s : ByteArray) (b : UInt8) : Lib.countB s ⟨#[b]⟩ + 1 = (splitS s b).length := by
  rw [← split_same, Lib.splitB_all ⟨#[b]⟩ (by show 1 ≤ 1; omega) 0 _ s rfl]
theorem splitS_len (s : ByteArray) (b : UInt8) : (splitS s b).length ≤ s.size + 1 := by
  rw [splitS, List.length_append, List.length_singleton]
  have := (cutD_le s b s.size).2
  omega
theorem splitS_pos (s : ByteArray) (b : UInt8) : 1 ≤ (splitS s b).length := by rw [splitS]; simp
theorem splitS_size (s : ByteArray) (b : UInt8) {x : ByteArray} (h : x ∈ splitS s b) : x.size ≤ s.size := by
  have aux : ∀ i, i ≤ s.size → ∀ y ∈ (cutD s b i).1, y.size ≤ s.size := by
    intro i
    induction i with
    | zero => intro _ y hy; cases hy
    | succ i ih =>
      intro hi y hy
      rw [cutD] at hy
      split at hy
      · rw [List.mem_append, List.mem_singleton] at hy
        rcases hy with hy | rfl
        · exact ih (by omega) y hy
        · rw [ByteArray.size_extract]; omega
      · exact ih (by omega) y hy
  rw [splitS, List.mem_append, List.mem_singleton] at h
  rcases h with h | rfl
  · exact aux _ (Nat.le_refl _) x h
  · rw [ByteArray.size_extract]; omega
/-- Pieces with the byte behind each are a first piece and pieces with the byte ahead of each, and the byte. -/
theorem ends_begins (b : UInt8) : ∀ (ps : List (List UInt8)) (p : List UInt8), (p :: ps).flatMap (· ++ [b]) = (p ++ ps.flatMap (b :: ·)) ++ [b]
  | [], p => by simp
  | q :: ps, p => by
    have ih := ends_begins b ps q
    rw [List.flatMap_cons, ih, List.flatMap_cons]
    simp
theorem trim_byte (X : List UInt8) (b : UInt8) : Lib.trimSuffix (X ++ [b]) [b] = X := by
  have h : Lib.hasSuffix (X ++ [b]) [b] = true := by
    unfold Lib.hasSuffix
    simp
  unfold Lib.trimSuffix
  rw [if_pos h]
  simp
theorem tail_extract {s : ByteArray} {c : UInt8} {r : List UInt8} (h : s.data.toList = c :: r) : s.extract 1 s.size = bt1 r := by
  apply bytes_eq
  have hz : s.data.toList.take s.size = s.data.toList := List.take_of_length_le (Nat.le_refl _)
  rw [extract_list, hz, h]
  rfl
end Go.Proofs.YtpkhdmhfkmajcaaDoor

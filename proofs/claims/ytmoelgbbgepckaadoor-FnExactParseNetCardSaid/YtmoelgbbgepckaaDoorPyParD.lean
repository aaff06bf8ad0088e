/- A text's words: the plain side. -/
import Derived.Test.YtmoelgbbgepckaaDoorPyA
import Derived.Shelf.Strings.FieldsAny
namespace Go.Proofs.YtmoelgbbgepckaaDoor
open Go.RowKit
set_option linter.unusedVariables false

def wordsF (s : ByteArray) : List ByteArray := (Lib.fieldsD s.data.toList).map fun x => ⟨x.toArray⟩
theorem goD_size : ∀ (f : Nat) (cur l : List UInt8), ∀ x ∈ Lib.fieldsGoD f cur l, x.length ≤ cur.length + l.length
  | 0, cur, l, x, hx => by
    rw [Lib.fieldsGoD] at hx
    split at hx
    · cases hx
    · rw [List.mem_singleton] at hx; subst hx; omega
  | f + 1, cur, l, x, hx => by
    rw [Lib.fieldsGoD] at hx
    split at hx
    · split at hx
      · cases hx
      · rw [List.mem_singleton] at hx; subst hx; omega
    · split at hx
      · rw [List.mem_append] at hx
        rcases hx with hx | hx
        · split at hx
          · cases hx
          · rw [List.mem_singleton] at hx; subst hx; omega
        · have := goD_size f [] _ x hx
          rw [List.length_drop] at this
          simp only [List.length_nil] at this
          omega
      · have := goD_size f _ _ x hx
        rw [List.length_append, List.length_take, List.length_drop] at this
        omega
theorem goD_length : ∀ (f : Nat) (cur l : List UInt8), (Lib.fieldsGoD f cur l).length ≤ f + 1
  | 0, cur, l => by
    rw [Lib.fieldsGoD]
    split <;> simp
  | f + 1, cur, l => by
    rw [Lib.fieldsGoD]
    split
    · split <;> simp
    · split
      · have := goD_length f [] (l.drop (Lib.decodeL l).2)
        rw [List.length_append]
        split
        · simp only [List.length_nil]; omega
        · simp only [List.length_singleton]; omega
      · have := goD_length f (cur ++ l.take (Lib.decodeL l).2) (l.drop (Lib.decodeL l).2)
        omega
theorem wordsF_size {s x : ByteArray} (h : x ∈ wordsF s) : x.size ≤ s.size := by
  obtain ⟨l, hl, rfl⟩ := List.mem_map.1 h
  have := goD_size _ [] _ l hl
  show l.length ≤ s.data.toList.length
  simpa using this
theorem wordsF_length (s : ByteArray) : (wordsF s).length ≤ s.size + 2 := by
  rw [wordsF, List.length_map]
  exact goD_length _ _ _
end Go.Proofs.YtmoelgbbgepckaaDoor

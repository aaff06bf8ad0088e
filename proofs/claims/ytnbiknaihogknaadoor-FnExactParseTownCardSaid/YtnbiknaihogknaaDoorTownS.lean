/- slices.Repeat of one number. -/
import Derived.Test.YtnbiknaihogknaaDoorTownR
import Derived.Test.YtnbiknaihogknaaDoorRegionsS
import Derived.Laws.CopyOwn
namespace Go.Proofs.YtnbiknaihogknaaDoor
open Go.RowKit
set_option linter.unusedVariables false

theorem OwnD.block {w : World} {B g nd : Nat} {d : Nat → Int} (h : OwnD w B g nd d) : w.heap[g]? = some (.cells (rowOf nd d).toArray 3 (0, 0)) ∧ B ≤ g := by
  rcases h.2 with ⟨h', _⟩ | ⟨g', cap', cur, h', hb, hg, _, _, hs, ht⟩
  · simp at h'
  · simp only [Value.slice.injEq, Option.some.injEq, Addr.mk.injEq, and_true, true_and] at h'
    obtain ⟨rfl, rfl⟩ := h'
    rw [List.take_of_length_le (by rw [Array.length_toList, hs]; exact Nat.le_refl _)] at ht
    rw [← ht]
    exact ⟨by simpa using hg, hb⟩
theorem OwnD.of_block {w : World} {B g nd : Nat} {d : Nat → Int} {cs : List Value} (hg : w.heap[g]? = some (.cells cs.toArray 3 (0, 0))) (hb : B ≤ g) (hn : nd ≤ maxLen) (hc : cs = rowOf nd d) : OwnD w B g nd d := by
  subst hc
  exact ⟨by rw [rowOf_length, Nat.mul_one], .inr ⟨g, nd, _, rfl, hb, hg, Nat.le_refl _, hn, by simp [rowOf_length], by simp [List.take_of_length_le, rowOf_length]⟩⟩
theorem fill_splice (nd m k : Nat) (h : m + k ≤ nd) : splice (rowOf nd (fillF m)) m (List.replicate k (.int .i64 (-1))) = rowOf nd (fillF (m + k)) := by
  refine List.ext_getElem? fun j => ?_
  by_cases hj : j < nd
  · rw [rowOf_get hj, splice]
    by_cases h1 : j < m
    · rw [List.getElem?_append_left (by rw [List.length_take, rowOf_length]; omega), List.getElem?_take, if_pos h1, rowOf_get hj]
      simp [fillF, h1, show j < m + k by omega]
    · rw [List.getElem?_append_right (by rw [List.length_take, rowOf_length]; omega), List.length_take, rowOf_length, Nat.min_eq_left (by omega)]
      by_cases h2 : j < m + k
      · rw [List.getElem?_append_left (by simp; omega)]
        simp [fillF, h2, show j - m < k by omega]
      · rw [List.getElem?_append_right (by simp; omega), List.getElem?_drop]
        simp only [List.length_replicate]
        rw [show m + k + (j - m - k) = j by omega, rowOf_get hj]
        simp [fillF, h1, h2]
  · rw [List.getElem?_eq_none (l := rowOf _ _) (by rw [rowOf_length]; omega), List.getElem?_eq_none (by rw [length_splice _ _ _ (by rw [rowOf_length]; simpa using h), rowOf_length]; omega)]

end Go.Proofs.YtnbiknaihogknaaDoor

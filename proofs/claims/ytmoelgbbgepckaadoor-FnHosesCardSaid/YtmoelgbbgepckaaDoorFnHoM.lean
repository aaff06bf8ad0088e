/- Hoses: what the drawn law asks, in plain arithmetic. -/
import Derived.Test.YtmoelgbbgepckaaDoorFnBrM
import Derived.Test.YtmoelgbbgepckaaDoorParH
namespace Go.Proofs.YtmoelgbbgepckaaDoor
open Go.RowKit
set_option linter.unusedVariables false

theorem lossOf_flow0 (k l : Int) : lossOf k l 0 = 0 := by simp [lossOf]
theorem lineSum_zero : ∀ hs : List (Int × Int), lineSum hs 0 = 0
  | [] => rfl
  | x :: hs => by rw [lineSum, lossOf_flow0, lineSum_zero hs]; rfl

theorem ho1 {hs : List (Int × Int)} {p : Int} (h : gfOk hs p = true) : (0 ≤ gfR hs p ∧ gfR hs p ≤ 3000) ∧ lineOk hs (gfR hs p) = true ∧ lineR hs (gfR hs p) ≤ p ∧ (gfR hs p < 3000 → lineOk hs (gfR hs p + 1) = true ∧ p < lineR hs (gfR hs p + 1)) := by
  have hv : gfR hs p = gfOf hs p := by rw [gfR, if_pos h]
  rw [hv]
  rw [gfOk, Bool.and_eq_true, inB_iff] at h
  obtain ⟨hl, hp⟩ := h
  have hb := gfOf_bd hs p
  have ok : ∀ f : Int, 0 ≤ f → f ≤ 3000 → lineOk hs f = true := fun f h1 h2 => by rw [lineOk, hl, inB_true h1 h2]; rfl
  obtain ⟨g1, g2⟩ := greatest_spec (gfP hs p) 3000
  have hg : gfOf hs p = (greatest (gfP hs p) 3000 : Nat) := by unfold gfOf; rfl
  have o1 := ok _ hb.1 hb.2
  refine ⟨hb, o1, ?_, fun hlt => ?_⟩
  · rw [lineR, if_pos o1, hg]
    rcases g1 with g1 | g1
    · rw [g1]
      rw [show ((0 : Nat) : Int) = 0 from rfl, lineSum_zero]
      exact hp.1
    · rw [gfP, decide_eq_true_eq] at g1; exact g1
  · have o2 := ok (gfOf hs p + 1) (by omega) (by omega)
    refine ⟨o2, ?_⟩
    rw [lineR, if_pos o2]
    have := g2 (greatest (gfP hs p) 3000 + 1) (by omega) (by omega)
    rw [gfP, decide_eq_false_iff_not, Int.not_le] at this
    rw [hg]
    simpa using this

theorem ho2 {u : List (Int × Int)} {f : Int} (h : lineOk u f = true) : (∀ x ∈ u, lossOk x.1 x.2 f = true) ∧ lineR u f = lineSum u f ∧ lineOk u 0 = true ∧ lineR u 0 = 0 ∧ hosesB u = true ∧ (0 ≤ f ∧ f ≤ 3000) ∧ u.length ≤ 12 := by
  have h' := h
  rw [lineOk, Bool.and_eq_true, inB_iff] at h
  obtain ⟨hl, hf⟩ := h
  obtain ⟨h1, h2, h3⟩ := lineB_iff hl
  have o0 : lineOk u 0 = true := by rw [lineOk, hl]; rfl
  refine ⟨fun x hx => ?_, by rw [lineR, if_pos h'], o0, by rw [lineR, if_pos o0, lineSum_zero], h1, hf, h3⟩
  simp only [hosesB, List.all_eq_true] at h1
  rw [lossOk, h1 x hx, inB_true hf.1 hf.2]
  rfl
theorem loss_hose {k l f : Int} (h : lossOk k l f = true) : hoseB k l = true := by
  rw [lossOk, Bool.and_eq_true] at h
  exact h.1
theorem sum_bd {u : List (Int × Int)} {f : Int} (h : lineOk u f = true) (k : Nat) (hk : k ≤ u.length) : 0 ≤ lineSum (u.take k) f ∧ lineSum (u.take k) f ≤ 30000000 := by
  obtain ⟨-, -, -, -, h1, h2, h3⟩ := ho2 h
  obtain ⟨a, b⟩ := lineSum_bd h2.1 h2.2 (hosesB_take h1 k)
  have : (u.take k).length ≤ 12 := by rw [List.length_take]; omega
  have : (2250001 : Int) * (u.take k).length ≤ 2250001 * 12 := Int.mul_le_mul_of_nonneg_left (by omega) (by omega)
  omega
end Go.Proofs.YtmoelgbbgepckaaDoor

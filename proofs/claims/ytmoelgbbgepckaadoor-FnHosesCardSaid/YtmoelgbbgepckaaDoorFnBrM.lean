/- Branches: what the drawn law asks, in plain arithmetic. -/
import Derived.Test.YtmoelgbbgepckaaDoorHoseQ
namespace Go.Proofs.YtmoelgbbgepckaaDoor
open Go.RowKit
set_option linter.unusedVariables false

theorem least_spec (P : Nat → Bool) : ∀ N, (least P N ≤ N → P (least P N) = true) ∧ ∀ j, j < least P N → P j = false
  | 0 => by
    unfold least
    cases h : P 0 with
    | true => simp [h]
    | false =>
      refine ⟨by simp, fun j hj => ?_⟩
      simp at hj
      subst hj
      exact h
  | N + 1 => by
    obtain ⟨h1, h2⟩ := least_spec P N
    unfold least
    by_cases hl : least P N ≤ N
    · rw [if_pos hl]
      exact ⟨fun _ => h1 hl, h2⟩
    · rw [if_neg hl]
      cases h : P (N + 1) with
      | true =>
        rw [if_pos rfl]
        exact ⟨fun _ => h, fun j hj => h2 j (by omega)⟩
      | false =>
        rw [if_neg (by simp)]
        refine ⟨fun hh => by omega, fun j hj => ?_⟩
        by_cases hj2 : j = N + 1
        · rw [hj2]; exact h
        · exact h2 j (by omega)
theorem greatest_spec (P : Nat → Bool) : ∀ N, (greatest P N = 0 ∨ P (greatest P N) = true) ∧ ∀ j, greatest P N < j → j ≤ N → P j = false
  | 0 => ⟨.inl rfl, fun j h1 h2 => by simp [greatest] at h1; omega⟩
  | N + 1 => by
    obtain ⟨h1, h2⟩ := greatest_spec P N
    unfold greatest
    cases h : P (N + 1) with
    | true =>
      rw [if_pos rfl]
      exact ⟨.inr h, fun j a b => by omega⟩
    | false =>
      rw [if_neg (by simp)]
      refine ⟨h1, fun j a b => ?_⟩
      by_cases hj2 : j = N + 1
      · rw [hj2]; exact h
      · exact h2 j a (by omega)

theorem lp_spec (n f : Int) : (lpOf n f ≤ 2000 → f ≤ bfOf n (lpOf n f)) ∧ (0 < lpOf n f → bfOf n (lpOf n f - 1) < f) := by
  obtain ⟨h1, h2⟩ := least_spec (pressP n f) 2000
  unfold lpOf
  refine ⟨fun h => ?_, fun h => ?_⟩
  · have := h1 (by omega)
    simpa [pressP] using this
  · have h3 := h2 (least (pressP n f) 2000 - 1) (by omega)
    simp only [pressP, decide_eq_false_iff_not, Int.not_le] at h3
    rwa [show (((least (pressP n f) 2000 - 1 : Nat)) : Int) = ((least (pressP n f) 2000 : Nat) : Int) - 1 by omega] at h3

theorem br1 {a f : Int} (h : bpOk a f = true) : (0 ≤ bpR a f ∧ bpR a f ≤ 2000) ∧ bfOk a (bpR a f) = true ∧ f ≤ bfR a (bpR a f) ∧ (0 < bpR a f → bfOk a (bpR a f - 1) = true ∧ bfR a (bpR a f - 1) < f) := by
  have hv : bpR a f = lpOf a f := by rw [bpR, if_pos h]
  rw [hv]
  simp only [bpOk, Bool.and_eq_true, lpOk, decide_eq_true_eq] at h
  obtain ⟨⟨ha, hf⟩, hl⟩ := h
  obtain ⟨s1, s2⟩ := lp_spec a f
  have hb := lpOf_bd a f
  have ok : ∀ p, 0 ≤ p → p ≤ 2000 → bfOk a p = true := fun p h1 h2 => by rw [bfOk, ha, inB_true h1 h2]; rfl
  have o1 := ok (lpOf a f) hb.1 hl
  refine ⟨⟨hb.1, hl⟩, o1, by rw [bfR, if_pos o1]; exact s1 hl, fun h0 => ?_⟩
  have o2 := ok (lpOf a f - 1) (by omega) (by omega)
  exact ⟨o2, by rw [bfR, if_pos o2]; exact s2 h0⟩

theorem lineR_bd (hs : List (Int × Int)) (f : Int) : 0 ≤ lineR hs f ∧ lineR hs f ≤ 27000012 := by
  unfold lineR
  split
  · rename_i h
    rw [lineOk, Bool.and_eq_true] at h
    obtain ⟨h1, h2, h3⟩ := lineB_iff h.1
    rw [inB_iff] at h
    obtain ⟨b1, b2⟩ := lineSum_bd h.2.1 h.2.2 h1
    refine ⟨b1, Int.le_trans b2 ?_⟩
    have : (2250001 : Int) * hs.length ≤ 2250001 * 12 := Int.mul_le_mul_of_nonneg_left (by omega) (by omega)
    omega
  · omega
theorem br2 {hs : List (Int × Int)} {r y f : Int} (h : pumpOk hs r y f = true) : bpOk y f = true ∧ lineOk hs f = true ∧ (-1000 ≤ r ∧ r ≤ 1000) ∧ (0 ≤ bpR y f ∧ bpR y f ≤ 2000) ∧ pumpR hs r y f = max (lineR hs f + r + bpR y f) 0 := by
  have hv : pumpR hs r y f = pumpV hs r y f := by rw [pumpR, if_pos h]
  rw [hv]
  simp only [pumpOk, Bool.and_eq_true] at h
  obtain ⟨⟨⟨⟨⟨h1, h2⟩, h3⟩, h4⟩, h5⟩, h6⟩ := h
  have hb : bpOk y f = true := by rw [bpOk, h3, h4, h5]; rfl
  have hl : lineOk hs f = true := by rw [lineOk, h1, h4]; rfl
  refine ⟨hb, hl, inB_iff.1 h2, (br1 hb).1, ?_⟩
  rw [pumpV, lineR, if_pos hl, bpR, if_pos hb]

theorem br3 {k f p : Int} (h : 0 < longR k f p) : longR k f p ≤ 5000 ∧ lossOk k (longR k f p) f = true ∧ lossV k (longR k f p) f ≤ p ∧ (longR k f p < 5000 → lossOk k (longR k f p + 1) f = true ∧ p < lossV k (longR k f p + 1) f) := by
  unfold longR at *
  by_cases ho : longOk k f p = true
  · rw [if_pos ho] at *
    rw [longOk, Bool.and_eq_true, Bool.and_eq_true] at ho
    obtain ⟨⟨h1, h2⟩, h3⟩ := ho
    have hb := longOf_bd k f p
    have ok : ∀ m, 1 ≤ m → m ≤ 5000 → lossOk k m f = true := fun m a b => by rw [lossOk, hoseB, h1, inB_true a b, h2]; rfl
    obtain ⟨g1, g2⟩ := greatest_spec (longP k f p) 5000
    have hg : longOf k f p = (greatest (longP k f p) 5000 : Nat) := by unfold longOf; rfl
    have o1 := ok _ (show 1 ≤ longOf k f p by omega) hb.2
    refine ⟨hb.2, o1, ?_, fun hlt => ?_⟩
    · rw [lossV, if_pos o1]
      rcases g1 with g1 | g1
      · omega
      · rw [longP, decide_eq_true_eq, ← hg] at g1; exact g1
    · have o2 := ok _ (show 1 ≤ longOf k f p + 1 by omega) (by omega)
      refine ⟨o2, ?_⟩
      rw [lossV, if_pos o2]
      have := g2 (greatest (longP k f p) 5000 + 1) (by omega) (by omega)
      rw [longP, decide_eq_false_iff_not, Int.not_le] at this
      rw [hg]
      simpa using this
  · rw [if_neg ho] at h
    omega

theorem br4 {d l : Int} (h : hosesOk d l = true) : (0 ≤ d ∧ d ≤ 100000) ∧ (1 ≤ l ∧ l ≤ 5000) ∧ (0 ≤ hosesR d l ∧ hosesR d l ≤ 110000) ∧ (0 ≤ 10 * hosesR d l * l ∧ 10 * hosesR d l * l ≤ 5500000000) ∧ 11 * d ≤ 10 * hosesR d l * l ∧ (hosesR d l = 0 ∨ 10 * (hosesR d l - 1) * l < 11 * d + 10) ∧ (-50000 ≤ 10 * (hosesR d l - 1) * l ∧ 10 * (hosesR d l - 1) * l ≤ 5500000000) := by
  have hv : hosesR d l = hosesV d l := by rw [hosesR, if_pos h]
  rw [hosesOk, Bool.and_eq_true, inB_iff, inB_iff] at h
  obtain ⟨⟨d0, d1⟩, l0, l1⟩ := h
  rw [hv]
  unfold hosesV
  generalize hm : (11 * d + 9) / 10 = m
  have m0 : 0 ≤ m := by omega
  have m1 : m ≤ 110000 := by omega
  have hl : 0 < l := by omega
  generalize hc : (m + l - 1) / l = c
  have e1 := Int.emod_add_mul_ediv (m + l - 1) l
  have e2 := Int.emod_nonneg (m + l - 1) (show l ≠ 0 by omega)
  have e3 := Int.emod_lt_of_pos (m + l - 1) hl
  rw [hc] at e1
  have c0 : 0 ≤ c := by rw [← hc]; exact Int.ediv_nonneg (by omega) (by omega)
  have hcl : l * c = c * l := Int.mul_comm _ _
  have k1 : m ≤ c * l := by omega
  have k2 : c * l ≤ m + l - 1 := by omega
  have c1 : c ≤ 110000 := by
    rcases Int.lt_or_le 110000 c with hlt | hle
    · have h1 : 110001 * l ≤ c * l := Int.mul_le_mul_of_nonneg_right (by omega) (by omega)
      have h2 : (110000 : Int) * 1 ≤ 110000 * l := Int.mul_le_mul_of_nonneg_left (by omega) (by omega)
      have h3 : (110001 : Int) * l = 110000 * l + l := by rw [show (110001 : Int) = 110000 + 1 by rfl, Int.add_mul, Int.one_mul]
      omega
    · exact hle
  have p1 : 10 * c * l = 10 * (c * l) := Int.mul_assoc _ _ _
  have p2 : 10 * (c - 1) * l = 10 * (c * l) - 10 * l := by rw [Int.mul_assoc, Int.sub_mul, Int.one_mul, Int.mul_sub]
  rw [p1, p2]
  refine ⟨⟨d0, d1⟩, ⟨l0, l1⟩, ⟨c0, c1⟩, ⟨by omega, by omega⟩, by omega, ?_, ⟨by omega, by omega⟩⟩
  by_cases hz : c = 0
  · exact .inl hz
  · right; omega
end Go.Proofs.YtmoelgbbgepckaaDoor

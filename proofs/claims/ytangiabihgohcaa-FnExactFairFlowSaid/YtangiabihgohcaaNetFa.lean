/- The fair flow: the plain law. -/
import Derived.Test.YtangiabihgohcaaNetX
namespace Go.Proofs.Ytangiabihgohcaa
set_option linter.unusedVariables false
/-- f at the open hydrants, 0 elsewhere. -/
def openD (O : List Int) (f : Int) : Nat → Int := fun i => if (i : Int) ∈ O then f else 0
theorem loadD_lin (M H : List (Int × Int)) (O : List Int) (f : Int) (x : Nat) : ∀ k, loadD M H (openD O f) x k = f * loadD M H (openD O 1) x k
  | 0 => by simp [loadD]
  | k + 1 => by
    rw [loadD, loadD, loadD_lin M H O f x k, Int.mul_add]
    unfold openD
    by_cases h1 : onWay M H k x = true <;> by_cases h2 : (k : Int) ∈ O <;> simp [h1, h2]
def mostO (H : List (Int × Int)) (O : List Int) : Nat → Int
  | 0 => 5000
  | j + 1 => match O[j]? with
    | some i => min (mostO H O j) (most H i.toNat)
    | none => mostO H O j
theorem mostO_succ {H : List (Int × Int)} {O : List Int} {j i : Nat} (h : O[j]? = some (i : Int)) : mostO H O (j + 1) = min (mostO H O j) (most H i) := by
  rw [mostO, h]; rfl
/-- The fair flow of the first k mains' limits, from v on; D the counts. -/
def fairN (M : List (Int × Int)) (D : Nat → Int) (v : Int) : Nat → Int
  | 0 => v
  | k + 1 => if 0 < D k then min (fairN M D v k) (lim M k / D k) else fairN M D v k
theorem fairN_le {M : List (Int × Int)} {D : Nat → Int} {v f : Int} : ∀ k, (f ≤ fairN M D v k ↔ f ≤ v ∧ ∀ x, x < k → 0 < D x → f * D x ≤ lim M x)
  | 0 => by simp [fairN]
  | k + 1 => by
    have ih := fairN_le (M := M) (D := D) (v := v) (f := f) k
    rw [fairN]
    by_cases h : 0 < D k
    · rw [if_pos h]
      have hd : f ≤ lim M k / D k ↔ f * D k ≤ lim M k := Int.le_ediv_iff_mul_le h
      constructor
      · intro hf
        have h1 := ih.1 (by omega)
        refine ⟨h1.1, fun x hx hp => ?_⟩
        by_cases hxk : x = k
        · subst hxk; exact hd.1 (by omega)
        · exact h1.2 x (by omega) hp
      · intro ⟨h1, h2⟩
        have h3 := ih.2 ⟨h1, fun x hx => h2 x (by omega)⟩
        have h4 := hd.2 (h2 k (by omega) h)
        omega
    · rw [if_neg h, ih]
      refine and_congr_right fun _ => ⟨fun h2 x hx hp => ?_, fun h2 x hx => h2 x (by omega)⟩
      by_cases hxk : x = k
      · subst hxk; exact absurd hp h
      · exact h2 x (by omega) hp
theorem mostO_le {H : List (Int × Int)} {O : List Int} {f : Int} (hO : ∀ x ∈ O, 0 ≤ x) : ∀ j, (f ≤ mostO H O j ↔ f ≤ 5000 ∧ ∀ i x, i < j → O[i]? = some x → f ≤ most H x.toNat)
  | 0 => by simp [mostO]
  | j + 1 => by
    have ih := mostO_le (H := H) (f := f) hO j
    rw [mostO]
    cases h : O[j]? with
    | none =>
      dsimp only
      rw [ih]
      refine and_congr_right fun _ => ⟨fun h2 i x hi hx => ?_, fun h2 i x hi => h2 i x (by omega)⟩
      by_cases hij : i = j
      · subst hij; rw [h] at hx; cases hx
      · exact h2 i x (by omega) hx
    | some y =>
      dsimp only
      constructor
      · intro hf
        have h1 := ih.1 (by omega)
        refine ⟨h1.1, fun i x hi hx => ?_⟩
        by_cases hij : i = j
        · subst hij; rw [h] at hx; injection hx with hx; subst hx; omega
        · exact h1.2 i x (by omega) hx
      · intro ⟨h1, h2⟩
        have h3 := ih.2 ⟨h1, fun i x hi => h2 i x (by omega)⟩
        have h4 := h2 j y (by omega) h
        omega
def fairV (M H : List (Int × Int)) (O : List Int) : Int := fairN M (loadsF M H (listD H.length (openD O 1))) (mostO H O O.length) M.length
/-- Whether all open hydrants can have f. -/
def fairB (M H : List (Int × Int)) (O : List Int) (f : Int) : Bool := flowsB H (listD H.length (openD O f)) && decide (withN (fun a b => decide (b < a)) M (loadsF M H (listD H.length (openD O f))) M.length = [])
theorem withN_nil {p : Int → Int → Bool} {M : List (Int × Int)} {D : Nat → Int} : ∀ k, k ≤ M.length → (withN p M D k = [] ↔ ∀ x, x < k → p (D x) (lim M x) = false)
  | 0, _ => by simp [withN]
  | k + 1, h => by
    have ih := withN_nil (p := p) (M := M) (D := D) k (by omega)
    have hm : M[k]? = some M[k] := List.getElem?_eq_getElem (by omega)
    rw [withN_succ hm, ← lim_some hm]
    cases hp : p (D k) (lim M k) with
    | true =>
      rw [if_pos rfl]
      constructor
      · intro h2; simp at h2
      · intro h2; have := h2 k (by omega); rw [hp] at this; cases this
    | false =>
      rw [if_neg (by simp), ih]
      refine ⟨fun h2 x hx => ?_, fun h2 x hx => h2 x (by omega)⟩
      by_cases hxk : x = k
      · subst hxk; exact hp
      · exact h2 x (by omega)
theorem flowsB_iff {H : List (Int × Int)} {d : Nat → Int} : flowsB H (listD H.length d) = true ↔ ∀ i, i < H.length → 0 ≤ d i ∧ d i ≤ most H i := by
  constructor
  · intro h i hi
    have := (flowsB_get h).2 i _ _ (List.getElem?_eq_getElem hi) (listD_get hi)
    rw [most_some (List.getElem?_eq_getElem hi)]
    exact this
  · intro h
    refine flowsB_of listD_length (fun i hi => ?_)
    rw [listD_length] at hi
    rw [flowStep_some (List.getElem?_eq_getElem hi) (listD_get hi), inB_iff, ← most_some (List.getElem?_eq_getElem hi)]
    exact h i hi
theorem fair_iff {M H : List (Int × Int)} (hk : NetOk M H) {O : List Int} (hO : ∀ x ∈ O, 0 ≤ x ∧ x < (H.length : Int)) {f : Int} (h1 : 1 ≤ f) (h2 : f ≤ 5000) : fairB M H O f = true ↔ f ≤ fairV M H O := by
  have hd0 : ∀ x k, 0 ≤ loadD M H (openD O 1) x k := fun x k => by
    induction k with
    | zero => simp [loadD]
    | succ k ih => rw [loadD]; have : 0 ≤ openD O 1 k := by unfold openD; split <;> omega
                   split <;> omega
  rw [fairV, fairN_le, mostO_le (fun x hx => (hO x hx).1), fairB, Bool.and_eq_true, decide_eq_true_eq, flowsB_iff, withN_nil _ (Nat.le_refl _)]
  constructor
  · intro ⟨ha, hb⟩
    refine ⟨⟨h2, fun i x hi hx => ?_⟩, fun x hx hp => ?_⟩
    · obtain ⟨g0, g1⟩ := hO x (List.mem_of_getElem? hx)
      have := (ha x.toNat (by omega)).2
      unfold openD at this
      rw [if_pos (by rw [Int.toNat_of_nonneg g0]; exact List.mem_of_getElem? hx)] at this
      exact this
    · have := hb x hx
      rw [loadsF_at hk] at this ⊢
      rw [loadD_lin] at this
      simpa using this
  · intro ⟨⟨_, ha⟩, hb⟩
    refine ⟨fun i hi => ?_, fun x hx => ?_⟩
    · unfold openD
      have := hk.hyd i _ (List.getElem?_eq_getElem hi)
      have hm := most_some (List.getElem?_eq_getElem hi)
      split
      · rename_i hm2
        obtain ⟨j, hj⟩ := List.mem_iff_getElem?.1 hm2
        have := ha j _ (List.getElem?_eq_some_iff.1 hj).1 hj
        simp at this
        omega
      · omega
    · rw [loadsF_at hk, loadD_lin]
      have h3 := hb x hx
      rw [loadsF_at hk] at h3
      have h4 := hd0 x H.length
      have h5 := hk.main x _ (List.getElem?_eq_getElem hx)
      have h6 := lim_some (List.getElem?_eq_getElem hx)
      simp only [decide_eq_false_iff_not, Int.not_lt]
      by_cases hp : 0 < loadD M H (openD O 1) x H.length
      · exact h3 hp
      · rw [show loadD M H (openD O 1) x H.length = 0 by omega]; omega
end Go.Proofs.Ytangiabihgohcaa

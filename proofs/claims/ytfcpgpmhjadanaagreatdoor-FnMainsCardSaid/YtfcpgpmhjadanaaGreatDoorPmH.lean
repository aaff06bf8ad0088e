/- Several texts in one. Filled flows: the plain law. The fair flow: the plain law. Sums, greatest values and first places along a list. Whether a number is in a list. Loads: what is drawn at a main and below it; sums. FnMains: what the drawn law asks, in plain words. The laws' own functions on lists of integers and on nets. The laws' own search in a list of integers. The laws' own comparison of lists of integers, and their guard on sizes. Filled flows: what the program's and the reference's return. Filled flows: the reference's way. -/
import Derived.Test.YtfcpgpmhjadanaaGreatDoorNetS
import Derived.Test.YtfcpgpmhjadanaaGreatDoorMem
import Derived.Test.YtfcpgpmhjadanaaGreatDoorSmall
import Derived.Test.YtfcpgpmhjadanaaGreatDoorNetI
import Derived.Test.YtfcpgpmhjadanaaGreatDoorNetW
import Derived.Test.YtfcpgpmhjadanaaGreatDoorRegions
import Derived.Test.YtfcpgpmhjadanaaGreatDoorNetM
import Derived.Test.YtfcpgpmhjadanaaGreatDoorNetGs
import Derived.Test.YtfcpgpmhjadanaaGreatDoorRegionsS
import Derived.Deep.DeepCutAuto
import Derived.Deep.CutBlock
namespace Go.Proofs.YtfcpgpmhjadanaaGreatDoor
set_option linter.unusedVariables false
def listD (m : Nat) (d : Nat → Int) : List Int := (List.range m).map d
theorem listD_length {m : Nat} {d : Nat → Int} : (listD m d).length = m := by simp [listD]
theorem listD_get {m : Nat} {d : Nat → Int} {i : Nat} (h : i < m) : (listD m d)[i]? = some (d i) := by simp [listD, h]
theorem listD_congr {m : Nat} {d d' : Nat → Int} (h : ∀ i, i < m → d i = d' i) : listD m d = listD m d' := by
  unfold listD
  exact List.map_congr_left fun i hi => h i (by simpa using hi)

theorem wayF_le {M H : List (Int × Int)} (hk : NetOk M H) : ∀ (f : Nat) (m : Int), m < M.length → ∀ x ∈ wayF M f m, (x : Int) ≤ m
  | 0, _, _, x, hx => by simp [wayF] at hx
  | f + 1, m, h, x, hx => by
    rw [wayF] at hx
    split at hx
    · simp at hx
    · rcases List.mem_cons.1 hx with rfl | hx
      · omega
      · have hp := hk.par_lt (k := m.toNat) (by omega)
        have := wayF_le hk f _ (by omega) x hx
        omega
theorem wayF_nodup {M H : List (Int × Int)} (hk : NetOk M H) : ∀ (f : Nat) (m : Int), m < M.length → (wayF M f m).Nodup
  | 0, _, _ => by simp [wayF]
  | f + 1, m, h => by
    rw [wayF]
    split
    · simp
    · have hp := hk.par_lt (k := m.toNat) (by omega)
      refine List.nodup_cons.2 ⟨fun hx => ?_, wayF_nodup hk f _ (by omega)⟩
      have := wayF_le hk f _ (by omega) _ hx
      omega
theorem addAll_at (f : Int) (x : Nat) : ∀ (ms : List Nat) (o : Nat → Int), ms.Nodup → addAll o f ms x = o x + if x ∈ ms then f else 0
  | [], o, _ => by simp [addAll]
  | m :: ms, o, h => by
    obtain ⟨h1, h2⟩ := List.nodup_cons.1 h
    rw [addAll_cons, addAll_at f x ms _ h2]
    unfold upd
    by_cases hx : x = m
    · subst hx; simp [h1]
    · simp [hx]
def onWay (M H : List (Int × Int)) (i x : Nat) : Bool := match H[i]? with
  | some h => decide (x ∈ wayL M h.1)
  | none => false
/-- The load of main x by the first k flows. -/
def loadD (M H : List (Int × Int)) (d : Nat → Int) (x : Nat) : Nat → Int
  | 0 => 0
  | k + 1 => loadD M H d x k + if onWay M H k x then d k else 0
theorem loadsN_at {M H : List (Int × Int)} (hk : NetOk M H) {F : List Int} {d : Nat → Int} (x : Nat) : ∀ k, k ≤ H.length → (∀ i, i < k → F[i]? = some (d i)) → loadsN M H F k x = loadD M H d x k
  | 0, _, _ => rfl
  | k + 1, h, hF => by
    have hh : H[k]? = some H[k] := List.getElem?_eq_getElem (by omega)
    obtain ⟨h1, h2, -⟩ := hk.hyd k _ hh
    rw [loadsN_succ hh (hF k (by omega)), addAll_at _ _ (wayL M (H[k]).1) _ (wayF_nodup hk _ _ (by omega)), loadsN_at hk x k (by omega) (fun i hi => hF i (by omega)), loadD, onWay, hh]
    simp only [decide_eq_true_eq]
theorem loadsF_at {M H : List (Int × Int)} (hk : NetOk M H) (d : Nat → Int) (x : Nat) : loadsF M H (listD H.length d) x = loadD M H d x H.length := by
  rw [loadsF, listD_length]
  exact loadsN_at hk x _ (Nat.le_refl _) (fun i hi => listD_get hi)
theorem loadD_upd {M H : List (Int × Int)} (d : Nat → Int) (i : Nat) (v : Int) (x : Nat) : ∀ k, loadD M H (upd d i v) x k = loadD M H d x k + if i < k ∧ onWay M H i x = true then v - d i else 0
  | 0 => by simp [loadD]
  | k + 1 => by
    rw [loadD, loadD, loadD_upd d i v x k]
    unfold upd
    by_cases hik : k = i
    · subst hik
      by_cases ho : onWay M H k x = true
      · simp [ho]; omega
      · simp [ho]
    · by_cases ho : onWay M H i x = true
      · by_cases h1 : i < k
        · simp [ho, h1, hik, show i < k + 1 by omega]; omega
        · simp [ho, h1, hik, show ¬ i < k + 1 by omega]
      · simp [ho, hik]
def most (H : List (Int × Int)) (i : Nat) : Int := match H[i]? with
  | some h => h.2
  | none => 0
theorem most_some {H : List (Int × Int)} {i : Nat} {h : Int × Int} (e : H[i]? = some h) : most H i = h.2 := by simp [most, e]
structure Feas (M H : List (Int × Int)) (d : Nat → Int) : Prop where
  each : ∀ i, i < H.length → 0 ≤ d i ∧ d i ≤ most H i
  all : ∀ x, x < M.length → loadD M H d x H.length ≤ lim M x
def capL (M : List (Int × Int)) (D : Nat → Int) (ms : List Nat) (x : Int) : Int := ms.foldl (fun x m => min x (lim M m - D m)) x
theorem capL_snoc (M : List (Int × Int)) (D : Nat → Int) (ms : List Nat) (m : Nat) (x : Int) : capL M D (ms ++ [m]) x = min (capL M D ms x) (lim M m - D m) := by simp [capL]
theorem capL_cons (M : List (Int × Int)) (D : Nat → Int) (ms : List Nat) (m : Nat) (x : Int) : capL M D (m :: ms) x = capL M D ms (min x (lim M m - D m)) := rfl
theorem capL_le (M : List (Int × Int)) (D : Nat → Int) : ∀ (ms : List Nat) (x : Int), capL M D ms x ≤ x
  | [], x => Int.le_refl _
  | m :: ms, x => by rw [capL_cons]; have := capL_le M D ms (min x (lim M m - D m)); omega
theorem capL_mem (M : List (Int × Int)) (D : Nat → Int) : ∀ (ms : List Nat) (x : Int) (m : Nat), m ∈ ms → capL M D ms x ≤ lim M m - D m
  | q :: ms, x, m, h => by
    rw [capL_cons]
    rcases List.mem_cons.1 h with rfl | h
    · have := capL_le M D ms (min x (lim M m - D m)); omega
    · exact capL_mem M D ms _ m h
theorem capL_eq (M : List (Int × Int)) (D : Nat → Int) : ∀ (ms : List Nat) (x : Int), capL M D ms x = x ∨ ∃ m ∈ ms, capL M D ms x = lim M m - D m
  | [], x => .inl rfl
  | q :: ms, x => by
    rw [capL_cons]
    rcases capL_eq M D ms (min x (lim M q - D q)) with h | ⟨m, hm, h⟩
    · rcases Int.le_total x (lim M q - D q) with h1 | h1
      · exact .inl (by omega)
      · exact .inr ⟨q, List.mem_cons_self .., by omega⟩
    · exact .inr ⟨m, List.mem_cons_of_mem _ hm, h⟩
theorem capL_pos {M : List (Int × Int)} {D : Nat → Int} {ms : List Nat} {x : Int} (hx : 0 ≤ x) (h : ∀ m ∈ ms, D m ≤ lim M m) : 0 ≤ capL M D ms x := by
  rcases capL_eq M D ms x with e | ⟨m, hm, e⟩
  · omega
  · have := h m hm; omega
theorem capL_congr {M : List (Int × Int)} {D D' : Nat → Int} : ∀ (ms : List Nat) (x : Int), (∀ m ∈ ms, D m = D' m) → capL M D ms x = capL M D' ms x
  | [], _, _ => rfl
  | m :: ms, x, h => by rw [capL_cons, capL_cons, h m (List.mem_cons_self ..)]; exact capL_congr ms _ (fun q hq => h q (List.mem_cons_of_mem _ hq))
/-- The flows when the first j open hydrants have theirs. -/
def fillD (M H : List (Int × Int)) (O : List Int) : Nat → Nat → Int
  | 0 => fun _ => 0
  | j + 1 => match O[j]? with
    | some i => match H[i.toNat]? with
      | some h => upd (fillD M H O j) i.toNat (capL M (loadsF M H (listD H.length (fillD M H O j))) (wayL M h.1) h.2)
      | none => fillD M H O j
    | none => fillD M H O j
theorem fillD_succ {M H : List (Int × Int)} {O : List Int} {j i : Nat} {h : Int × Int} (hi : O[j]? = some (i : Int)) (hh : H[i]? = some h) : fillD M H O (j + 1) = upd (fillD M H O j) i (capL M (loadsF M H (listD H.length (fillD M H O j))) (wayL M h.1) h.2) := by
  rw [fillD, hi]
  simp [hh]
theorem loadD_zero (M H : List (Int × Int)) (x : Nat) : ∀ k, loadD M H (fun _ => 0) x k = 0
  | 0 => rfl
  | k + 1 => by rw [loadD, loadD_zero M H x k]; simp
theorem feas_zero {M H : List (Int × Int)} (hk : NetOk M H) : Feas M H (fun _ => 0) := by
  refine ⟨fun i hi => ?_, fun x hx => ?_⟩
  · have := hk.hyd i _ (List.getElem?_eq_getElem hi)
    rw [most_some (List.getElem?_eq_getElem hi)]
    omega
  · have := hk.main x _ (List.getElem?_eq_getElem hx)
    rw [loadD_zero, lim_some (List.getElem?_eq_getElem hx)]
    omega
theorem feas_step {M H : List (Int × Int)} (hk : NetOk M H) {d : Nat → Int} (hf : Feas M H d) {i : Nat} {h : Int × Int} (hh : H[i]? = some h) (h0 : d i = 0) : Feas M H (upd d i (capL M (loadsF M H (listD H.length d)) (wayL M h.1) h.2)) := by
  have hil : i < H.length := (List.getElem?_eq_some_iff.1 hh).1
  obtain ⟨y0, y1, y2, y3⟩ := hk.hyd i _ hh
  have hmem : ∀ m ∈ wayL M h.1, m < M.length := fun m hm => wayL_mem hk (by omega) hm
  have hpos := capL_pos (M := M) (D := loadsF M H (listD H.length d)) (ms := wayL M h.1) (x := h.2) (by omega) (fun m hm => by rw [loadsF_at hk]; exact hf.all m (hmem m hm))
  have hle := capL_le M (loadsF M H (listD H.length d)) (wayL M h.1) h.2
  have hcm := capL_mem M (loadsF M H (listD H.length d)) (wayL M h.1) h.2
  generalize capL M (loadsF M H (listD H.length d)) (wayL M h.1) h.2 = v at *
  refine ⟨fun j hj => ?_, fun x hx => ?_⟩
  · unfold upd
    by_cases hji : j = i
    · subst hji; rw [if_pos rfl, most_some hh]; exact ⟨hpos, hle⟩
    · rw [if_neg hji]; exact hf.each j hj
  · rw [loadD_upd]
    have h1 := hf.all x hx
    by_cases ho : onWay M H i x = true
    · rw [if_pos ⟨hil, ho⟩, h0]
      have h2 := hcm x (by simpa [onWay, hh] using ho)
      rw [loadsF_at hk] at h2
      omega
    · rw [if_neg (fun h => ho h.2)]
      omega
theorem fillD_out {M H : List (Int × Int)} {O : List Int} {i : Nat} : ∀ j, (∀ q, q < j → O[q]? ≠ some (i : Int)) → (∀ x ∈ O, 0 ≤ x) → fillD M H O j i = 0
  | 0, _, _ => rfl
  | j + 1, h, h0 => by
    have ih := fillD_out (M := M) (H := H) j (fun q hq => h q (by omega)) h0
    rw [fillD]
    cases hO : O[j]? with
    | none => exact ih
    | some x =>
      have hx := h0 x (List.mem_of_getElem? hO)
      have hne := h j (by omega)
      rw [hO] at hne
      dsimp only
      cases hh : H[x.toNat]? with
      | none => exact ih
      | some y =>
        dsimp only
        unfold upd
        rw [if_neg (fun e => hne (by rw [e]; simp; omega))]
        exact ih
end Go.Proofs.YtfcpgpmhjadanaaGreatDoor
namespace Go.Proofs.YtfcpgpmhjadanaaGreatDoor
set_option linter.unusedVariables false
/-- f at the open hydrants, 0 elsewhere. -/
def openD (O : List Int) (f : Int) : Nat → Int := fun i => if (i : Int) ∈ O then f else 0
theorem loadD_lin (M H : List (Int × Int)) (O : List Int) (f : Int) (x : Nat) : ∀ k, loadD M H (openD O f) x k = f * loadD M H (openD O 1) x k
  | 0 => by simp [loadD]
  | k + 1 => by
    rw [loadD, loadD, loadD_lin M H O f x k, Int.mul_add]
    unfold openD
    by_cases h1 : onWay M H k x = true <;> by_cases h2 : (k : Int) ∈ O <;> simp [h1, h2]
def mostO (H : List (Int × Int)) (O : List Int) : Nat → Int
  | 0 => 5000
  | j + 1 => match O[j]? with
    | some i => min (mostO H O j) (most H i.toNat)
    | none => mostO H O j
theorem mostO_succ {H : List (Int × Int)} {O : List Int} {j i : Nat} (h : O[j]? = some (i : Int)) : mostO H O (j + 1) = min (mostO H O j) (most H i) := by
  rw [mostO, h]; rfl
/-- The fair flow of the first k mains' limits, from v on; D the counts. -/
def fairN (M : List (Int × Int)) (D : Nat → Int) (v : Int) : Nat → Int
  | 0 => v
  | k + 1 => if 0 < D k then min (fairN M D v k) (lim M k / D k) else fairN M D v k
theorem fairN_le {M : List (Int × Int)} {D : Nat → Int} {v f : Int} : ∀ k, (f ≤ fairN M D v k ↔ f ≤ v ∧ ∀ x, x < k → 0 < D x → f * D x ≤ lim M x)
  | 0 => by simp [fairN]
  | k + 1 => by
    have ih := fairN_le (M := M) (D := D) (v := v) (f := f) k
    rw [fairN]
    by_cases h : 0 < D k
    · rw [if_pos h]
      have hd : f ≤ lim M k / D k ↔ f * D k ≤ lim M k := Int.le_ediv_iff_mul_le h
      constructor
      · intro hf
        have h1 := ih.1 (by omega)
        refine ⟨h1.1, fun x hx hp => ?_⟩
        by_cases hxk : x = k
        · subst hxk; exact hd.1 (by omega)
        · exact h1.2 x (by omega) hp
      · intro ⟨h1, h2⟩
        have h3 := ih.2 ⟨h1, fun x hx => h2 x (by omega)⟩
        have h4 := hd.2 (h2 k (by omega) h)
        omega
    · rw [if_neg h, ih]
      refine and_congr_right fun _ => ⟨fun h2 x hx hp => ?_, fun h2 x hx => h2 x (by omega)⟩
      by_cases hxk : x = k
      · subst hxk; exact absurd hp h
      · exact h2 x (by omega) hp
theorem mostO_le {H : List (Int × Int)} {O : List Int} {f : Int} (hO : ∀ x ∈ O, 0 ≤ x) : ∀ j, (f ≤ mostO H O j ↔ f ≤ 5000 ∧ ∀ i x, i < j → O[i]? = some x → f ≤ most H x.toNat)
  | 0 => by simp [mostO]
  | j + 1 => by
    have ih := mostO_le (H := H) (f := f) hO j
    rw [mostO]
    cases h : O[j]? with
    | none =>
      dsimp only
      rw [ih]
      refine and_congr_right fun _ => ⟨fun h2 i x hi hx => ?_, fun h2 i x hi => h2 i x (by omega)⟩
      by_cases hij : i = j
      · subst hij; rw [h] at hx; cases hx
      · exact h2 i x (by omega) hx
    | some y =>
      dsimp only
      constructor
      · intro hf
        have h1 := ih.1 (by omega)
        refine ⟨h1.1, fun i x hi hx => ?_⟩
        by_cases hij : i = j
        · subst hij; rw [h] at hx; injection hx with hx; subst hx; omega
        · exact h1.2 i x (by omega) hx
      · intro ⟨h1, h2⟩
        have h3 := ih.2 ⟨h1, fun i x hi => h2 i x (by omega)⟩
        have h4 := h2 j y (by omega) h
        omega
def fairV (M H : List (Int × Int)) (O : List Int) : Int := fairN M (loadsF M H (listD H.length (openD O 1))) (mostO H O O.length) M.length
/-- Whether all open hydrants can have f. -/
def fairB (M H : List (Int × Int)) (O : List Int) (f : Int) : Bool := flowsB H (listD H.length (openD O f)) && decide (withN (fun a b => decide (b < a)) M (loadsF M H (listD H.length (openD O f))) M.length = [])
theorem withN_nil {p : Int → Int → Bool} {M : List (Int × Int)} {D : Nat → Int} : ∀ k, k ≤ M.length → (withN p M D k = [] ↔ ∀ x, x < k → p (D x) (lim M x) = false)
  | 0, _ => by simp [withN]
  | k + 1, h => by
    have ih := withN_nil (p := p) (M := M) (D := D) k (by omega)
    have hm : M[k]? = some M[k] := List.getElem?_eq_getElem (by omega)
    rw [withN_succ hm, ← lim_some hm]
    cases hp : p (D k) (lim M k) with
    | true =>
      rw [if_pos rfl]
      constructor
      · intro h2; simp at h2
      · intro h2; have := h2 k (by omega); rw [hp] at this; cases this
    | false =>
      rw [if_neg (by simp), ih]
      refine ⟨fun h2 x hx => ?_, fun h2 x hx => h2 x (by omega)⟩
      by_cases hxk : x = k
      · subst hxk; exact hp
      · exact h2 x (by omega)
theorem flowsB_iff {H : List (Int × Int)} {d : Nat → Int} : flowsB H (listD H.length d) = true ↔ ∀ i, i < H.length → 0 ≤ d i ∧ d i ≤ most H i := by
  constructor
  · intro h i hi
    have := (flowsB_get h).2 i _ _ (List.getElem?_eq_getElem hi) (listD_get hi)
    rw [most_some (List.getElem?_eq_getElem hi)]
    exact this
  · intro h
    refine flowsB_of listD_length (fun i hi => ?_)
    rw [listD_length] at hi
    rw [flowStep_some (List.getElem?_eq_getElem hi) (listD_get hi), inB_iff, ← most_some (List.getElem?_eq_getElem hi)]
    exact h i hi
theorem fair_iff {M H : List (Int × Int)} (hk : NetOk M H) {O : List Int} (hO : ∀ x ∈ O, 0 ≤ x ∧ x < (H.length : Int)) {f : Int} (h1 : 1 ≤ f) (h2 : f ≤ 5000) : fairB M H O f = true ↔ f ≤ fairV M H O := by
  have hd0 : ∀ x k, 0 ≤ loadD M H (openD O 1) x k := fun x k => by
    induction k with
    | zero => simp [loadD]
    | succ k ih => rw [loadD]; have : 0 ≤ openD O 1 k := by unfold openD; split <;> omega
                   split <;> omega
  rw [fairV, fairN_le, mostO_le (fun x hx => (hO x hx).1), fairB, Bool.and_eq_true, decide_eq_true_eq, flowsB_iff, withN_nil _ (Nat.le_refl _)]
  constructor
  · intro ⟨ha, hb⟩
    refine ⟨⟨h2, fun i x hi hx => ?_⟩, fun x hx hp => ?_⟩
    · obtain ⟨g0, g1⟩ := hO x (List.mem_of_getElem? hx)
      have := (ha x.toNat (by omega)).2
      unfold openD at this
      rw [if_pos (by rw [Int.toNat_of_nonneg g0]; exact List.mem_of_getElem? hx)] at this
      exact this
    · have := hb x hx
      rw [loadsF_at hk] at this ⊢
      rw [loadD_lin] at this
      simpa using this
  · intro ⟨⟨_, ha⟩, hb⟩
    refine ⟨fun i hi => ?_, fun x hx => ?_⟩
    · unfold openD
      have := hk.hyd i _ (List.getElem?_eq_getElem hi)
      have hm := most_some (List.getElem?_eq_getElem hi)
      split
      · rename_i hm2
        obtain ⟨j, hj⟩ := List.mem_iff_getElem?.1 hm2
        have := ha j _ (List.getElem?_eq_some_iff.1 hj).1 hj
        simp at this
        omega
      · omega
    · rw [loadsF_at hk, loadD_lin]
      have h3 := hb x hx
      rw [loadsF_at hk] at h3
      have h4 := hd0 x H.length
      have h5 := hk.main x _ (List.getElem?_eq_getElem hx)
      have h6 := lim_some (List.getElem?_eq_getElem hx)
      simp only [decide_eq_false_iff_not, Int.not_lt]
      by_cases hp : 0 < loadD M H (openD O 1) x H.length
      · exact h3 hp
      · rw [show loadD M H (openD O 1) x H.length = 0 by omega]; omega
end Go.Proofs.YtfcpgpmhjadanaaGreatDoor
namespace Go.Proofs.YtfcpgpmhjadanaaGreatDoor
set_option linter.unusedVariables false

section
variable {α : Type}
def sumK (f : α → Int) (l : List α) (k : Nat) : Int := ((l.take k).map f).foldl (· + ·) 0
theorem sumK_zero (f : α → Int) (l : List α) : sumK f l 0 = 0 := by simp [sumK]
theorem sumK_succ {f : α → Int} {l : List α} {k : Nat} {a : α} (h : l[k]? = some a) : sumK f l (k + 1) = sumK f l k + f a := by
  simp [sumK, List.take_add_one, h]
theorem sumK_all {f : α → Int} {l : List α} {k : Nat} (h : l.length ≤ k) : sumK f l k = sumK f l l.length := by
  simp [sumK, List.take_of_length_le h]
theorem sumK_bd {f : α → Int} {l : List α} (B : Nat) (h : ∀ x ∈ l, 0 ≤ f x ∧ f x ≤ B) : ∀ k : Nat, 0 ≤ sumK f l k ∧ sumK f l k ≤ k * B
  | 0 => by simp [sumK]
  | k + 1 => by
    have ih := sumK_bd B h k
    cases hk : l[k]? with
    | none =>
      have : sumK f l (k + 1) = sumK f l k := by simp [sumK, List.take_add_one, hk]
      rw [this]
      have : ((k + 1 : Nat) : Int) * B = k * B + B := by rw [show ((k + 1 : Nat) : Int) = (k : Int) + 1 by omega, Int.add_mul, Int.one_mul]
      omega
    | some a =>
      rw [sumK_succ hk]
      have h1 := h a (List.mem_of_getElem? hk)
      have : ((k + 1 : Nat) : Int) * B = k * B + B := by rw [show ((k + 1 : Nat) : Int) = (k : Int) + 1 by omega, Int.add_mul, Int.one_mul]
      omega
def maxK (f : α → Int) (l : List α) (k : Nat) : Int := ((l.take k).map f).foldl max 0
theorem maxK_zero (f : α → Int) (l : List α) : maxK f l 0 = 0 := by simp [maxK]
theorem maxK_succ {f : α → Int} {l : List α} {k : Nat} {a : α} (h : l[k]? = some a) : maxK f l (k + 1) = max (maxK f l k) (f a) := by
  simp [maxK, List.take_add_one, h]
theorem maxK_all {f : α → Int} {l : List α} {k : Nat} (h : l.length ≤ k) : maxK f l k = maxK f l l.length := by
  simp [maxK, List.take_of_length_le h]
theorem maxK_nonneg (f : α → Int) (l : List α) : ∀ k : Nat, 0 ≤ maxK f l k
  | 0 => by simp [maxK]
  | k + 1 => by
    have ih := maxK_nonneg f l k
    cases hk : l[k]? with
    | none =>
      have : maxK f l (k + 1) = maxK f l k := by simp [maxK, List.take_add_one, hk]
      rw [this]
      exact ih
    | some a =>
      rw [maxK_succ hk]
      omega

/-- The place of the first element of which p holds; -1 where there is none. -/
def findI (p : α → Bool) (l : List α) : Int := match l.findIdx? p with | some i => (i : Int) | none => -1
theorem findI_none {p : α → Bool} {l : List α} (h : ∀ (i : Nat) (a : α), l[i]? = some a → p a = false) : findI p l = -1 := by
  have : l.findIdx? p = none := by
    rw [List.findIdx?_eq_none_iff]
    intro x hx
    obtain ⟨i, hi⟩ := List.mem_iff_getElem?.1 hx
    exact h i x hi
  rw [findI, this]
theorem findI_at {p : α → Bool} {l : List α} {k : Nat} {a : α} (ha : l[k]? = some a) (hp : p a = true) (h : ∀ (i : Nat) (b : α), i < k → l[i]? = some b → p b = false) : findI p l = k := by
  have : l.findIdx? p = some k := by
    rw [List.findIdx?_eq_some_iff_getElem]
    obtain ⟨hk, rfl⟩ := List.getElem?_eq_some_iff.1 ha
    refine ⟨hk, hp, fun j hj => ?_⟩
    simp [h j _ hj (List.getElem?_eq_getElem (by omega))]
  rw [findI, this]
theorem findI_cases (p : α → Bool) (l : List α) : findI p l = -1 ∨ ∃ k a, findI p l = (k : Nat) ∧ l[k]? = some a ∧ p a = true := by
  unfold findI
  cases h : l.findIdx? p with
  | none => exact .inl rfl
  | some k =>
    rw [List.findIdx?_eq_some_iff_getElem] at h
    obtain ⟨hk, hp, _⟩ := h
    exact .inr ⟨k, l[k], rfl, List.getElem?_eq_getElem hk, hp⟩
end
end Go.Proofs.YtfcpgpmhjadanaaGreatDoor
namespace Go.Proofs.YtfcpgpmhjadanaaGreatDoor
open Go.RowKit
set_option linter.unusedVariables false

def hasB (L : List Int) (x : Int) : Bool := L.any fun y => decide (y = x)
theorem hasB_find {L : List Int} {x : Int} : decide (0 ≤ findI (fun y => decide (y = x)) L) = hasB L x := by
  rcases findI_cases (fun y => decide (y = x)) L with h | ⟨k, a, h, hk, hp⟩
  · rw [h]
    unfold findI at h
    cases hf : L.findIdx? (fun y => decide (y = x)) with
    | some q => rw [hf] at h; simp at h
    | none =>
      rw [List.findIdx?_eq_none_iff] at hf
      have : hasB L x = false := by
        rw [hasB, List.any_eq_false]
        intro y hy
        simpa using hf y hy
      rw [this]; rfl
  · rw [h]
    have : hasB L x = true := by rw [hasB, List.any_eq_true]; exact ⟨a, List.mem_of_getElem? hk, hp⟩
    rw [this]; simp
theorem hasB_at {L : List Int} {x : Int} {k : Nat} {y : Int} (h : L[k]? = some y) (e : y = x) : hasB L x = true := by
  rw [hasB, List.any_eq_true]
  exact ⟨y, List.mem_of_getElem? h, by simpa using e⟩
theorem hasB_none {L : List Int} {x : Int} (h : ∀ (i : Nat) (y : Int), L[i]? = some y → ¬ y = x) : hasB L x = false := by
  rw [hasB, List.any_eq_false]
  intro y hy
  obtain ⟨i, hi⟩ := List.mem_iff_getElem?.1 hy
  simpa using h i y hi

end Go.Proofs.YtfcpgpmhjadanaaGreatDoor
namespace Go.Proofs.YtfcpgpmhjadanaaGreatDoor
open Go.RowKit
set_option linter.unusedVariables false

/-! ### Sums -/
def sumG (g : Nat → Int) : Nat → Int
  | 0 => 0
  | k + 1 => sumG g k + g k
theorem sumG_congr {g h : Nat → Int} : ∀ k, (∀ i, i < k → g i = h i) → sumG g k = sumG h k
  | 0, _ => rfl
  | k + 1, e => by rw [sumG, sumG, sumG_congr k (fun i hi => e i (by omega)), e k (by omega)]
theorem sumG_le {g h : Nat → Int} : ∀ k, (∀ i, i < k → g i ≤ h i) → sumG g k ≤ sumG h k
  | 0, _ => Int.le_refl _
  | k + 1, e => by
    have h1 := sumG_le k (fun i hi => e i (by omega))
    have h2 := e k (by omega)
    rw [sumG, sumG]
    omega
theorem sumG_zero : ∀ k, sumG (fun _ => 0) k = 0
  | 0 => rfl
  | k + 1 => by rw [sumG, sumG_zero k]; rfl
theorem sumG_upd {g h : Nat → Int} {i : Nat} (e : ∀ j, j ≠ i → g j = h j) : ∀ k, sumG g k = sumG h k + if i < k then g i - h i else 0
  | 0 => by simp [sumG]
  | k + 1 => by
    rw [sumG, sumG, sumG_upd e k]
    by_cases h1 : i < k
    · rw [if_pos h1, if_pos (by omega), e k (by omega)]
      omega
    · by_cases h2 : i = k
      · subst h2
        rw [if_neg h1, if_pos (by omega)]
        omega
      · rw [if_neg h1, if_neg (by omega), e k (fun e => h2 e.symm)]
        omega

section
variable {M H : List (Int × Int)} {S T : Nat → Int} {m : Nat}
theorem kids_zero : ∀ j, kidsN M (fun _ => 0) m j = 0
  | 0 => rfl
  | j + 1 => by rw [kidsN, kids_zero j]; simp
theorem kids_add : ∀ j, kidsN M (fun c => S c + T c) m j = kidsN M S m j + kidsN M T m j
  | 0 => rfl
  | j + 1 => by
    rw [kidsN, kidsN, kidsN, kids_add j]
    split <;> omega
theorem kids_mul (f : Int) : ∀ j, kidsN M (fun c => f * S c) m j = f * kidsN M S m j
  | 0 => by simp [kidsN]
  | j + 1 => by
    rw [kidsN, kidsN, kids_mul f j]
    split
    · rw [Int.mul_add]
    · rfl
theorem kids_one {q : Nat} : ∀ j, kidsN M (fun c => if c = q then 1 else 0) m j = if q < j ∧ par M q = (m : Int) then 1 else 0
  | 0 => by simp [kidsN]
  | j + 1 => by
    rw [kidsN, kids_one j]
    by_cases hj : j = q
    · subst hj
      by_cases hp : par M j = (m : Int)
      · rw [if_pos hp, if_neg (by omega), if_pos rfl, if_pos ⟨by omega, hp⟩]; rfl
      · rw [if_neg hp, if_neg (by omega), if_neg (by intro h; exact hp h.2)]
    · have e : (q < j + 1 ∧ par M q = (m : Int)) ↔ (q < j ∧ par M q = (m : Int)) := ⟨fun h => ⟨by omega, h.2⟩, fun h => ⟨by omega, h.2⟩⟩
      simp only [e, if_neg hj]
      split <;> omega
theorem kids_le : ∀ j, (∀ c, c < j → par M c = (m : Int) → S c ≤ T c) → kidsN M S m j ≤ kidsN M T m j
  | 0, _ => Int.le_refl _
  | j + 1, h => by
    have h1 := kids_le j (fun c hc => h c (by omega))
    rw [kidsN, kidsN]
    by_cases hp : par M j = (m : Int)
    · have := h j (by omega) hp
      rw [if_pos hp, if_pos hp]
      omega
    · rw [if_neg hp, if_neg hp]
      exact h1
end

/-! ### A load is what is drawn there and the loads of the children -/
def ind (M : List (Int × Int)) (m x : Nat) : Int := if x ∈ wayL M (m : Int) then 1 else 0
theorem par_way_lt {M H : List (Int × Int)} (hk : NetOk M H) {m : Nat} (hm : m < M.length) {x : Nat} (hx : x ∈ wayL M (par M m)) : x < m := by
  have hp := hk.par_lt hm
  have := wayF_le hk _ (par M m) (by omega) x hx
  omega
theorem ind_split {M H : List (Int × Int)} (hk : NetOk M H) : ∀ (m : Nat), m < M.length → ∀ x, ind M m x = (if m = x then 1 else 0) + kidsN M (fun c => ind M m c) x M.length := by
  intro m
  induction m using Nat.strongRecOn with
  | ind m ih =>
    intro hm x
    have hp := hk.par_lt hm
    have hst := wayL_step hk hm
    have hnot : ∀ y, y = m → y ∉ wayL M (par M m) := fun y e hy => by have := par_way_lt hk hm hy; omega
    have hi : ∀ y, ind M m y = (if y = m then 1 else 0) + (if y ∈ wayL M (par M m) then 1 else 0) := fun y => by
      unfold ind
      rw [hst]
      by_cases hy : y = m
      · rw [if_pos (by rw [hy]; exact List.mem_cons_self ..), if_pos hy, if_neg (hnot y hy)]; rfl
      · rw [if_neg hy]
        by_cases h2 : y ∈ wayL M (par M m)
        · rw [if_pos (List.mem_cons_of_mem _ h2), if_pos h2]; rfl
        · rw [if_neg (fun h => (List.mem_cons.1 h).elim hy h2), if_neg h2]; rfl
    have hfun : (fun c => ind M m c) = fun c => (if c = m then 1 else 0) + (if c ∈ wayL M (par M m) then 1 else 0) := funext hi
    rw [hfun, kids_add, kids_one, hi x]
    by_cases h0 : par M m < 0
    · have hw := wayL_neg M _ h0
      rw [hw]
      have hz : kidsN M (fun c => if c ∈ ([] : List Nat) then (1 : Int) else 0) x M.length = 0 := by
        have := kids_zero (M := M) (m := x) M.length
        simpa using this
      rw [hz, if_neg (show ¬ (m < M.length ∧ par M m = (x : Int)) by omega), if_neg (show ¬ x ∈ ([] : List Nat) by simp)]
      by_cases hx : x = m
      · rw [if_pos hx, if_pos hx.symm]; rfl
      · rw [if_neg hx, if_neg (fun e => hx e.symm)]; rfl
    · obtain ⟨q, hq⟩ := Int.eq_ofNat_of_zero_le (show 0 ≤ par M m by omega)
      have ihq := ih q (by omega) (by omega) x
      rw [hq]
      have e1 : (if x ∈ wayL M (q : Int) then (1 : Int) else 0) = ind M q x := rfl
      have e2 : (fun c => if c ∈ wayL M (q : Int) then (1 : Int) else 0) = fun c => ind M q c := rfl
      rw [e1, e2, ihq]
      have e3 : (if m < M.length ∧ (q : Int) = (x : Int) then (1 : Int) else 0) = if q = x then 1 else 0 := by
        by_cases h : q = x
        · rw [if_pos ⟨hm, by omega⟩, if_pos h]
        · rw [if_neg (by intro e; exact h (by omega)), if_neg h]
      rw [e3]
      have e4 : (if x = m then (1 : Int) else 0) = if m = x then 1 else 0 := by
        by_cases hx : x = m
        · rw [if_pos hx, if_pos hx.symm]
        · rw [if_neg hx, if_neg (fun e => hx e.symm)]
      rw [e4]
def isAt (H : List (Int × Int)) (i m : Nat) : Bool := match H[i]? with
  | some h => decide (h.1 = (m : Int))
  | none => false
theorem isAt_some {H : List (Int × Int)} {i m : Nat} {h : Int × Int} (e : H[i]? = some h) : isAt H i m = decide (h.1 = (m : Int)) := by simp [isAt, e]
theorem load_split {M H : List (Int × Int)} (hk : NetOk M H) (d : Nat → Int) : ∀ k, k ≤ H.length → ∀ x, loadD M H d x k = sumG (fun i => if isAt H i x then d i else 0) k + kidsN M (fun c => loadD M H d c k) x M.length
  | 0, _, x => by
    have : (fun c => loadD M H d c 0) = fun _ => (0 : Int) := rfl
    rw [this, kids_zero]
    rfl
  | k + 1, h, x => by
    have hh : H[k]? = some H[k] := List.getElem?_eq_getElem (by omega)
    obtain ⟨h1, h2, -⟩ := hk.hyd k _ hh
    obtain ⟨p, hp⟩ := Int.eq_ofNat_of_zero_le h1
    have hpl : p < M.length := by omega
    have hon : ∀ y, (if onWay M H k y then d k else 0) = d k * ind M p y := fun y => by
      rw [onWay, hh]
      simp only [hp, decide_eq_true_eq, ind]
      split
      · simp
      · simp
    have hfun : (fun c => loadD M H d c (k + 1)) = fun c => loadD M H d c k + d k * ind M p c := by
      funext c
      rw [loadD, hon]
    rw [hfun, kids_add, kids_mul, loadD, hon, load_split hk d k (by omega) x, sumG, isAt_some hh, ind_split hk p hpl x]
    have e : (if decide (H[k].1 = (x : Int)) = true then d k else 0) = d k * (if p = x then 1 else 0) := by
      rw [hp]
      by_cases hx : p = x
      · rw [if_pos hx, if_pos (by simp; omega)]; simp
      · rw [if_neg hx, if_neg (by simp; omega)]; simp
    rw [e, Int.mul_add]
    generalize kidsN M (ind M p) x M.length = K
    generalize kidsN M (fun c => loadD M H d c k) x M.length = K2
    omega

theorem zero_way {M H : List (Int × Int)} (hk : NetOk M H) : ∀ (m : Nat), m < M.length → 0 ∈ wayL M (m : Int) := by
  intro m
  induction m using Nat.strongRecOn with
  | ind m ih =>
    intro hm
    rw [wayL_step hk hm]
    by_cases h0 : m = 0
    · subst h0; exact List.mem_cons_self ..
    · have h1 := (hk.main m _ (List.getElem?_eq_getElem hm)).2.1 (by omega)
      have h2 := par_some (List.getElem?_eq_getElem hm)
      obtain ⟨q, hq⟩ := Int.eq_ofNat_of_zero_le (show 0 ≤ par M m by omega)
      rw [hq]
      exact List.mem_cons_of_mem _ (ih q (by omega) (by omega))
theorem load_root {M H : List (Int × Int)} (hk : NetOk M H) (d : Nat → Int) : ∀ k, k ≤ H.length → loadD M H d 0 k = sumG d k
  | 0, _ => rfl
  | k + 1, h => by
    have hh : H[k]? = some H[k] := List.getElem?_eq_getElem (by omega)
    obtain ⟨h1, h2, -⟩ := hk.hyd k _ hh
    obtain ⟨p, hp⟩ := Int.eq_ofNat_of_zero_le h1
    have := zero_way hk p (by omega)
    rw [loadD, sumG, load_root hk d k (by omega), onWay, hh]
    simp only [hp, decide_eq_true_eq, if_pos this]

theorem withN_has {p : Int → Int → Bool} {M : List (Int × Int)} {D : Nat → Int} (x : Nat) : ∀ k, k ≤ M.length → hasB (withN p M D k) (x : Int) = (decide (x < k) && p (D x) (lim M x))
  | 0, _ => by simp [withN, hasB]
  | k + 1, h => by
    have hm : M[k]? = some M[k] := List.getElem?_eq_getElem (by omega)
    have ih := withN_has (p := p) (M := M) (D := D) x k (by omega)
    rw [withN_succ hm]
    by_cases hx : x = k
    · subst hx
      have e : decide (x < x) = false := by simp
      rw [e, Bool.false_and] at ih
      rw [lim_some hm, show decide (x < x + 1) = true by simp, Bool.true_and]
      cases hp : p (D x) (M[x]).2 with
      | false => rw [if_neg (by simp)]; exact ih
      | true =>
        rw [if_pos rfl]
        simp [hasB]
    · have e : decide (x < k + 1) = decide (x < k) := by
        by_cases h1 : x < k
        · rw [decide_eq_true h1, decide_eq_true (by omega)]
        · rw [decide_eq_false h1, decide_eq_false (by omega)]
      rw [e, ← ih]
      split
      · rw [hasB, hasB, List.any_append]
        simp
        intro h2
        omega
      · rfl
theorem sum_listD (d : Nat → Int) : ∀ k, (listD k d).sum = sumG d k
  | 0 => rfl
  | k + 1 => by
    have := sum_listD d k
    rw [listD] at this ⊢
    rw [List.range_succ, List.map_append, List.sum_append, this, sumG]
    simp
theorem flows_bd {M H : List (Int × Int)} (hk : NetOk M H) {F : List Int} (h : flowsB H F = true) : F.length ≤ 10 ∧ ∀ x ∈ F, 0 ≤ x ∧ x ≤ 5000 := by
  have hg := flowsB_get h
  refine ⟨by have := hk.h10; omega, fun x hx => ?_⟩
  obtain ⟨i, hi⟩ := List.mem_iff_getElem?.1 hx
  have hil : i < H.length := by rw [← hg.1]; exact (List.getElem?_eq_some_iff.1 hi).1
  exact flowsB_5000 hk h i _ x (List.getElem?_eq_getElem hil) hi
theorem list_as {F : List Int} {m : Nat} (h : F.length = m) : F = listD m (fun i => F[i]?.getD 0) := by
  refine List.ext_getElem? fun i => ?_
  by_cases hi : i < m
  · rw [listD_get hi, List.getElem?_eq_getElem (by omega)]
    rfl
  · rw [List.getElem?_eq_none (by omega), List.getElem?_eq_none (by rw [listD_length]; omega)]
end Go.Proofs.YtfcpgpmhjadanaaGreatDoor
namespace Go.Proofs.YtfcpgpmhjadanaaGreatDoor
open Go.RowKit
set_option linter.unusedVariables false

theorem ask_parts {M H : List (Int × Int)} {F : List Int} (h : askB M H F = true) : netB M H = true ∧ NetOk M H ∧ flowsB H F = true ∧ ∃ d, F = listD H.length d ∧ (∀ i, i < H.length → 0 ≤ d i ∧ d i ≤ most H i) := by
  rw [askB, Bool.and_eq_true] at h
  have hk := netB_ok h.1
  have e := list_as (flowsB_get h.2).1
  refine ⟨h.1, hk, h.2, _, e, ?_⟩
  have h2 := h.2
  rw [e] at h2
  exact flowsB_iff.1 h2
theorem load_nonneg {M H : List (Int × Int)} {d : Nat → Int} (hd : ∀ i, i < H.length → 0 ≤ d i) (x : Nat) : ∀ k, k ≤ H.length → 0 ≤ loadD M H d x k
  | 0, _ => by simp [loadD]
  | k + 1, h => by
    have ih := load_nonneg (M := M) hd x k (by omega)
    have := hd k (by omega)
    rw [loadD]
    split <;> omega
theorem kids_at {M : List (Int × Int)} {S : Nat → Int} {m c : Nat} (hS : ∀ c, 0 ≤ S c) (hp : par M c = (m : Int)) : ∀ j, c < j → S c ≤ kidsN M S m j
  | 0, h => by omega
  | j + 1, h => by
    have hn : ∀ j, 0 ≤ kidsN M S m j := fun j => by
      induction j with
      | zero => simp [kidsN]
      | succ j ih =>
        rw [kidsN]
        have := hS j
        split <;> omega
    rw [kidsN]
    by_cases hj : c = j
    · subst hj
      rw [if_pos hp]
      have := hn c
      omega
    · have := kids_at hS hp j (by omega)
      have := hS j
      split <;> omega
theorem sumG_nonneg {g : Nat → Int} : ∀ k, (∀ i, i < k → 0 ≤ g i) → 0 ≤ sumG g k
  | 0, _ => by simp [sumG]
  | k + 1, h => by
    have := sumG_nonneg k (fun i hi => h i (by omega))
    have := h k (by omega)
    rw [sumG]
    omega
/-- The loads of valid flows. -/
theorem ma1 {M H : List (Int × Int)} {F : List Int} (h : askB M H F = true) :
    (loL M H F).length = M.length ∧ 1 ≤ M.length ∧ M.length ≤ 10 ∧ (loL M H F)[0]? = some F.sum ∧ F.length ≤ 10 ∧ ∀ x ∈ F, 0 ≤ x ∧ x ≤ 5000 := by
  obtain ⟨hn, hk, hf, d, e, hd⟩ := ask_parts h
  have hb := flows_bd hk hf
  refine ⟨by rw [lo_yes h]; simp, hk.m1, hk.m10, ?_, hb⟩
  rw [lo_yes h, List.getElem?_map, List.getElem?_range (by have := hk.m1; omega)]
  rw [e, Option.map_some, loadsF_at hk, load_root hk d H.length (Nat.le_refl _), sum_listD]
/-- One main. -/
theorem ma2 {M H : List (Int × Int)} {F : List Int} (h : askB M H F = true) {i : Nat} {x : Int × Int} (hx : M[i]? = some x) :
    ∃ v, (loL M H F)[i]? = some v ∧ hasB (ovL overP M H F) (i : Int) = decide (x.2 < v) ∧ hasB (ovL tightP M H F) (i : Int) = (v == x.2) ∧ (0 < i → ∃ (q : Nat) (u : Int), x.1 = (q : Int) ∧ q < M.length ∧ (loL M H F)[q]? = some u ∧ v ≤ u) := by
  obtain ⟨hn, hk, hf, d, e, hd⟩ := ask_parts h
  have hi := (List.getElem?_eq_some_iff.1 hx).1
  have hg : ∀ j, j < M.length → (loL M H F)[j]? = some (loadsF M H F j) := fun j hj => by
    rw [lo_yes h, List.getElem?_map, List.getElem?_range hj]
    rfl
  refine ⟨loadsF M H F i, hg i hi, ?_, ?_, fun h0 => ?_⟩
  · rw [ovL, if_pos h, withN_has i M.length (Nat.le_refl _), decide_eq_true hi, Bool.true_and, overP, lim_some hx]
  · rw [ovL, if_pos h, withN_has i M.length (Nat.le_refl _), decide_eq_true hi, Bool.true_and, tightP, lim_some hx]
  · have hp := (hk.main i x hx).2.1 h0
    obtain ⟨q, hq⟩ := Int.eq_ofNat_of_zero_le hp.1
    have hql : q < M.length := by omega
    refine ⟨q, _, hq, hql, hg q hql, ?_⟩
    rw [e, loadsF_at hk, loadsF_at hk, load_split hk d H.length (Nat.le_refl _) q]
    have hd0 : ∀ i, i < H.length → 0 ≤ d i := fun i hi => (hd i hi).1
    have h1 := kids_at (M := M) (S := fun c => loadD M H d c H.length) (m := q) (c := i) (fun c => load_nonneg hd0 c H.length (Nat.le_refl _)) (by rw [par_some hx]; exact hq) M.length hi
    have h2 : 0 ≤ sumG (fun i => if isAt H i q then d i else 0) H.length := sumG_nonneg _ fun i hi => by
      have := hd0 i hi
      split <;> omega
    omega
end Go.Proofs.YtfcpgpmhjadanaaGreatDoor
namespace Go.Proofs.YtfcpgpmhjadanaaGreatDoor
open Go.RowKit
set_option linter.unusedVariables false

theorem sum_take {l : List Int} {k : Nat} {x : Int} (h : l[k]? = some x) : (l.take (k + 1)).sum = (l.take k).sum + x := by
  rw [List.take_add_one, h, List.sum_append]
  simp
theorem sum_take_bd {l : List Int} (h : ∀ x ∈ l, 0 ≤ x ∧ x ≤ 5000) : ∀ k : Nat, 0 ≤ (l.take k).sum ∧ (l.take k).sum ≤ 5000 * k
  | 0 => by simp
  | k + 1 => by
    have ih := sum_take_bd h k
    cases hk : l[k]? with
    | none => rw [List.take_add_one, hk]; simp; omega
    | some x =>
      have hx := h x (List.mem_of_getElem? hk)
      rw [sum_take hk]
      omega

set_option maxHeartbeats 2000000 in
theorem pSum_any (A : Option Addr) (n c : Nat) (l : List Int) (w : World) (hn : n = l.length) (hm : n ≤ 1000) (hl : ∀ x ∈ l, 0 ≤ x ∧ x ≤ 5000) (hr : Rd w A (l.map (Value.int .i64))) :
    Calls Tryz.prog 13 #[.slice A n c] w fun e w' => e = .returned (.int .i64 l.sum) ∧ Below w.heap.size w w' := by
  have Hn := hide hn
  have Hr := hide hr
  have Hl := hide hl
  clear hn hr hl
  go_enter Tryz.func13, Tryz.ntmps13
  go_wp2_with fail
  go_loopw [3, 8] (fun s t wr => ∃ k : Nat, k ≤ n ∧ t = .int .i64 k ∧ s = .int .i64 (l.take k).sum ∧ Below w.heap.size w wr) (fun _ t _ => n - (intOf t).toNat)
  case atStart => exact ⟨0, by omega, rfl, by simp, Below.refl _ _⟩
  case round =>
    obtain ⟨k, hk, rfl, rfl, hb⟩ := hrel
    by_cases hlt : k < n
    · obtain ⟨x, hl0⟩ : ∃ x, l[k]? = some x := ⟨_, List.getElem?_eq_getElem (by rw [← Hn.out]; exact hlt)⟩
      have hx : (l.map (Value.int .i64))[k]? = some (.int .i64 x) := by rw [List.getElem?_map, hl0]; rfl
      obtain ⟨b, off, rfl, hbs, c0⟩ := (Hr.out.below hb).get1 hx
      have hbd := sum_take_bd Hl.out k
      have hxb := Hl.out x (List.mem_of_getElem? hl0)
      have HS := hide (sum_take hl0)
      have hi0 : (0 : Int) ≤ (k : Int) := by omega
      have hi1 : (k : Int) < (n : Int) := by omega
      obtain ⟨s, hs⟩ : ∃ s, s = (l.take k).sum := ⟨_, rfl⟩
      rw [← hs] at hbd HS ⊢
      clear hx hl0 hs
      have hw : IntKind.i64.wrap (s + x) = s + x := IntWalk.i64_in _ (by omega)
      go_wp2
      go_roundw
      case rel => exact ⟨k + 1, by omega, by go_num, by rw [HS.out], hb⟩
      case measure => simp [intOf]; omega
    · have hkn : ((k : Int) < (n : Int)) = False := by simp; omega
      go_wp2
      go_ret
      exact ⟨ret_int (by rw [List.take_of_length_le (by have := Hn.out; omega)]), hb⟩

set_option maxHeartbeats 2000000 in
theorem pSameMains_same (A B : Option Addr) (n c d : Nat) (l : List (Int × Int)) (w : World) (hn : n = l.length) (hm : n ≤ 1048576) (hr : Rd w A (l.flatMap mcells)) (hs : Rd w B (l.flatMap mcells)) :
    Calls Tryz.prog 55 #[.slice A n c, .slice B n d] w fun e w' => e = .returned (.bool true) ∧ Below w.heap.size w w' := by
  have Hn := hide hn
  have Hr := hide hr
  have Hs := hide hs
  clear hn hr hs
  go_enter Tryz.func55, Tryz.ntmps55
  go_wp2_with fail
  go_loopw [13] (fun t wr => ∃ k : Nat, k ≤ n ∧ t = .int .i64 k ∧ Below w.heap.size w wr) (fun t _ => n - (intOf t).toNat)
  case atStart => exact ⟨0, by omega, rfl, Below.refl _ _⟩
  case round =>
    obtain ⟨k, hk, rfl, hb⟩ := hrel
    by_cases hlt : k < n
    · obtain ⟨⟨x0, x1⟩, hh⟩ : ∃ h, l[k]? = some h := ⟨_, List.getElem?_eq_getElem (by rw [← Hn.out]; exact hlt)⟩
      obtain ⟨b, off, rfl, hbs, c0, c1⟩ := (Hr.out.below hb).get2 (fun _ => rfl) hh rfl
      obtain ⟨b', off', rfl, hbs', d0, d1⟩ := (Hs.out.below hb).get2 (fun _ => rfl) hh rfl
      clear hh
      have hi0 : (0 : Int) ≤ (k : Int) := by omega
      have hi1 : (k : Int) < (n : Int) := by omega
      go_wp2_with fail
      refine wp_region_later (by kernel_rfl) (by kernel_rfl) ?_
      repeat (go_big_quiet_step (fail))
      refine wpQuiet_nil ?_
      refine later_intro fun w1 hb1 => ?_
      go_wp2
      go_roundw
      case rel => exact ⟨k + 1, by omega, by go_num, below_step hb hb1⟩
      case measure => simp [intOf]; omega
    · have hkn : ((k : Int) < (n : Int)) = False := by simp; omega
      go_wp2
      go_ret
      exact ⟨rfl, hb⟩
set_option maxHeartbeats 2000000 in
theorem pSameHydrants_same (A B : Option Addr) (n c d : Nat) (l : List (Int × Int)) (w : World) (hn : n = l.length) (hm : n ≤ 1048576) (hr : Rd w A (l.flatMap mcells)) (hs : Rd w B (l.flatMap mcells)) :
    Calls Tryz.prog 56 #[.slice A n c, .slice B n d] w fun e w' => e = .returned (.bool true) ∧ Below w.heap.size w w' := by
  have Hn := hide hn
  have Hr := hide hr
  have Hs := hide hs
  clear hn hr hs
  go_enter Tryz.func56, Tryz.ntmps56
  go_wp2_with fail
  go_loopw [13] (fun t wr => ∃ k : Nat, k ≤ n ∧ t = .int .i64 k ∧ Below w.heap.size w wr) (fun t _ => n - (intOf t).toNat)
  case atStart => exact ⟨0, by omega, rfl, Below.refl _ _⟩
  case round =>
    obtain ⟨k, hk, rfl, hb⟩ := hrel
    by_cases hlt : k < n
    · obtain ⟨⟨x0, x1⟩, hh⟩ : ∃ h, l[k]? = some h := ⟨_, List.getElem?_eq_getElem (by rw [← Hn.out]; exact hlt)⟩
      obtain ⟨b, off, rfl, hbs, c0, c1⟩ := (Hr.out.below hb).get2 (fun _ => rfl) hh rfl
      obtain ⟨b', off', rfl, hbs', d0, d1⟩ := (Hs.out.below hb).get2 (fun _ => rfl) hh rfl
      clear hh
      have hi0 : (0 : Int) ≤ (k : Int) := by omega
      have hi1 : (k : Int) < (n : Int) := by omega
      go_wp2_with fail
      refine wp_region_later (by kernel_rfl) (by kernel_rfl) ?_
      repeat (go_big_quiet_step (fail))
      refine wpQuiet_nil ?_
      refine later_intro fun w1 hb1 => ?_
      go_wp2
      go_roundw
      case rel => exact ⟨k + 1, by omega, by go_num, below_step hb hb1⟩
      case measure => simp [intOf]; omega
    · have hkn : ((k : Int) < (n : Int)) = False := by simp; omega
      go_wp2
      go_ret
      exact ⟨rfl, hb⟩

set_option maxHeartbeats 2000000 in
theorem pSameNet_same (A B A' B' : Option Addr) (n m c d c' d' : Nat) (M H : List (Int × Int)) (w : World) (hn : n = M.length) (hm : m = H.length) (hnm : n ≤ 1048576) (hmm : m ≤ 1048576) (hr : NetRd w A B M H) (hs : NetRd w A' B' M H) :
    Calls Tryz.prog 24 #[.agg #[.slice A n c, .slice B m d], .agg #[.slice A' n c', .slice B' m d']] w fun e w' => e = .returned (.bool true) ∧ Below w.heap.size w w' := by
  have Q1 := hide (fun (W : World) (h : Below w.heap.size w W) => pSameMains_same A A' n c c' M W hn hnm (hr.1.below h) (hs.1.below h))
  have Q2 := hide (fun (W : World) (h : Below w.heap.size w W) => pSameHydrants_same B B' m d d' H W hm hmm (hr.2.below h) (hs.2.below h))
  have HX := hide ((Row.new w #[.slice A n c, .slice B m d] 27).alloc (.cells #[.slice A' n c', .slice B' m d'] 27))
  have HY0 := Row.new (w.alloc (.cells #[.slice A n c, .slice B m d] 27)) #[.slice A' n c', .slice B' m d'] 27
  rw [show (w.alloc (.cells #[.slice A n c, .slice B m d] 27)).heap.size = w.heap.size + 1 by simp] at HY0
  have HY := hide HY0
  have HB := hide (below_alloc (below_alloc (Below.refl w.heap.size w) (.cells #[.slice A n c, .slice B m d] 27)) (.cells #[.slice A' n c', .slice B' m d'] 27))
  clear hn hm hr hs HY0
  go_enter Tryz.func24, Tryz.ntmps24
  go_upto_region 1 with fail
  generalize (w.alloc (.cells #[.slice A n c, .slice B m d] 27)).alloc (.cells #[.slice A' n c', .slice B' m d'] 27) = w1 at *
  have a0 := HX.out.2.1 0 _ rfl
  have a1 := HX.out.2.1 1 _ rfl
  have az := HX.out.1
  have b0 := HY.out.2.1 0 _ rfl
  have b1 := HY.out.2.1 1 _ rfl
  have bz := HY.out.1
  go_wp2_with fail
  refine (Q1.out _ HB.out).mono ?_
  rintro e w2 ⟨rfl, hq⟩
  replace HX := hide (HX.out.below hq)
  replace HY := hide (HY.out.below hq)
  replace HB := hide (below_step HB.out hq)
  clear hq a0 a1 az b0 b1 bz Q1
  have a0 := HX.out.2.1 0 _ rfl
  have a1 := HX.out.2.1 1 _ rfl
  have az := HX.out.1
  have b0 := HY.out.2.1 0 _ rfl
  have b1 := HY.out.2.1 1 _ rfl
  have bz := HY.out.1
  go_wp2_with fail
  refine (Q2.out _ HB.out).mono ?_
  rintro e w3 ⟨rfl, hq⟩
  replace HB := hide (below_step HB.out hq)
  clear hq
  go_wp2_with fail
  go_ret
  exact ⟨rfl, HB.out⟩
end Go.Proofs.YtfcpgpmhjadanaaGreatDoor
namespace Go.Proofs.YtfcpgpmhjadanaaGreatDoor
open Go.RowKit
set_option linter.unusedVariables false

theorem hasB_app (l m : List Int) (x : Int) : hasB (l ++ m) x = (hasB l x || hasB m x) := by simp [hasB]

set_option maxHeartbeats 2000000 in
theorem pIn_any (A : Option Addr) (n c : Nat) (l : List Int) (s : Int) (w : World) (hn : n = l.length) (hm : n ≤ 1048576) (hr : Rd w A (l.map (Value.int .i64))) :
    Calls Tryz.prog 14 #[.slice A n c, .int .i64 s] w fun e w' => e = .returned (.bool (hasB l s)) ∧ Below w.heap.size w w' := by
  have Hn := hide hn
  have Hr := hide hr
  clear hn hr
  go_enter Tryz.func14, Tryz.ntmps14
  go_wp2_with fail
  go_loopw [9] (fun t wr => ∃ k : Nat, k ≤ n ∧ t = .int .i64 k ∧ Hid (hasB (l.take k) s = false) ∧ Below w.heap.size w wr) (fun t _ => n - (intOf t).toNat)
  case atStart => exact ⟨0, by omega, rfl, hide (by simp [hasB]), Below.refl _ _⟩
  case round =>
    obtain ⟨k, hk, rfl, HN, hb⟩ := hrel
    by_cases hlt : k < n
    · obtain ⟨x, hl⟩ : ∃ x, l[k]? = some x := ⟨_, List.getElem?_eq_getElem (by rw [← Hn.out]; exact hlt)⟩
      have hx : (l.map (Value.int .i64))[k]? = some (.int .i64 x) := by rw [List.getElem?_map, hl]; rfl
      obtain ⟨b, off, rfl, hbs, c0⟩ := (Hr.out.below hb).get1 hx
      have HL := hide hl
      clear hx hl
      have hi0 : (0 : Int) ≤ (k : Int) := by omega
      have hi1 : (k : Int) < (n : Int) := by omega
      by_cases he : x = s
      · have he' : (x == s) = true := by simpa using he
        have HE := hide he
        clear he
        go_wp2
        go_ret
        refine ⟨ret_bool ?_, hb⟩
        rw [hasB]
        exact (List.any_eq_true.2 ⟨x, List.mem_of_getElem? HL.out, by simpa using HE.out⟩).symm
      · have he' : (x == s) = false := by simpa using he
        have HE := hide he
        clear he
        go_wp2
        go_roundw
        case rel => exact ⟨k + 1, by omega, by go_num, hide (by rw [List.take_add_one, HL.out, hasB_app, HN.out]; simp [hasB, HE.out]), hb⟩
        case measure => simp [intOf]; omega
    · have hkn : ((k : Int) < (n : Int)) = False := by simp; omega
      go_wp2
      go_ret
      exact ⟨ret_bool (by have h := HN.out; rw [List.take_of_length_le (by have := Hn.out; omega)] at h; exact h.symm), hb⟩
end Go.Proofs.YtfcpgpmhjadanaaGreatDoor
namespace Go.Proofs.YtfcpgpmhjadanaaGreatDoor
open Go.RowKit
set_option linter.unusedVariables false

set_option maxHeartbeats 2000000 in
theorem sameInts_same (A B : Option Addr) (n c d : Nat) (l : List Int) (w : World) (hn : n = l.length) (hm : n ≤ 1048576) (hr : Rd w A (l.map (Value.int .i64))) (hs : Rd w B (l.map (Value.int .i64))) :
    Calls Tryz.prog 12 #[.slice A n c, .slice B n d] w fun e w' => e = .returned (.bool true) ∧ Below w.heap.size w w' := by
  have Hn := hide hn
  have Hr := hide hr
  have Hs := hide hs
  clear hn hr hs
  go_enter Tryz.func12, Tryz.ntmps12
  go_wp2_with fail
  go_loopw [13] (fun t wr => ∃ k : Nat, k ≤ n ∧ t = .int .i64 k ∧ Below w.heap.size w wr) (fun t _ => n - (intOf t).toNat)
  case atStart => exact ⟨0, by omega, rfl, Below.refl _ _⟩
  case round =>
    obtain ⟨k, hk, rfl, hb⟩ := hrel
    by_cases hlt : k < n
    · obtain ⟨x, hx⟩ : ∃ x, (l.map (Value.int .i64))[k]? = some (.int .i64 x) := by
        have : k < l.length := by rw [← Hn.out]; exact hlt
        exact ⟨l[k], by simp [this]⟩
      obtain ⟨b, off, rfl, hbs, c0⟩ := (Hr.out.below hb).get1 hx
      obtain ⟨b', off', rfl, hbs', d0⟩ := (Hs.out.below hb).get1 hx
      clear hx
      have hi0 : (0 : Int) ≤ (k : Int) := by omega
      have hi1 : (k : Int) < (n : Int) := by omega
      go_wp2_with fail
      refine wp_region_later (by kernel_rfl) (by kernel_rfl) ?_
      repeat (go_big_quiet_step (fail))
      refine wpQuiet_nil ?_
      refine later_intro fun w1 hb1 => ?_
      go_wp2
      go_roundw
      case rel => exact ⟨k + 1, by omega, by go_num, below_step hb hb1⟩
      case measure => simp [intOf]; omega
    · have hkn : ((k : Int) < (n : Int)) = False := by simp; omega
      go_wp2
      go_ret
      exact ⟨rfl, hb⟩

def AnyBool (w : World) (e : Ending) (w' : World) : Prop := (∃ b : Bool, e = .returned (.bool b)) ∧ w = w'

set_option maxHeartbeats 1000000 in
theorem big_any (A B : Option Addr) (n c m k : Nat) (w : World) (hn : n ≤ 9223372036854775807) (hm : m ≤ 9223372036854775807) :
    Calls Tryz.prog 4 #[.slice A n c, .slice B m k] w (AnyBool w) := by
  by_cases h : (1048576 : Int) < (n : Int)
  · have h' : decide ((1048576 : Int) < (n : Int)) = true := by simpa using h
    go_enter Tryz.func4, Tryz.ntmps4
    go_wp2
    go_ret
    exact ⟨⟨_, rfl⟩, rfl⟩
  · have h' : decide ((1048576 : Int) < (n : Int)) = false := by simpa using h
    go_enter Tryz.func4, Tryz.ntmps4
    go_wp2
    go_ret
    exact ⟨⟨_, rfl⟩, rfl⟩
end Go.Proofs.YtfcpgpmhjadanaaGreatDoor
namespace Go.Proofs.YtfcpgpmhjadanaaGreatDoor
open Go.RowKit
set_option linter.unusedVariables false

theorem fill_feas {M H : List (Int × Int)} (hk : NetOk M H) {F : List Int} (hr : risB 0 ((H.length : Int) - 1) F = true) : ∀ j, j ≤ F.length → Feas M H (fillD M H F j)
  | 0, _ => feas_zero hk
  | j + 1, hj => by
    have ih := fill_feas hk hr j (by omega)
    have hx : F[j]? = some F[j] := List.getElem?_eq_getElem (by omega)
    obtain ⟨x0, x1⟩ := risB_mem hr (List.mem_of_getElem? hx)
    obtain ⟨i, hi⟩ := Int.eq_ofNat_of_zero_le x0
    rw [hi] at hx x1
    have hh : H[i]? = some (H[i]'(by omega)) := List.getElem?_eq_getElem (by omega)
    rw [fillD_succ hx hh]
    refine feas_step hk ih hh (fillD_out j (fun q hq e => ?_) (fun x h => (risB_mem hr h).1))
    have := risB_lt hr (j - q - 1) q _ _ e (show F[q + (j - q - 1) + 1]? = some (i : Int) by rw [show q + (j - q - 1) + 1 = j by omega]; exact hx)
    omega
theorem feas_flows {M H : List (Int × Int)} (hk : NetOk M H) {d : Nat → Int} (hf : Feas M H d) : ∀ (i : Nat) (h : Int × Int) (f : Int), H[i]? = some h → (listD H.length d)[i]? = some f → 0 ≤ f ∧ f ≤ 5000 := by
  intro i h f hh hd
  have hil := (List.getElem?_eq_some_iff.1 hh).1
  rw [listD_get hil] at hd
  injection hd with hd
  have h1 := hf.each i hil
  rw [most_some hh] at h1
  have h2 := hk.hyd i h hh
  omega
theorem listD_rd {w : World} {B g m : Nat} {d : Nat → Int} (h : OwnD w B g m d) : Rd w (some ⟨g, 0, none⟩) ((listD m d).map (Value.int .i64)) := by
  have := own_rd h
  rwa [show rowOf m d = (listD m d).map (Value.int .i64) from by simp [rowOf, listD]] at this

def fiL (M H : List (Int × Int)) (F : List Int) : List Int := if openB M H F then listD H.length (fillD M H F F.length) else []
theorem fiL_length (M H : List (Int × Int)) (F : List Int) : (fiL M H F).length ≤ 1048576 := by
  unfold fiL
  split
  · next h =>
    rw [openB, Bool.and_eq_true] at h
    have := (netB_ok h.1).h10
    rw [listD_length]; omega
  · simp
theorem fi_no {M H : List (Int × Int)} {F : List Int} (h : openB M H F = false) : fiL M H F = [] := by rw [fiL, h]; rfl
theorem fi_yes {M H : List (Int × Int)} {F : List Int} (h : openB M H F = true) : fiL M H F = listD H.length (fillD M H F F.length) := by rw [fiL, h]; rfl

end Go.Proofs.YtfcpgpmhjadanaaGreatDoor
namespace Go.Proofs.YtfcpgpmhjadanaaGreatDoor
open Go.RowKit
set_option linter.unusedVariables false

set_option maxRecDepth 100000 in
set_option maxHeartbeats 8000000 in
theorem hyFill_any (A B C : Option Addr) (n c m d k ecap : Nat) (M H : List (Int × Int)) (F : List Int) (w : World) (hn : n = M.length) (hm : m = H.length) (hk : NetOk M H) (hkF : k = F.length) (hff : risB 0 ((m : Int) - 1) F = true) (hr : NetRd w A B M H) (hf : Rd w C (F.map (Value.int .i64))) :
    Calls Tryz.prog 59 #[.agg #[.slice A n c, .slice B m d], .slice C k ecap] w (LoadsPost (fillD M H F F.length) m w) := by
  have hm10 : m ≤ 10 := by have := hk.h10; omega
  have hn10 : n ≤ 10 := by have := hk.m10; omega
  have HL := hide (risB_length hff)
  have hk10 : k ≤ 10 := by have := HL.out; omega
  have HF := hide (fun (x : Int) (hx : x ∈ F) => show 0 ≤ x ∧ x < (m : Int) by have := risB_mem hff hx; omega)
  have HFE := hide (fun (j : Nat) (hj : j ≤ F.length) => fill_feas hk (F := F) (by rw [← hm]; exact hff) j hj)
  have Hn := hide hn
  have Hm := hide hm
  have HK := hide hk
  have HkF := hide hkF
  have hr1 := NetRd.alloc hr (.cells #[.slice A n c, .slice B m d] 27)
  have hf1 := Rd.alloc hf (.cells #[.slice A n c, .slice B m d] 27)
  have hc := cell_new2 w (.slice A n c) (.slice B m d) 27
  have HW1 : Hid (Below w.heap.size w (w.alloc (.cells #[.slice A n c, .slice B m d] 27))) := hide (below_alloc (Below.refl _ _) _)
  have Hr := hide hr1
  have Hf := hide hf1
  obtain ⟨i0, hi, hz0, hz1, hz2⟩ := info_parts infoIntT
  have hmk := fun W => run_makeN (P := Tryz.prog) 28 3 Tryz.underlying28 hi hz0 m (by rw [hz2]; omega) (by omega) W
  rw [hz1] at hmk
  simp only [Value.cells, Nat.mul_one] at hmk
  clear hn hm hk hkF hff hr hf hr1 hf1 hi hz0 hz1 hz2
  go_enter Tryz.func59, Tryz.ntmps59
  have hbz : w.heap.size < (w.alloc (.cells #[.slice A n c, .slice B m d] 27)).heap.size := by simp
  have a0 := hc.1
  have a1 := hc.2
  go_wp2_with fail
  have HZ : Hid ((w.alloc (.cells #[.slice A n c, .slice B m d] 27)).heap.size = w.heap.size + 1) := hide (by simp)
  generalize w.alloc (.cells #[.slice A n c, .slice B m d] 27) = w1 at *
  have HO0 : Hid (OwnD (w1.alloc (.cells (madeCells #[.int .i64 0] m) 3)) w.heap.size (w.heap.size + 1) m (fun _ => 0)) := hide (by
    have := OwnD.new (d := fun _ => 0) w1 w.heap.size m HW1.out.size (by unfold maxLen; omega) _ (made_zero m)
    rwa [HZ.out] at this)
  have HB1 : Hid (Below w1.heap.size w1 (w1.alloc (.cells (madeCells #[.int .i64 0] m) 3))) := hide (below_alloc (Below.refl _ _) _)
  have HC0 := hide a0
  have HC1 := hide a1
  clear hc hmk a0 a1
  generalize w1.alloc (.cells (madeCells #[.int .i64 0] m) 3) = W at *
  have hmk10 := hm10
  go_loopw [17] (fun t wr => ∃ j : Nat, j ≤ k ∧ t = .int .i64 j ∧ Hid (OwnD wr w.heap.size (w.heap.size + 1) m (fillD M H F j)) ∧ Hid (Below w1.heap.size w1 wr)) (fun t _ => k - (intOf t).toNat)
  case atStart => exact ⟨0, by omega, rfl, HO0, HB1⟩
  case round =>
    obtain ⟨j, hj, rfl, HO, HB⟩ := hrel
    clear HO0 HB1
    by_cases hlt : j < k
    · obtain ⟨x, hh⟩ : ∃ f, F[j]? = some f := ⟨_, List.getElem?_eq_getElem (by rw [← HkF.out]; exact hlt)⟩
      obtain ⟨x00, x01⟩ := HF.out x (List.mem_of_getElem? hh)
      obtain ⟨i, rfl⟩ := Int.eq_ofNat_of_zero_le x00
      have him : i < m := by omega
      obtain ⟨⟨y0, y1⟩, hy⟩ : ∃ h, H[i]? = some h := ⟨_, List.getElem?_eq_getElem (by rw [← Hm.out]; exact him)⟩
      obtain ⟨z0, z1, z2, z3⟩ := HK.out.hyd i _ hy
      obtain ⟨b, off, rfl, hbs, c0⟩ := (Hf.out.below HB.out).get1 (u := .int .i64 (i : Int)) (by rw [List.getElem?_map, hh]; rfl)
      have HS := hide (fillD_succ (M := M) hh hy)
      have HFS := hide (feas_flows HK.out (HFE.out j (by have := HkF.out; omega)))
      have HFD := hide (loadsN_bd HK.out HFS.out)
      have HY := hide hy
      have q0 := cell_on HC0.out HB.out
      have q1 := cell_on HC1.out HB.out
      have hbw := World.block_lt_of_cell? wr _ q0
      have hx0 : y0 < n := by have := Hn.out; dsimp only at z1; omega
      dsimp only at z0 z1 z2 z3 HS hbw
      clear hh hy x00 x01 z1
      go_wp2_with fail
      refine (hyLoads_any A B (some ⟨w.heap.size + 1, 0, none⟩) n c m d m _ M H (listD m (fillD M H F j)) wr Hn.out Hm.out HK.out listD_length.symm (Nat.le_refl _) (by rw [show m = H.length from Hm.out]; exact HFS.out) (Hr.out.below HB.out) (listD_rd HO.out)).mono ?_
      rintro e w2 ⟨⟨g2, rfl, ho2⟩, hq2⟩
      have HO2 := hide ho2
      have HB2 := hide (below_step HB.out hq2)
      have HO1 := hide (HO.out.below hq2)
      have q0 := cell_on q0 hq2
      have q1 := cell_on q1 hq2
      have hg2 : w.heap.size + 1 < g2 := by have h1 := HO2.out.lt.1; have h2 := HO.out.lt.2; omega
      obtain ⟨b', off', rfl, hbs', d0, d1⟩ := (Hr.out.below HB2.out).2.get2 (fun _ => rfl) HY.out rfl
      have hbw2 := Nat.lt_of_lt_of_le hbw hq2.size
      dsimp only at d0 d1
      clear ho2 hq2 HO
      have ey : IntKind.i64.wrap (y0 + 1) = y0 + 1 := IntWalk.i64_in _ (by omega)
      go_wp2_with fail
      have HW0 := hide HB2.out
      obtain ⟨wo, rfl⟩ : ∃ wo, wo = w2 := ⟨_, rfl⟩
      have HFZ : Hid (w.heap.size + 1 < wo.heap.size) := hide (HO1.out.lt.2)
      go_loopw [9, 10] (fun v t wr => ∃ (P : List Nat) (a : Int), t = .int .i64 a ∧ -1 ≤ a ∧ a < n ∧ Hid (P ++ wayL M a = wayL M y0) ∧ v = .int .i64 (capL M (loadsF M H (listD m (fillD M H F j))) P y1) ∧ Hid (Below wo.heap.size wo wr)) (fun _ t _ => (intOf t + 1).toNat)
      case atStart => exact ⟨[], y0, rfl, by omega, by omega, hide rfl, by simp [capL], hide (Below.refl _ _)⟩
      case round =>
        obtain ⟨P, a, rfl, ha0, ha1, HP, rfl, HBi⟩ := hrel
        have HBA := hide (below_step HB2.out HBi.out)
        by_cases h0 : 0 ≤ a
        · obtain ⟨q, rfl⟩ := Int.eq_ofNat_of_zero_le h0
          have hqn : q < n := by omega
          obtain ⟨⟨p0, p1⟩, hp⟩ : ∃ h, M[q]? = some h := ⟨_, List.getElem?_eq_getElem (by rw [← Hn.out]; exact hqn)⟩
          have hpl := HK.out.par_lt (k := q) (by rw [← Hn.out]; exact hqn)
          rw [par_some hp] at hpl
          obtain ⟨hp1, hp2⟩ := hpl
          obtain ⟨-, -, l0, l1⟩ := HK.out.main q _ hp
          have HLM := hide (lim_some hp)
          dsimp only at hp1 hp2 l0 l1 HLM
          have HW := hide (show wayL M q = q :: wayL M p0 by rw [wayL_step HK.out (by rw [← Hn.out]; exact hqn), par_some hp])
          obtain ⟨b3, off3, rfl, hbs3, e0, e1⟩ := (Hr.out.below HBA.out).1.get2 (fun _ => rfl) hp rfl
          have q0 := cell_on HC0.out HBA.out
          have hbz3 := World.block_lt_of_cell? wr _ q0
          have g0 := (HO2.out.below HBi.out).cell hqn
          have hz3 := (HO2.out.below HBi.out).lt.2
          have hbd := HFD.out (listD m (fillD M H F j)).length q
          rw [listD_length, ← show m = H.length from Hm.out] at hbd
          rw [show loadsN M H (listD m (fillD M H F j)) m = loadsF M H (listD m (fillD M H F j)) by rw [loadsF, listD_length]] at hbd
          dsimp only at e0 e1 hbz3
          have HSN := hide (capL_snoc M (loadsF M H (listD m (fillD M H F j))) P q y1)
          generalize hD : loadsF M H (listD m (fillD M H F j)) q = D at *
          have e5 : IntKind.i64.wrap (p1 - D) = p1 - D := IntWalk.i64_in _ (by omega)
          clear hp hD hbd h0
          generalize hCC : capL M (loadsF M H (listD m (fillD M H F j))) P y1 = cc at *
          clear hCC
          have Q := hide (fun W => l1Least_any cc (p1 - D) W)
          have HBR : Hid (∀ W, Below wr.heap.size wr W → Below wo.heap.size wo W ∧ W.cell? ⟨w.heap.size, 0, none⟩ = some (.slice (some ⟨b3, off3, none⟩) n c) ∧ W.cell? ⟨b3, off3 + q * 2, none⟩ = some (.int .i64 p0) ∧ w.heap.size < W.heap.size ∧ b3 < W.heap.size) := hide (fun W hb => ⟨below_step HBi.out hb, cell_on q0 hb, cell_on e0 hb, Nat.lt_of_lt_of_le hbz3 hb.size, Nat.lt_of_lt_of_le hbs3 hb.size⟩)
          go_wp2_with fail
          refine wp_region_later (by kernel_rfl) (by kernel_rfl) ?_
          repeat (go_big_quiet_step ((go_at_call 61; exact calls_later_same (Q.out _))))
          refine wpQuiet_nil ?_
          refine later_intro fun w3 hb3 => ?_
          obtain ⟨hB3, k0, k1, k2, k3⟩ := HBR.out w3 hb3
          have HB3 := hide hB3
          clear hB3 hb3 q0 e0 e1 g0 hbz3 hbs3
          go_wp2
          go_roundw
          case rel => exact ⟨P ++ [q], p0, rfl, by omega, by omega, hide (by rw [List.append_assoc, List.singleton_append, ← HW.out]; exact HP.out), by rw [HSN.out, HLM.out], HB3⟩
          case measure => simp [intOf]; omega
        · have HPE := hide (show P = wayL M y0 by have := HP.out; rwa [wayL_neg M a (by omega), List.append_nil] at this)
          have HOi := hide (HO1.out.below HBi.out)
          have g0 := HOi.out.cell him
          have g1 := HOi.out.free i
          have hz4 := HOi.out.lt.2
          rw [HPE.out]
          have HS' := hide (show fillD M H F (j + 1) = upd (fillD M H F j) i (capL M (loadsF M H (listD m (fillD M H F j))) (wayL M y0) y1) by rw [HS.out, ← show m = H.length from Hm.out])
          generalize capL M (loadsF M H (listD m (fillD M H F j))) (wayL M y0) y1 = cc at *
          have HSET := hide (HOi.out.set him cc)
          have HBS : Hid (Below w1.heap.size w1 (wr.setCell ⟨w.heap.size + 1, i, none⟩ (.int .i64 cc))) := hide (HBA.out.setCell (by rw [HZ.out]; exact Nat.le_refl _) _)
          go_wp2
          go_roundw
          case rel => exact ⟨j + 1, by omega, by go_num, hide (by rw [HS'.out]; exact HSET.out), HBS⟩
          case measure => simp [intOf]; omega
    · have HE := hide (show fillD M H F j = fillD M H F F.length by rw [← show k = F.length from HkF.out, show j = k by omega])
      go_wp2
      go_ret
      exact ⟨⟨_, rfl, by rw [← HE.out]; exact HO.out⟩, below_step HW1.out HB.out⟩

end Go.Proofs.YtfcpgpmhjadanaaGreatDoor

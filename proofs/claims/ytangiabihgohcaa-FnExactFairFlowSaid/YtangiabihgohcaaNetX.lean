/- Filled flows: the plain law. -/
import Derived.Test.YtangiabihgohcaaNetS
namespace Go.Proofs.Ytangiabihgohcaa
set_option linter.unusedVariables false
def listD (m : Nat) (d : Nat → Int) : List Int := (List.range m).map d
theorem listD_length {m : Nat} {d : Nat → Int} : (listD m d).length = m := by simp [listD]
theorem listD_get {m : Nat} {d : Nat → Int} {i : Nat} (h : i < m) : (listD m d)[i]? = some (d i) := by simp [listD, h]
theorem listD_congr {m : Nat} {d d' : Nat → Int} (h : ∀ i, i < m → d i = d' i) : listD m d = listD m d' := by
  unfold listD
  exact List.map_congr_left fun i hi => h i (by simpa using hi)

theorem wayF_le {M H : List (Int × Int)} (hk : NetOk M H) : ∀ (f : Nat) (m : Int), m < M.length → ∀ x ∈ wayF M f m, (x : Int) ≤ m
  | 0, _, _, x, hx => by simp [wayF] at hx
  | f + 1, m, h, x, hx => by
    rw [wayF] at hx
    split at hx
    · simp at hx
    · rcases List.mem_cons.1 hx with rfl | hx
      · omega
      · have hp := hk.par_lt (k := m.toNat) (by omega)
        have := wayF_le hk f _ (by omega) x hx
        omega
theorem wayF_nodup {M H : List (Int × Int)} (hk : NetOk M H) : ∀ (f : Nat) (m : Int), m < M.length → (wayF M f m).Nodup
  | 0, _, _ => by simp [wayF]
  | f + 1, m, h => by
    rw [wayF]
    split
    · simp
    · have hp := hk.par_lt (k := m.toNat) (by omega)
      refine List.nodup_cons.2 ⟨fun hx => ?_, wayF_nodup hk f _ (by omega)⟩
      have := wayF_le hk f _ (by omega) _ hx
      omega
theorem addAll_at (f : Int) (x : Nat) : ∀ (ms : List Nat) (o : Nat → Int), ms.Nodup → addAll o f ms x = o x + if x ∈ ms then f else 0
  | [], o, _ => by simp [addAll]
  | m :: ms, o, h => by
    obtain ⟨h1, h2⟩ := List.nodup_cons.1 h
    rw [addAll_cons, addAll_at f x ms _ h2]
    unfold upd
    by_cases hx : x = m
    · subst hx; simp [h1]
    · simp [hx]
def onWay (M H : List (Int × Int)) (i x : Nat) : Bool := match H[i]? with
  | some h => decide (x ∈ wayL M h.1)
  | none => false
/-- The load of main x by the first k flows. -/
def loadD (M H : List (Int × Int)) (d : Nat → Int) (x : Nat) : Nat → Int
  | 0 => 0
  | k + 1 => loadD M H d x k + if onWay M H k x then d k else 0
theorem loadsN_at {M H : List (Int × Int)} (hk : NetOk M H) {F : List Int} {d : Nat → Int} (x : Nat) : ∀ k, k ≤ H.length → (∀ i, i < k → F[i]? = some (d i)) → loadsN M H F k x = loadD M H d x k
  | 0, _, _ => rfl
  | k + 1, h, hF => by
    have hh : H[k]? = some H[k] := List.getElem?_eq_getElem (by omega)
    obtain ⟨h1, h2, -⟩ := hk.hyd k _ hh
    rw [loadsN_succ hh (hF k (by omega)), addAll_at _ _ (wayL M (H[k]).1) _ (wayF_nodup hk _ _ (by omega)), loadsN_at hk x k (by omega) (fun i hi => hF i (by omega)), loadD, onWay, hh]
    simp only [decide_eq_true_eq]
theorem loadsF_at {M H : List (Int × Int)} (hk : NetOk M H) (d : Nat → Int) (x : Nat) : loadsF M H (listD H.length d) x = loadD M H d x H.length := by
  rw [loadsF, listD_length]
  exact loadsN_at hk x _ (Nat.le_refl _) (fun i hi => listD_get hi)
theorem loadD_upd {M H : List (Int × Int)} (d : Nat → Int) (i : Nat) (v : Int) (x : Nat) : ∀ k, loadD M H (upd d i v) x k = loadD M H d x k + if i < k ∧ onWay M H i x = true then v - d i else 0
  | 0 => by simp [loadD]
  | k + 1 => by
    rw [loadD, loadD, loadD_upd d i v x k]
    unfold upd
    by_cases hik : k = i
    · subst hik
      by_cases ho : onWay M H k x = true
      · simp [ho]; omega
      · simp [ho]
    · by_cases ho : onWay M H i x = true
      · by_cases h1 : i < k
        · simp [ho, h1, hik, show i < k + 1 by omega]; omega
        · simp [ho, h1, hik, show ¬ i < k + 1 by omega]
      · simp [ho, hik]
def most (H : List (Int × Int)) (i : Nat) : Int := match H[i]? with
  | some h => h.2
  | none => 0
theorem most_some {H : List (Int × Int)} {i : Nat} {h : Int × Int} (e : H[i]? = some h) : most H i = h.2 := by simp [most, e]
structure Feas (M H : List (Int × Int)) (d : Nat → Int) : Prop where
  each : ∀ i, i < H.length → 0 ≤ d i ∧ d i ≤ most H i
  all : ∀ x, x < M.length → loadD M H d x H.length ≤ lim M x
def capL (M : List (Int × Int)) (D : Nat → Int) (ms : List Nat) (x : Int) : Int := ms.foldl (fun x m => min x (lim M m - D m)) x
theorem capL_snoc (M : List (Int × Int)) (D : Nat → Int) (ms : List Nat) (m : Nat) (x : Int) : capL M D (ms ++ [m]) x = min (capL M D ms x) (lim M m - D m) := by simp [capL]
theorem capL_cons (M : List (Int × Int)) (D : Nat → Int) (ms : List Nat) (m : Nat) (x : Int) : capL M D (m :: ms) x = capL M D ms (min x (lim M m - D m)) := rfl
theorem capL_le (M : List (Int × Int)) (D : Nat → Int) : ∀ (ms : List Nat) (x : Int), capL M D ms x ≤ x
  | [], x => Int.le_refl _
  | m :: ms, x => by rw [capL_cons]; have := capL_le M D ms (min x (lim M m - D m)); omega
theorem capL_mem (M : List (Int × Int)) (D : Nat → Int) : ∀ (ms : List Nat) (x : Int) (m : Nat), m ∈ ms → capL M D ms x ≤ lim M m - D m
  | q :: ms, x, m, h => by
    rw [capL_cons]
    rcases List.mem_cons.1 h with rfl | h
    · have := capL_le M D ms (min x (lim M m - D m)); omega
    · exact capL_mem M D ms _ m h
theorem capL_eq (M : List (Int × Int)) (D : Nat → Int) : ∀ (ms : List Nat) (x : Int), capL M D ms x = x ∨ ∃ m ∈ ms, capL M D ms x = lim M m - D m
  | [], x => .inl rfl
  | q :: ms, x => by
    rw [capL_cons]
    rcases capL_eq M D ms (min x (lim M q - D q)) with h | ⟨m, hm, h⟩
    · rcases Int.le_total x (lim M q - D q) with h1 | h1
      · exact .inl (by omega)
      · exact .inr ⟨q, List.mem_cons_self .., by omega⟩
    · exact .inr ⟨m, List.mem_cons_of_mem _ hm, h⟩
theorem capL_pos {M : List (Int × Int)} {D : Nat → Int} {ms : List Nat} {x : Int} (hx : 0 ≤ x) (h : ∀ m ∈ ms, D m ≤ lim M m) : 0 ≤ capL M D ms x := by
  rcases capL_eq M D ms x with e | ⟨m, hm, e⟩
  · omega
  · have := h m hm; omega
theorem capL_congr {M : List (Int × Int)} {D D' : Nat → Int} : ∀ (ms : List Nat) (x : Int), (∀ m ∈ ms, D m = D' m) → capL M D ms x = capL M D' ms x
  | [], _, _ => rfl
  | m :: ms, x, h => by rw [capL_cons, capL_cons, h m (List.mem_cons_self ..)]; exact capL_congr ms _ (fun q hq => h q (List.mem_cons_of_mem _ hq))
/-- The flows when the first j open hydrants have theirs. -/
def fillD (M H : List (Int × Int)) (O : List Int) : Nat → Nat → Int
  | 0 => fun _ => 0
  | j + 1 => match O[j]? with
    | some i => match H[i.toNat]? with
      | some h => upd (fillD M H O j) i.toNat (capL M (loadsF M H (listD H.length (fillD M H O j))) (wayL M h.1) h.2)
      | none => fillD M H O j
    | none => fillD M H O j
theorem fillD_succ {M H : List (Int × Int)} {O : List Int} {j i : Nat} {h : Int × Int} (hi : O[j]? = some (i : Int)) (hh : H[i]? = some h) : fillD M H O (j + 1) = upd (fillD M H O j) i (capL M (loadsF M H (listD H.length (fillD M H O j))) (wayL M h.1) h.2) := by
  rw [fillD, hi]
  simp [hh]
theorem loadD_zero (M H : List (Int × Int)) (x : Nat) : ∀ k, loadD M H (fun _ => 0) x k = 0
  | 0 => rfl
  | k + 1 => by rw [loadD, loadD_zero M H x k]; simp
theorem feas_zero {M H : List (Int × Int)} (hk : NetOk M H) : Feas M H (fun _ => 0) := by
  refine ⟨fun i hi => ?_, fun x hx => ?_⟩
  · have := hk.hyd i _ (List.getElem?_eq_getElem hi)
    rw [most_some (List.getElem?_eq_getElem hi)]
    omega
  · have := hk.main x _ (List.getElem?_eq_getElem hx)
    rw [loadD_zero, lim_some (List.getElem?_eq_getElem hx)]
    omega
theorem feas_step {M H : List (Int × Int)} (hk : NetOk M H) {d : Nat → Int} (hf : Feas M H d) {i : Nat} {h : Int × Int} (hh : H[i]? = some h) (h0 : d i = 0) : Feas M H (upd d i (capL M (loadsF M H (listD H.length d)) (wayL M h.1) h.2)) := by
  have hil : i < H.length := (List.getElem?_eq_some_iff.1 hh).1
  obtain ⟨y0, y1, y2, y3⟩ := hk.hyd i _ hh
  have hmem : ∀ m ∈ wayL M h.1, m < M.length := fun m hm => wayL_mem hk (by omega) hm
  have hpos := capL_pos (M := M) (D := loadsF M H (listD H.length d)) (ms := wayL M h.1) (x := h.2) (by omega) (fun m hm => by rw [loadsF_at hk]; exact hf.all m (hmem m hm))
  have hle := capL_le M (loadsF M H (listD H.length d)) (wayL M h.1) h.2
  have hcm := capL_mem M (loadsF M H (listD H.length d)) (wayL M h.1) h.2
  generalize capL M (loadsF M H (listD H.length d)) (wayL M h.1) h.2 = v at *
  refine ⟨fun j hj => ?_, fun x hx => ?_⟩
  · unfold upd
    by_cases hji : j = i
    · subst hji; rw [if_pos rfl, most_some hh]; exact ⟨hpos, hle⟩
    · rw [if_neg hji]; exact hf.each j hj
  · rw [loadD_upd]
    have h1 := hf.all x hx
    by_cases ho : onWay M H i x = true
    · rw [if_pos ⟨hil, ho⟩, h0]
      have h2 := hcm x (by simpa [onWay, hh] using ho)
      rw [loadsF_at hk] at h2
      omega
    · rw [if_neg (fun h => ho h.2)]
      omega
theorem fillD_out {M H : List (Int × Int)} {O : List Int} {i : Nat} : ∀ j, (∀ q, q < j → O[q]? ≠ some (i : Int)) → (∀ x ∈ O, 0 ≤ x) → fillD M H O j i = 0
  | 0, _, _ => rfl
  | j + 1, h, h0 => by
    have ih := fillD_out (M := M) (H := H) j (fun q hq => h q (by omega)) h0
    rw [fillD]
    cases hO : O[j]? with
    | none => exact ih
    | some x =>
      have hx := h0 x (List.mem_of_getElem? hO)
      have hne := h j (by omega)
      rw [hO] at hne
      dsimp only
      cases hh : H[x.toNat]? with
      | none => exact ih
      | some y =>
        dsimp only
        unfold upd
        rw [if_neg (fun e => hne (by rw [e]; simp; omega))]
        exact ih
end Go.Proofs.Ytangiabihgohcaa

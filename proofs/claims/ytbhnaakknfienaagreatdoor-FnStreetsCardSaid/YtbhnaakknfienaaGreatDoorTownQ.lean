/- Streets as edges; walks turned round; the first of the shortest routes, plain. -/
import Derived.Test.YtbhnaakknfienaaGreatDoorTownP
import Derived.Test.YtbhnaakknfienaaGreatDoorTownA
import Derived.Test.YtbhnaakknfienaaGreatDoorSums
namespace Go.Proofs.YtbhnaakknfienaaGreatDoor
set_option linter.unusedVariables false

theorem Walk.cons {E : List Edge} {u v y : Nat} {s w : Int} (he : (u, v, s) ∈ E) (h : Walk E v y w) : Walk E u y (s + w) := by
  induction h with
  | here => have := Walk.step (.here : Walk E u u 0) he; rwa [Int.zero_add, ← Int.add_zero s] at this
  | step _ he2 ih => have := Walk.step ih he2; rwa [Int.add_assoc] at this
theorem Walk.rev {E : List Edge} (hs : ∀ u v s, (u, v, s) ∈ E → (v, u, s) ∈ E) {x v : Nat} {w : Int} (h : Walk E x v w) : Walk E v x w := by
  induction h with
  | here => exact .here
  | step _ he ih => have := Walk.cons (hs _ _ _ he) ih; rwa [Int.add_comm] at this
theorem Walk.append {E : List Edge} {x v y : Nat} {w w' : Int} (h : Walk E x v w) (k : Walk E v y w') : Walk E x y (w + w') := by
  induction k with
  | here => rwa [Int.add_zero]
  | step _ he ih => rw [← Int.add_assoc]; exact .step ih he

def edgeOf (t : Int × Int × Int) : List Edge := [(t.1.toNat, t.2.1.toNat, t.2.2), (t.2.1.toNat, t.1.toNat, t.2.2)]
def edges (l : List (Int × Int × Int)) : List Edge := l.flatMap edgeOf
theorem mem_edges {l : List (Int × Int × Int)} {e : Edge} : e ∈ edges l ↔ ∃ t ∈ l, e = (t.1.toNat, t.2.1.toNat, t.2.2) ∨ e = (t.2.1.toNat, t.1.toNat, t.2.2) := by
  simp [edges, edgeOf, List.mem_flatMap]
theorem edges_sym (l : List (Int × Int × Int)) : ∀ u v s, (u, v, s) ∈ edges l → (v, u, s) ∈ edges l := by
  intro u v s h
  rw [mem_edges] at *
  obtain ⟨t, ht, h | h⟩ := h
  · exact ⟨t, ht, .inr (by simp_all)⟩
  · exact ⟨t, ht, .inl (by simp_all)⟩
theorem length_edges (l : List (Int × Int × Int)) : (edges l).length = 2 * l.length := by
  induction l with
  | nil => rfl
  | cons a l ih => rw [edges, List.flatMap_cons, List.length_append, show (l.flatMap edgeOf).length = 2 * l.length from ih]; simp [edgeOf]; omega

theorem nodeB_iff {nd i : Int} : nodeB nd i = true ↔ 0 ≤ i ∧ i < nd := by
  rw [nodeB, inB_iff]; omega
theorem fitB_iff {nd : Int} {t : Int × Int × Int} : fitB nd t = true ↔ 0 ≤ t.1 ∧ t.1 < t.2.1 ∧ t.2.1 < nd ∧ 1 ≤ t.2.2 ∧ t.2.2 ≤ 3600 := by
  simp only [fitB, Bool.and_eq_true, nodeB_iff, decide_eq_true_eq, inB_iff]
  omega

/-- Every street fits. -/
def Fits (nd : Nat) (l : List (Int × Int × Int)) : Prop := ∀ t ∈ l, fitB nd t = true
theorem edges_good {nd : Nat} {l : List (Int × Int × Int)} (h : Fits nd l) : Good nd (edges l) := by
  constructor
  · intro e he
    rw [mem_edges] at he
    obtain ⟨t, ht, rfl | rfl⟩ := he <;> (have := fitB_iff.1 (h t ht); simp only; omega)
  · intro e he
    rw [mem_edges] at he
    obtain ⟨t, ht, rfl | rfl⟩ := he <;> (have := fitB_iff.1 (h t ht); simp only; omega)
theorem edges_le {nd : Nat} {l : List (Int × Int × Int)} (h : Fits nd l) : ∀ e ∈ edges l, e.2.2 ≤ 3600 := by
  intro e he
  rw [mem_edges] at he
  obtain ⟨t, ht, rfl | rfl⟩ := he <;> (have := fitB_iff.1 (h t ht); simp only; omega)

def timesF (nd : Nat) (l : List (Int × Int × Int)) (x : Nat) : Nat → Int := passN (edges l) nd (start x)
section
variable {nd : Nat} {l : List (Int × Int × Int)} {x : Nat}
theorem times_dist (h : Fits nd l) (hx : x < nd) : IsDist (edges l) x (timesF nd l x) := passN_isDist (edges_good h) hx
theorem times_sym (h : Fits nd l) {y : Nat} (hx : x < nd) (hy : y < nd) : timesF nd l x y = timesF nd l y x := by
  have a := times_dist h hx
  have b := times_dist h hy
  by_cases h0 : 0 ≤ timesF nd l x y
  · have h1 := b.least x _ ((a.walk y h0).rev (edges_sym l))
    have h2 := a.least y _ ((b.walk x h1.1).rev (edges_sym l))
    omega
  · by_cases h1 : 0 ≤ timesF nd l y x
    · have := a.least y _ ((b.walk x h1).rev (edges_sym l)); omega
    · rw [a.none y (by omega), b.none x (by omega)]
theorem times_bd (h : Fits nd l) (hl : l.length ≤ 40) (k : Nat) (v : Nat) : passN (edges l) k (start x) v ≤ 288000 * k := by
  have h1 := passN_bd (x := x) (edges_good h) (m := 3600) (by omega) (edges_le h) k v
  have h2 : (3600 : Int) * ((edges l).length : Int) * (k : Int) ≤ 288000 * k := Int.mul_le_mul_of_nonneg_right (by rw [length_edges]; omega) (by omega)
  omega
theorem times_lo (h : Fits nd l) (k : Nat) (v : Nat) : -1 ≤ passN (edges l) k (start x) v := by
  have := (passN_inv (x := x) (edges_good h).pos k).none v
  omega
end

theorem passE_append (F G : List Edge) (d : Nat → Int) : passE (F ++ G) d = passE G (passE F d) := by simp [passE]
theorem mid_bd {nd : Nat} {l : List (Int × Int × Int)} {x : Nat} (h : Fits nd l) (hl : l.length ≤ 40) {K : Nat} (hK : K ≤ 14) {F : List Edge} (hF : ∀ e ∈ F, e ∈ edges l) (hn : F.length ≤ 100) (v : Nat) :
    -1 ≤ passE F (passN (edges l) K (start x)) v ∧ passE F (passN (edges l) K (start x)) v ≤ 5000000 := by
  have h1 := passE_bd (edges_good h) (m := 3600) (by omega) F (passN (edges l) K (start x)) (288000 * K) (fun e he => edges_le h e (hF e he)) (times_bd h hl K) v
  have h2 := (foldl_inv (x := x) (edges_good h).pos F _ hF (passN_inv (edges_good h).pos K)).none v
  omega
theorem edges_take_succ {l : List (Int × Int × Int)} {j : Nat} {t : Int × Int × Int} (h : l[j]? = some t) : edges (l.take (j + 1)) = edges (l.take j) ++ edgeOf t := by
  rw [List.take_add_one, h]
  simp [edges]
theorem edges_take_sub {l : List (Int × Int × Int)} {j : Nat} {e : Edge} (h : e ∈ edges (l.take j)) : e ∈ edges l := by
  rw [mem_edges] at *
  obtain ⟨t, ht, h⟩ := h
  exact ⟨t, List.mem_of_mem_take ht, h⟩
theorem edgeOf_sub {l : List (Int × Int × Int)} {j : Nat} {t : Int × Int × Int} (h : l[j]? = some t) {e : Edge} (he : e ∈ edgeOf t) : e ∈ edges l := List.mem_flatMap.2 ⟨t, List.mem_of_getElem? h, he⟩

/-- A round till nothing fires: what has been gone over, and whether something has fired. -/
structure Run (nd K : Nat) (D0 : Nat → Int) (F : List Edge) (D : Nat → Int) (f : Bool) : Prop where
  eq : D = passE F D0
  fired : f = true → K < nd
  still : f = false → D = D0 ∧ ∀ e ∈ F, quietE D0 e
theorem Run.init (nd K : Nat) (D0 : Nat → Int) : Run nd K D0 [] D0 false := ⟨rfl, fun h => (by cases h), fun _ => ⟨rfl, by simp⟩⟩
theorem Run.quiet {nd K : Nat} {D0 D : Nat → Int} {F : List Edge} {f : Bool} (h : Run nd K D0 F D f) {e : Edge} (hq : quietE D e) : Run nd K D0 (F ++ [e]) D f := by
  refine ⟨?_, h.fired, fun hf => ?_⟩
  · rw [passE_append, ← h.eq]
    show D = stepE D e
    rw [stepE_quiet hq]
  · obtain ⟨h1, h2⟩ := h.still hf
    refine ⟨h1, fun e' he' => ?_⟩
    rcases List.mem_append.1 he' with he' | he'
    · exact h2 e' he'
    · simp at he'; subst he'; rw [← h1]; exact hq
theorem Run.fire {nd K x : Nat} {l : List (Int × Int × Int)} {D : Nat → Int} {F : List Edge} {f : Bool} (hf : Fits nd l) (hx : x < nd) (hK : K ≤ nd) (h : Run nd K (passN (edges l) K (start x)) F D f) {e : Edge} (he : e ∈ edges l) (hq : ¬ quietE D e) :
    Run nd K (passN (edges l) K (start x)) (F ++ [e]) (stepE D e) true := by
  refine ⟨by rw [passE_append, ← h.eq]; rfl, fun _ => ?_, fun h => by cases h⟩
  cases hb : f with
  | true => exact h.fired hb
  | false =>
    by_cases hn : K = nd
    · subst hn
      have := (times_dist hf hx).quiet he
      rw [(h.still hb).1] at hq
      exact absurd this hq
    · omega
theorem Run.done {nd K x : Nat} {l : List (Int × Int × Int)} {D : Nat → Int} (hf : Fits nd l) (hx : x < nd) (h : Run nd K (passN (edges l) K (start x)) (edges l) D false) : D = timesF nd l x := by
  obtain ⟨h1, h2⟩ := h.still rfl
  have hd := times_dist hf hx
  rw [h1]
  exact IsDist.unique (quiet_isDist (edges_good hf) (passN_inv (edges_good hf).pos K) (passN_zero (edges_good hf) hd K) h2) hd

/-- The place of a street; -1 where there is none. -/
def isSt (a b : Int) (t : Int × Int × Int) : Bool := decide (t.1 = min a b) && decide (t.2.1 = max a b)
def stFind (l : List (Int × Int × Int)) (a b : Int) : Int := findI (isSt a b) l
def secOf (l : List (Int × Int × Int)) (i : Int) : Int := match l[i.toNat]? with | some t => t.2.2 | none => 0
theorem isSt_comm (a b : Int) : isSt a b = isSt b a := by funext t; simp only [isSt, Int.min_comm a b, Int.max_comm a b]

/-- No two streets of the same nodes. -/
theorem streets_once {nd : Int} {l : List (Int × Int × Int)} (h : chainB (fitB nd) befB l = true) : ∀ (i j : Nat) (s t : Int × Int × Int), i < j → l[i]? = some s → l[j]? = some t → befB s t = true := by
  intro i j
  induction j with
  | zero => intro s t hlt; omega
  | succ j ih =>
    intro s t hlt hi hj
    obtain ⟨u, hu⟩ : ∃ u, l[j]? = some u := ⟨l[j]'(by have := (List.getElem?_eq_some_iff.1 hj).1; omega), List.getElem?_eq_getElem _⟩
    have h1 := chainB_next h hj hu
    by_cases hij : i = j
    · subst hij; rw [hi] at hu; cases hu; exact h1
    · have h2 := ih s u (by omega) hi hu
      obtain ⟨a0, a1, a2⟩ := s
      obtain ⟨b0, b1, b2⟩ := t
      obtain ⟨c0, c1, c2⟩ := u
      simp only [befB, Bool.or_eq_true, Bool.and_eq_true, decide_eq_true_eq] at *
      omega
theorem stFind_at {nd : Int} {l : List (Int × Int × Int)} (h : chainB (fitB nd) befB l = true) {i : Nat} {t : Int × Int × Int} {a b : Int} (hi : l[i]? = some t) (ht : isSt a b t = true) : stFind l a b = i := by
  refine findI_at hi ht fun j s hj hs => ?_
  have h1 := streets_once h j i s t hj hs hi
  cases hc : isSt a b s with
  | false => rfl
  | true =>
    simp only [isSt, befB, Bool.or_eq_true, Bool.and_eq_true, decide_eq_true_eq] at *
    omega

/-- Whether a node comes next on the way, and the first that does. -/
def nextB (l : List (Int × Int × Int)) (D : Nat → Int) (a i : Nat) : Bool := !decide (i = a) && decide (0 ≤ stFind l a i) && decide (0 ≤ D i) && decide (D i + secOf l (stFind l a i) = D a)
def nextF (nd : Nat) (l : List (Int × Int × Int)) (D : Nat → Int) (a : Nat) : Nat := ((List.range nd).find? (nextB l D a)).getD 0
def routeL (nd : Nat) (l : List (Int × Int × Int)) (D : Nat → Int) (to : Nat) : Nat → Nat → List Nat
  | 0, a => [a]
  | k + 1, a => if a = to then [a] else a :: routeL nd l D to k (nextF nd l D a)

section
variable {nd : Nat} {l : List (Int × Int × Int)} {to : Nat} {D : Nat → Int}
theorem next_some (h : Fits nd l) (hc : chainB (fitB nd) befB l = true) (hd : IsDist (edges l) to D) {a : Nat} (h0 : 0 ≤ D a) (hne : a ≠ to) : ∃ i, i < nd ∧ nextB l D a i = true := by
  obtain ⟨e, he, hev, he0, hD⟩ := hd.pred h0 hne
  have hlt := ((edges_good h).lt e he).1
  have hpos := (edges_good h).pos e he
  rw [mem_edges] at he
  obtain ⟨t, ht, he⟩ := he
  have hf := fitB_iff.1 (h t ht)
  obtain ⟨i, hi⟩ := List.mem_iff_getElem?.1 ht
  have hst : isSt a e.1 t = true := by
    simp only [isSt, Bool.and_eq_true, decide_eq_true_eq]
    rcases he with rfl | rfl <;> (simp only at hev ⊢; omega)
  have hs := stFind_at hc hi hst
  have h2 : e.2.2 = t.2.2 := by rcases he with rfl | rfl <;> rfl
  refine ⟨e.1, hlt, ?_⟩
  simp only [nextB, hs, secOf, Int.toNat_natCast, hi, Bool.and_eq_true, decide_eq_true_eq, Bool.not_eq_true', decide_eq_false_iff_not]
  refine ⟨⟨⟨?_, by omega⟩, he0⟩, by rw [← h2, ← hD]⟩
  rintro heq
  rw [heq] at hD
  omega
theorem find_range {p : Nat → Bool} {n i : Nat} (hi : i < n) (hp : p i = true) (hmin : ∀ j, j < i → p j = false) : (List.range n).find? p = some i := by
  rw [List.find?_range_eq_some]
  exact ⟨hp, by simpa using hi, fun j hj => by simp [hmin j hj]⟩
theorem nextF_eq {a i : Nat} (hi : i < nd) (hp : nextB l D a i = true) (hmin : ∀ j, j < i → nextB l D a j = false) : nextF nd l D a = i := by
  rw [nextF, find_range hi hp hmin, Option.getD_some]
theorem nextF_spec {a : Nat} (h : ∃ i, i < nd ∧ nextB l D a i = true) : nextF nd l D a < nd ∧ nextB l D a (nextF nd l D a) = true ∧ ∀ j, j < nextF nd l D a → nextB l D a j = false := by
  obtain ⟨i, hi⟩ := h
  obtain ⟨m, ⟨hm1, hm2⟩, hmin⟩ := least (P := fun i => i < nd ∧ nextB l D a i = true) i hi
  have hmin' : ∀ j, j < m → nextB l D a j = false := fun j hj => by
    cases hc : nextB l D a j with
    | false => rfl
    | true => have := hmin j ⟨by omega, hc⟩; omega
  rw [nextF_eq hm1 hm2 hmin']
  exact ⟨hm1, hm2, hmin'⟩
theorem nextB_lt (h : Fits nd l) {a i : Nat} (hn : nextB l D a i = true) : 0 ≤ D i ∧ D i < D a ∧ 0 ≤ stFind l a i := by
  simp only [nextB, Bool.and_eq_true, decide_eq_true_eq] at hn
  obtain ⟨⟨⟨h1, h2⟩, h3⟩, h4⟩ := hn
  refine ⟨h3, ?_, h2⟩
  rcases findI_cases (isSt (a : Int) i) l with hf | ⟨k, t, hf, hk, _⟩
  · rw [stFind, hf] at h2; omega
  · have ht := fitB_iff.1 (h t (List.mem_of_getElem? hk))
    have hk' : l[k]? = some t := hk
    rw [stFind, hf, secOf] at h4
    simp only [Int.toNat_natCast, hk'] at h4
    omega
/-- More fuel than the travel time changes nothing. -/
theorem routeL_fuel (h : Fits nd l) (hc : chainB (fitB nd) befB l = true) (hd : IsDist (edges l) to D) : ∀ (k m a : Nat), 0 ≤ D a → D a ≤ k → D a ≤ m → routeL nd l D to k a = routeL nd l D to m a := by
  intro k
  induction k with
  | zero =>
    intro m a h0 hk hm
    have hz : D a = 0 := by omega
    by_cases ha : a = to
    · cases m with
      | zero => rfl
      | succ m => simp [routeL, ha]
    · obtain ⟨e, he, _, he0, hD⟩ := hd.pred h0 ha
      have := (edges_good h).pos e he
      omega
  | succ k ih =>
    intro m a h0 hk hm
    by_cases ha : a = to
    · cases m with
      | zero => simp [routeL, ha]
      | succ m => simp [routeL, ha]
    · obtain ⟨h1, h2, _⟩ := nextF_spec (next_some h hc hd h0 ha)
      obtain ⟨h3, h4, _⟩ := nextB_lt h h2
      cases m with
      | zero => omega
      | succ m =>
        simp only [routeL, if_neg ha]
        rw [ih m _ h3 (by omega) (by omega)]
end
end Go.Proofs.YtbhnaakknfienaaGreatDoor

/- Travel times, plain: relaxing all streets, once for each node, comes to the least weights of walks; behind that nothing turns. -/
namespace Go.Proofs.YtbhnaakknfienaaGreatDoor
set_option linter.unusedVariables false

def upd (d : Nat → Int) (i : Nat) (x : Int) : Nat → Int := fun j => if j = i then x else d j
/-- One way of a street. -/
def way (a b : Nat) (s : Int) (d : Nat → Int) : Nat → Int := if 0 ≤ d a ∧ (d b < 0 ∨ d a + s < d b) then upd d b (d a + s) else d
abbrev Edge := Nat × Nat × Int
def stepE (d : Nat → Int) (e : Edge) : Nat → Int := way e.1 e.2.1 e.2.2 d
def passE (E : List Edge) (d : Nat → Int) : Nat → Int := E.foldl stepE d
def passN (E : List Edge) : Nat → (Nat → Int) → (Nat → Int)
  | 0, d => d
  | k + 1, d => passE E (passN E k d)
def start (x : Nat) : Nat → Int := fun j => if j = x then 0 else -1

inductive Walk (E : List Edge) (x : Nat) : Nat → Int → Prop
  | here : Walk E x x 0
  | step {u v : Nat} {w s : Int} : Walk E x u w → (u, v, s) ∈ E → Walk E x v (w + s)

structure Good (nd : Nat) (E : List Edge) : Prop where
  lt : ∀ e ∈ E, e.1 < nd ∧ e.2.1 < nd
  pos : ∀ e ∈ E, 1 ≤ e.2.2

theorem Walk.nonneg {nd : Nat} {E : List Edge} (g : Good nd E) {x v : Nat} {w : Int} (h : Walk E x v w) : 0 ≤ w := by
  induction h with
  | here => omega
  | step _ he ih => have := g.pos _ he; simp only at this; omega
theorem Walk.lt {nd : Nat} {E : List Edge} (g : Good nd E) {x v : Nat} {w : Int} (hx : x < nd) (h : Walk E x v w) : v < nd := by
  cases h with
  | here => exact hx
  | step _ he => exact (g.lt _ he).2

/-- d is better than d'. -/
def Bt (d d' : Nat → Int) : Prop := ∀ v, 0 ≤ d' v → 0 ≤ d v ∧ d v ≤ d' v
theorem Bt.refl (d : Nat → Int) : Bt d d := fun v h => ⟨h, Int.le_refl _⟩
theorem Bt.trans {a b c : Nat → Int} (h : Bt a b) (k : Bt b c) : Bt a c := fun v hv => by
  obtain ⟨h1, h2⟩ := k v hv
  obtain ⟨h3, h4⟩ := h v h1
  exact ⟨h3, by omega⟩

theorem stepE_bt (d : Nat → Int) {e : Edge} (hs : 1 ≤ e.2.2) : Bt (stepE d e) d := by
  intro v hv
  unfold stepE way
  split
  · rename_i h
    unfold upd
    split
    · rename_i hv2; subst hv2; omega
    · omega
  · omega
theorem passE_bt : ∀ (E : List Edge) (d : Nat → Int), (∀ e ∈ E, 1 ≤ e.2.2) → Bt (passE E d) d
  | [], d, _ => Bt.refl d
  | e :: E, d, h => by
    have h1 := passE_bt E (stepE d e) (fun e' he' => h e' (List.mem_cons_of_mem _ he'))
    exact h1.trans (stepE_bt d (h e (List.mem_cons_self ..)))

/-- What is finite is a walk's weight; what is not is -1. -/
structure Inv (E : List Edge) (x : Nat) (d : Nat → Int) : Prop where
  walk : ∀ v, 0 ≤ d v → Walk E x v (d v)
  none : ∀ v, d v < 0 → d v = -1
theorem start_inv (E : List Edge) (x : Nat) : Inv E x (start x) := by
  constructor
  · intro v hv
    unfold start at *
    split at hv
    · rename_i h; subst h; rw [if_pos rfl]; exact .here
    · omega
  · intro v hv
    unfold start at *
    split at hv
    · omega
    · rename_i h; rw [if_neg h]
theorem stepE_inv {E : List Edge} {x : Nat} {d : Nat → Int} (h : Inv E x d) {e : Edge} (he : e ∈ E) (hs : 1 ≤ e.2.2) : Inv E x (stepE d e) := by
  unfold stepE way
  split
  · rename_i hc
    constructor
    · intro v hv
      unfold upd at *
      split at hv
      · rename_i hv2; rw [if_pos hv2, hv2]; exact .step (h.walk _ hc.1) he
      · rename_i hv2; rw [if_neg hv2]; exact h.walk v hv
    · intro v hv
      unfold upd at *
      split at hv
      · omega
      · rename_i hv2; rw [if_neg hv2]; exact h.none v hv
  · exact h
theorem foldl_inv {E : List Edge} {x : Nat} (hE : ∀ e ∈ E, 1 ≤ e.2.2) : ∀ (F : List Edge) (d : Nat → Int), (∀ e ∈ F, e ∈ E) → Inv E x d → Inv E x (passE F d)
  | [], d, _, h => h
  | e :: F, d, hF, h => foldl_inv hE F (stepE d e) (fun e' he' => hF e' (List.mem_cons_of_mem _ he')) (stepE_inv h (hF e (List.mem_cons_self ..)) (hE e (hF e (List.mem_cons_self ..))))
theorem passN_inv {E : List Edge} {x : Nat} (hE : ∀ e ∈ E, 1 ≤ e.2.2) : ∀ k, Inv E x (passN E k (start x))
  | 0 => start_inv E x
  | k + 1 => foldl_inv hE E _ (fun _ h => h) (passN_inv hE k)

theorem least {P : Nat → Prop} : ∀ n, P n → ∃ m, P m ∧ ∀ k, P k → m ≤ k := by
  intro n
  induction n using Nat.strongRecOn with
  | ind n ih =>
    intro hn
    by_cases h : ∃ k, k < n ∧ P k
    · obtain ⟨k, hk, hp⟩ := h
      exact ih k hk hp
    · exact ⟨n, hn, fun k hk => by
        by_cases hlt : k < n
        · exact absurd ⟨k, hlt, hk⟩ h
        · omega⟩

/-- The least weight of a walk. -/
theorem exists_dist {nd : Nat} {E : List Edge} (g : Good nd E) (x : Nat) : ∃ D : Nat → Int, (∀ v, 0 ≤ D v → Walk E x v (D v)) ∧ (∀ v, D v < 0 → D v = -1) ∧ ∀ v w, Walk E x v w → 0 ≤ D v ∧ D v ≤ w := by
  have h : ∀ v, ∃ y : Int, (0 ≤ y → Walk E x v y) ∧ (y < 0 → y = -1) ∧ ∀ w, Walk E x v w → 0 ≤ y ∧ y ≤ w := by
    intro v
    by_cases hv : ∃ w, Walk E x v w
    · obtain ⟨w, hw⟩ := hv
      obtain ⟨m, hm, hmin⟩ := least (P := fun n : Nat => Walk E x v (n : Int)) w.toNat (by rw [Int.toNat_of_nonneg (hw.nonneg g)]; exact hw)
      refine ⟨m, fun _ => hm, fun h => by omega, fun w' hw' => ⟨by omega, ?_⟩⟩
      have h0 := hw'.nonneg g
      have := hmin w'.toNat (by rw [Int.toNat_of_nonneg h0]; exact hw')
      omega
    · exact ⟨-1, fun h => by omega, fun _ => rfl, fun w hw => absurd ⟨w, hw⟩ hv⟩
  exact ⟨fun v => Classical.choose (h v), fun v => (Classical.choose_spec (h v)).1, fun v => (Classical.choose_spec (h v)).2.1, fun v => (Classical.choose_spec (h v)).2.2⟩

structure IsDist (E : List Edge) (x : Nat) (D : Nat → Int) : Prop where
  walk : ∀ v, 0 ≤ D v → Walk E x v (D v)
  none : ∀ v, D v < 0 → D v = -1
  least : ∀ v w, Walk E x v w → 0 ≤ D v ∧ D v ≤ w

section
variable {nd : Nat} {E : List Edge} {x : Nat} {D d d' : Nat → Int}
theorem IsDist.zero (h : IsDist E x D) : D x = 0 := by
  have := h.least x 0 .here
  omega
theorem IsDist.closed (h : IsDist E x D) {e : Edge} (he : e ∈ E) (h0 : 0 ≤ D e.1) : 0 ≤ D e.2.1 ∧ D e.2.1 ≤ D e.1 + e.2.2 := h.least _ _ (.step (h.walk _ h0) he)
theorem IsDist.pred (h : IsDist E x D) {v : Nat} (h0 : 0 ≤ D v) (hv : v ≠ x) : ∃ e ∈ E, e.2.1 = v ∧ 0 ≤ D e.1 ∧ D v = D e.1 + e.2.2 := by
  have hw := h.walk v h0
  generalize hD : D v = w at hw
  cases hw with
  | here => exact absurd rfl hv
  | @step u _ w' s hu he =>
    obtain ⟨h1, h2⟩ := h.least u w' hu
    obtain ⟨h3, h4⟩ := h.closed he h1
    exact ⟨_, he, rfl, h1, by simp only at *; omega⟩
theorem IsDist.unique (h : IsDist E x D) (k : IsDist E x d) : D = d := by
  funext v
  by_cases h0 : 0 ≤ D v
  · have h1 := k.least v _ (h.walk v h0)
    have h2 := h.least v _ (k.walk v h1.1)
    omega
  · by_cases h1 : 0 ≤ d v
    · have := h.least v _ (k.walk v h1); omega
    · rw [h.none v (by omega), k.none v (by omega)]
theorem IsDist.bt (h : IsDist E x D) (k : Inv E x d) : Bt D d := fun v hv => h.least v _ (k.walk v hv)
theorem IsDist.stays (h : IsDist E x D) (k : Inv E x d') (b : Bt d' d) {v : Nat} (e : d v = D v) : d' v = D v := by
  by_cases h0 : 0 ≤ D v
  · obtain ⟨h1, h2⟩ := b v (by omega)
    obtain ⟨h3, h4⟩ := h.bt k v h1
    omega
  · by_cases h1 : 0 ≤ d' v
    · have := h.bt k v h1; omega
    · rw [h.none v (by omega), k.none v (by omega)]

theorem pass_settles (g : Good nd E) (h : IsDist E x D) (k : Inv E x d) {e : Edge} (he : e ∈ E) (hu : d e.1 = D e.1) (h0 : 0 ≤ D e.1) (hv : D e.2.1 = D e.1 + e.2.2) : passE E d e.2.1 = D e.2.1 := by
  obtain ⟨E1, E2, hE⟩ := List.append_of_mem he
  have hsub1 : ∀ e' ∈ E1, e' ∈ E := fun e' h' => by rw [hE]; simp [h']
  have hsub2 : ∀ e' ∈ E2, e' ∈ E := fun e' h' => by rw [hE]; simp [h']
  have k1 : Inv E x (passE E1 d) := foldl_inv g.pos E1 d hsub1 k
  have b1 : Bt (passE E1 d) d := passE_bt E1 d (fun e' h' => g.pos e' (hsub1 e' h'))
  have u1 : passE E1 d e.1 = D e.1 := h.stays k1 b1 hu
  have k2 : Inv E x (stepE (passE E1 d) e) := stepE_inv k1 he (g.pos e he)
  have hs := g.pos e he
  have v2 : stepE (passE E1 d) e e.2.1 = D e.2.1 := by
    have hb := h.bt k1 e.2.1
    unfold stepE way
    by_cases hc : 0 ≤ passE E1 d e.1 ∧ (passE E1 d e.2.1 < 0 ∨ passE E1 d e.1 + e.2.2 < passE E1 d e.2.1)
    · rw [if_pos hc]
      unfold upd
      rw [if_pos rfl]
      omega
    · rw [if_neg hc]
      by_cases h1 : 0 ≤ passE E1 d e.2.1
      · have := hb h1
        omega
      · exact absurd ⟨by omega, .inl (by omega)⟩ hc
  have hp : passE E d = passE E2 (stepE (passE E1 d) e) := by
    conv => lhs; rw [hE]
    simp [passE]
  rw [hp]
  exact h.stays (foldl_inv g.pos E2 _ hsub2 k2) (passE_bt E2 _ (fun e' h' => g.pos e' (hsub2 e' h'))) v2

def wrong (nd : Nat) (D d : Nat → Int) : Nat := (List.range nd).countP (fun v => d v != D v)
theorem countP_lt {p q : Nat → Bool} : ∀ (l : List Nat), (∀ v ∈ l, q v = true → p v = true) → (∃ v ∈ l, p v = true ∧ q v = false) → l.countP q < l.countP p
  | [], _, ⟨v, hv, _⟩ => by simp at hv
  | a :: l, h, ⟨v, hv, hp, hq⟩ => by
    rw [List.countP_cons, List.countP_cons]
    have hle : l.countP q ≤ l.countP p := List.countP_mono_left (fun u hu => h u (List.mem_cons_of_mem _ hu))
    rcases List.mem_cons.1 hv with rfl | hv'
    · rw [if_pos hp, if_neg (by simp [hq])]; omega
    · have := countP_lt l (fun u hu => h u (List.mem_cons_of_mem _ hu)) ⟨v, hv', hp, hq⟩
      have ha := h a (List.mem_cons_self ..)
      by_cases hqa : q a = true
      · rw [if_pos hqa, if_pos (ha hqa)]; omega
      · rw [if_neg hqa]; omega

theorem least_by {P : Nat → Prop} (f : Nat → Int) (h0 : ∀ v, P v → 0 ≤ f v) {v : Nat} (hv : P v) : ∃ m, P m ∧ ∀ u, P u → f m ≤ f u := by
  obtain ⟨m, ⟨a, ha, hm⟩, hmin⟩ := least (P := fun n : Nat => ∃ a, P a ∧ f a = n) (f v).toNat ⟨v, hv, by have := h0 v hv; omega⟩
  refine ⟨a, ha, fun u hu => ?_⟩
  have := hmin (f u).toNat ⟨u, hu, by have := h0 u hu; omega⟩
  have := h0 u hu
  omega

theorem wrong_pass (g : Good nd E) (h : IsDist E x D) (k : Inv E x d) (hx : x < nd) (hd : d x = 0) (hw : 0 < wrong nd D d) : wrong nd D (passE E d) < wrong nd D d := by
  obtain ⟨v0, hv0, hv1⟩ := List.countP_pos_iff.1 hw
  have hk' : Inv E x (passE E d) := foldl_inv g.pos E d (fun _ h => h) k
  have hb : Bt (passE E d) d := passE_bt E d g.pos
  have hfin : ∀ v, d v ≠ D v → 0 ≤ D v := by
    intro v hne
    by_cases h0 : 0 ≤ D v
    · exact h0
    · by_cases h1 : 0 ≤ d v
      · have := h.bt k v h1; omega
      · exact absurd (by rw [h.none v (by omega), k.none v (by omega)]) hne
  obtain ⟨v, ⟨hvn, hvw⟩, hmin⟩ := least_by (P := fun v => v < nd ∧ d v ≠ D v) D (fun v hv => hfin v hv.2) (v := v0) ⟨by simpa using hv0, by simpa using hv1⟩
  have hv0' := hfin v hvw
  have hvx : v ≠ x := fun e => hvw (by rw [e, hd, h.zero])
  obtain ⟨e, he, hev, he0, hD⟩ := h.pred hv0' hvx
  have hs := g.pos e he
  have hue : d e.1 = D e.1 := by
    by_cases hc : d e.1 = D e.1
    · exact hc
    · have := hmin e.1 ⟨(g.lt e he).1, hc⟩
      omega
  have hset := pass_settles g h k he hue he0 (by rw [hev]; exact hD)
  rw [hev] at hset
  refine countP_lt _ (fun u hu hq => ?_) ⟨v, by simpa using hvn, by simpa using hvw, by simpa using hset⟩
  by_cases hc : d u = D u
  · have := h.stays hk' hb hc
    simp [this] at hq
  · simpa using hc

theorem passN_zero (g : Good nd E) (h : IsDist E x D) : ∀ k, passN E k (start x) x = 0 := by
  intro k
  have hi : Inv E x (passN E k (start x)) := passN_inv g.pos k
  have h0 : start x x = D x := by rw [h.zero]; simp [start]
  have hb : ∀ k, Bt (passN E k (start x)) (start x) := by
    intro k
    induction k with
    | zero => exact Bt.refl _
    | succ k ih => exact (passE_bt E _ g.pos).trans ih
  rw [h.stays hi (hb k) h0, h.zero]

theorem wrong_passN (g : Good nd E) (h : IsDist E x D) (hx : x < nd) : ∀ k, wrong nd D (passN E k (start x)) ≤ nd - k
  | 0 => by
    have := List.countP_le_length (p := fun v => start x v != D v) (l := List.range nd)
    simpa [wrong, passN] using this
  | k + 1 => by
    have ih := wrong_passN g h hx k
    by_cases h0 : 0 < wrong nd D (passN E k (start x))
    · have := wrong_pass g h (passN_inv g.pos k) hx (passN_zero g h k) h0
      simp only [passN]
      omega
    · have hz : wrong nd D (passN E k (start x)) = 0 := by omega
      have : wrong nd D (passN E (k + 1) (start x)) = 0 := by
        unfold wrong at *
        rw [List.countP_eq_zero] at *
        intro v hv
        have h1 := hz v hv
        have h2 : passN E k (start x) v = D v := by simpa using h1
        have := h.stays (passN_inv g.pos (k + 1)) (passE_bt E (passN E k (start x)) g.pos) h2
        simp [this]
      omega

/-- Behind as many rounds as there are nodes: the least weights. -/
theorem passN_dist (g : Good nd E) (h : IsDist E x D) (hx : x < nd) : passN E nd (start x) = D := by
  have h0 := wrong_passN g h hx nd
  have hz : wrong nd D (passN E nd (start x)) = 0 := by omega
  have hi : Inv E x (passN E nd (start x)) := passN_inv g.pos nd
  funext v
  by_cases hv : v < nd
  · unfold wrong at hz
    rw [List.countP_eq_zero] at hz
    simpa using hz v (by simpa using hv)
  · have h1 : ¬ 0 ≤ passN E nd (start x) v := fun hc => hv ((hi.walk v hc).lt g hx)
    have h2 : ¬ 0 ≤ D v := fun hc => hv ((h.walk v hc).lt g hx)
    rw [hi.none v (by omega), h.none v (by omega)]
theorem passN_isDist (g : Good nd E) (hx : x < nd) : IsDist E x (passN E nd (start x)) := by
  obtain ⟨D, h1, h2, h3⟩ := exists_dist g x
  rw [passN_dist g ⟨h1, h2, h3⟩ hx]
  exact ⟨h1, h2, h3⟩

/-- Nothing fires. -/
def quietE (d : Nat → Int) (e : Edge) : Prop := ¬ (0 ≤ d e.1 ∧ (d e.2.1 < 0 ∨ d e.1 + e.2.2 < d e.2.1))
theorem IsDist.quiet (h : IsDist E x D) {e : Edge} (he : e ∈ E) : quietE D e := by
  rintro ⟨h0, h1⟩
  have := h.closed he h0
  omega
theorem stepE_quiet {e : Edge} (h : quietE d e) : stepE d e = d := by
  unfold stepE way
  rw [if_neg h]
theorem passE_quiet : ∀ (E : List Edge), (∀ e ∈ E, quietE d e) → passE E d = d
  | [], _ => rfl
  | e :: E, h => by
    show passE E (stepE d e) = d
    rw [stepE_quiet (h e (List.mem_cons_self ..))]
    exact passE_quiet E (fun e' h' => h e' (List.mem_cons_of_mem _ h'))
/-- What is quiet and weights of walks, is the least. -/
theorem quiet_isDist (g : Good nd E) (k : Inv E x d) (hd : d x = 0) (hq : ∀ e ∈ E, quietE d e) : IsDist E x d := by
  refine ⟨k.walk, k.none, fun v w hw => ?_⟩
  induction hw with
  | here => omega
  | @step u v w s _ he ih =>
    have := hq _ he
    have h1 := k.none v
    unfold quietE at this
    simp only at this
    by_cases h0 : 0 ≤ d v
    · refine ⟨h0, ?_⟩
      by_cases h2 : d u + s < d v
      · exact absurd ⟨ih.1, .inr h2⟩ this
      · omega
    · exact absurd ⟨ih.1, .inl (by omega)⟩ this

theorem stepE_bd (g : Good nd E) {e : Edge} {m : Int} (hm : e.2.2 ≤ m) (hm0 : 0 ≤ m) {B : Int} (h : ∀ v, d v ≤ B) : ∀ v, stepE d e v ≤ B + m := by
  intro v
  unfold stepE way
  split
  · unfold upd
    split
    · have := h e.1; omega
    · have := h v; omega
  · have := h v; omega
theorem passE_bd (g : Good nd E) {m : Int} (hm0 : 0 ≤ m) : ∀ (F : List Edge) (d : Nat → Int) (B : Int), (∀ e ∈ F, e.2.2 ≤ m) → (∀ v, d v ≤ B) → ∀ v, passE F d v ≤ B + m * F.length
  | [], d, B, _, h, v => by simpa [passE] using h v
  | e :: F, d, B, hF, h, v => by
    have := passE_bd g hm0 F (stepE d e) (B + m) (fun e' h' => hF e' (List.mem_cons_of_mem _ h')) (stepE_bd g (hF e (List.mem_cons_self ..)) hm0 h) v
    rw [List.length_cons]
    have e1 : passE (e :: F) d v = passE F (stepE d e) v := rfl
    rw [e1]
    have e2 : m * ((F.length + 1 : Nat) : Int) = m * (F.length : Int) + m := by rw [Int.natCast_add, Int.mul_add]; simp
    omega
theorem passN_bd (g : Good nd E) {m : Int} (hm0 : 0 ≤ m) (hE : ∀ e ∈ E, e.2.2 ≤ m) : ∀ k v, passN E k (start x) v ≤ m * E.length * k
  | 0, v => by
    simp only [passN, start]
    split <;> simp
  | k + 1, v => by
    have := passE_bd g hm0 E (passN E k (start x)) _ hE (passN_bd g hm0 hE k) v
    have e2 : m * (E.length : Int) * ((k + 1 : Nat) : Int) = m * (E.length : Int) * (k : Int) + m * (E.length : Int) := by rw [Int.natCast_add, Int.mul_add]; simp
    simp only [passN]
    omega
end
end Go.Proofs.YtbhnaakknfienaaGreatDoor

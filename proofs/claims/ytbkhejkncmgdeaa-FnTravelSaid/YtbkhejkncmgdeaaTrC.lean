/- Several texts in one. FnTravel: the plain law. Travel times are those of routes, the same both ways; routes are walks. Draws of towns: the arguments of TravelTime and RouteBetween. Draws of towns: what is known while the arguments of RouteTime are drawn. Draws of towns: the arguments of RouteTime. The laws' own comparison of lists of integers, and their guard on sizes. -/
import Derived.Test.YtbkhejkncmgdeaaTownRe
import Derived.Test.YtbkhejkncmgdeaaTownRu
import Derived.Test.YtbkhejkncmgdeaaTownW
import Derived.Test.YtbkhejkncmgdeaaTrB
import Derived.Test.YtbkhejkncmgdeaaSmall
import Derived.Test.YtbkhejkncmgdeaaRegions
import Derived.Deep.DeepCutAuto
import Derived.Deep.CutBlock
import Derived.Deep.LoopGhost
namespace Go.Proofs.Ytbkhejkncmgdeaa
open Go.RowKit
set_option linter.unusedVariables false

section
variable {k : Nat} {l : List (Int × Int × Int)} {D : Nat → Int} {tgt : Nat}
theorem nextB_parts {a i : Nat} (h : nextB l D a i = true) : i ≠ a ∧ 0 ≤ stFind l a i ∧ 0 ≤ D i ∧ D i + secOf l (stFind l a i) = D a := by
  simp only [nextB, Bool.and_eq_true, decide_eq_true_eq, Bool.not_eq_true', decide_eq_false_iff_not] at h
  exact ⟨h.1.1.1, h.1.1.2, h.1.2, h.2⟩
/-- What a route is made of. -/
structure IsWay (k : Nat) (l : List (Int × Int × Int)) (D : Nat → Int) (x tgt : Nat) (R : List Nat) : Prop where
  first : R[0]? = some x
  last : ∃ m, R.length = m + 1 ∧ R[m]? = some tgt
  lt : ∀ b ∈ R, b < k ∧ 0 ≤ D b ∧ D b ≤ D x
  next : ∀ (i b c : Nat), R[i]? = some b → R[i + 1]? = some c → nextB l D b c = true
theorem rest_way (h : Fits k l) (hc : chainB (fitB k) befB l = true) (hd : IsDist (edges l) tgt D) : ∀ (m a : Nat), a < k → 0 ≤ D a → D a ≤ m → IsWay k l D a tgt (restF k l D tgt a) := by
  intro m
  have hend : ∀ a, a < k → a = tgt → IsWay k l D a tgt (restF k l D tgt a) := by
    rintro a ha rfl
    rw [rest_end hd]
    refine ⟨rfl, ⟨0, rfl, rfl⟩, fun b hb => ?_, fun i b c hb hc => ?_⟩
    · simp at hb
      subst hb
      exact ⟨ha, by rw [hd.zero]; omega, Int.le_refl _⟩
    · simp at hc
  induction m with
  | zero =>
    intro a ha h0 hm
    by_cases hat : a = tgt
    · exact hend a ha hat
    · obtain ⟨h1, h2, h3⟩ := nextF_spec (next_some h hc hd h0 hat)
      have := nextB_lt h h2
      omega
  | succ m ih =>
    intro a ha h0 hm
    by_cases hat : a = tgt
    · exact hend a ha hat
    · obtain ⟨h1, h2, h3⟩ := nextF_spec (next_some h hc hd h0 hat)
      obtain ⟨h4, h5, h6⟩ := rest_step h hc hd h0 hat h1 h2 h3
      have hl := nextB_lt h h2
      have hw := ih _ h1 h5 (by omega)
      rw [h4]
      refine ⟨rfl, ?_, fun b hb => ?_, fun i b c hb hc => ?_⟩
      · obtain ⟨q, hq, hq2⟩ := hw.last
        exact ⟨q + 1, by simp [hq], by simpa using hq2⟩
      · rcases List.mem_cons.1 hb with rfl | hb
        · exact ⟨ha, h0, Int.le_refl _⟩
        · have := hw.lt b hb
          exact ⟨this.1, this.2.1, by omega⟩
      · cases i with
        | zero =>
          simp at hb hc
          rw [hw.first] at hc
          injection hc with hc
          subst hb hc
          exact h2
        | succ i => exact hw.next i b c (by simpa using hb) (by simpa using hc)
theorem IsWay.falls {x : Nat} {R : List Nat} (hf : Fits k l) (h : IsWay k l D x tgt R) : ∀ (d i b c : Nat), R[i]? = some b → R[i + d + 1]? = some c → D c < D b
  | 0, i, b, c, hb, hc => (nextB_lt hf (h.next i b c hb hc)).2.1
  | d + 1, i, b, c, hb, hc => by
    have hlt : i + d + 1 < R.length := by
      have := (List.getElem?_eq_some_iff.1 hc).1
      omega
    have h1 := IsWay.falls hf h d i b R[i + d + 1] hb (List.getElem?_eq_getElem hlt)
    have h2 := (nextB_lt hf (h.next (i + d + 1) R[i + d + 1] c (List.getElem?_eq_getElem hlt) hc)).2.1
    omega
theorem IsWay.rt {x : Nat} {R : List Nat} (hf : Fits k l) (h : IsWay k l D x tgt R) : ∀ (m b : Nat), R[m]? = some b → rtK k l (R.map fun (a : Nat) => (a : Int)) (m + 1) = some (D x - D b) := by
  intro m
  induction m with
  | zero =>
    intro b hb
    rw [h.first] at hb
    injection hb with hb
    subst hb
    have hx := h.lt x (List.mem_of_getElem? h.first)
    rw [rtK_first (s := 0) (x := (x : Int)) rfl (by simp [h.first]) (by rw [nodeB_iff]; omega)]
    congr 1
    omega
  | succ m ih =>
    intro c hc
    have hlt : m < R.length := by
      have := (List.getElem?_eq_some_iff.1 hc).1
      omega
    have hb : R[m]? = some R[m] := List.getElem?_eq_getElem hlt
    generalize R[m] = b at hb
    have hn := nextB_parts (h.next m b c hb hc)
    have hcl := h.lt c (List.mem_of_getElem? hc)
    have hg : (R.map fun (a : Nat) => (a : Int)).getD m 0 = (b : Int) := by simp [List.getD, hb]
    have hh : hasB ((R.map fun (a : Nat) => (a : Int)).take (m + 1)) (c : Int) = false := by
      refine hasB_none fun i y hy e => ?_
      rw [List.getElem?_take] at hy
      split at hy
      · rename_i hi
        rw [List.getElem?_map] at hy
        cases hr : R[i]? with
        | none => rw [hr] at hy; cases hy
        | some q =>
          rw [hr] at hy
          simp at hy
          have hqc : q = c := by omega
          subst hqc
          have := h.falls hf (m - i) i q q hr (by rw [show i + (m - i) + 1 = m + 1 by omega]; exact hc)
          omega
      · cases hy
    rw [rtK_go (ih b hb) (x := (c : Int)) (by simp [hc]) (by rw [nodeB_iff]; omega) hh (by rw [hg]; omega), hg]
    congr 1
    omega
theorem lowC_lt {a : Nat} (ha : a < k) : lowC k D a < k := by
  have := countP_lt (p := fun _ => true) (q := fun v => decide (0 ≤ D v) && decide (D v < D a)) (List.range k) (fun _ _ _ => rfl) ⟨a, by simpa using ha, rfl, by simp⟩
  simpa [lowC] using this
end

theorem tr_one (nd : Int) (l : List (Int × Int × Int)) (i j : Int) : rbOk nd l i j = travOk nd l i j := by
  rw [rbOk, travOk]
  cases hb : bothB nd l i j with
  | false => rfl
  | true =>
    rw [bothB, Bool.and_eq_true] at hb
    obtain ⟨k, x, rfl, rfl, hx, hk⟩ := goodB_ok hb.1
    obtain ⟨y, rfl, hy⟩ := nodeB_ok hb.2
    simp only [Int.toNat_natCast, Bool.true_and]
    have e := times_sym hk.fits hx hy
    simp only [e]
/-- What a travel time gives. -/
structure TrYes (nd : Int) (l : List (Int × Int × Int)) (i j : Int) : Prop where
  good : goodB nd l i = true
  rok : rtOk nd l (rbL nd l i j) = true
  rval : rtV nd l (rbL nd l i j) = travV nd l i j
  bok : travOk nd l j i = true
  bval : travV nd l j i = travV nd l i j
  pos : 0 < (rbL nd l i j).length
  first : (rbL nd l i j)[0]? = some i
  last : (rbL nd l i j)[(rbL nd l i j).length - 1]? = some j
  j0 : 0 ≤ j
  jn : j < nd
  at_ : (timesL nd l i)[j.toNat]? = some (travV nd l i j)
theorem tr_yes {nd : Int} {l : List (Int × Int × Int)} {i j : Int} (h : travOk nd l i j = true) : TrYes nd l i j := by
  have hr : rbOk nd l i j = true := by rw [tr_one]; exact h
  have h' := h
  rw [travOk, Bool.and_eq_true, bothB, Bool.and_eq_true, decide_eq_true_eq] at h'
  obtain ⟨⟨hg, hn⟩, hd0⟩ := h'
  have hv : travV nd l i j = timesF nd.toNat l i.toNat j.toNat := by rw [travV, if_pos h]
  have hL : rbL nd l i j = (restF nd.toNat l (timesF nd.toNat l j.toNat) j.toNat i.toNat).map (fun (a : Nat) => (a : Int)) := by rw [rbL, if_pos hr]
  have hT : timesL nd l i = (List.range nd.toNat).map (timesF nd.toNat l i.toNat) := by rw [timesL, if_pos hg]
  have hg0 := hg
  obtain ⟨k, x, rfl, rfl, hx, hk⟩ := goodB_ok hg
  obtain ⟨y, rfl, hy⟩ := nodeB_ok hn
  have htb : townB k l = true := by rw [goodB, Bool.and_eq_true] at hg0; exact hg0.1
  simp only [Int.toNat_natCast] at hd0 hv hL hT
  have hsym := times_sym hk.fits hx hy
  have hd := times_dist hk.fits hy
  have hD0 : 0 ≤ timesF k l y x := by rw [← hsym]; exact hd0
  have hw := rest_way hk.fits hk.chain hd (timesF k l y x).toNat x hx hD0 (by omega)
  have hlen := rest_short hk.fits hk.chain hd (timesF k l y x).toNat x hD0 (by omega)
  have hlow := lowC_lt (k := k) (D := timesF k l y) hx
  generalize restF k l (timesF k l y) y x = R at *
  obtain ⟨m, hm, hm2⟩ := hw.last
  have hrt := hw.rt hk.fits m y hm2
  have h14 := hk.hi
  have hR : rtR (k : Int) l (rbL (k : Int) l x y) = some (timesF k l y x) := by
    rw [rtR, if_pos, hL, List.length_map, hm]
    · simp only [Int.toNat_natCast]
      rw [hrt, hd.zero]
      congr 1
      omega
    · rw [rtP, htb, hL, List.length_map, Bool.true_and, inB_iff]
      omega
  obtain ⟨r1, r2⟩ := rt_some hR
  have hb : travOk (k : Int) l y x = true := by
    rw [travOk, Bool.and_eq_true, bothB, Bool.and_eq_true, goodB, Bool.and_eq_true, decide_eq_true_eq]
    exact ⟨⟨⟨htb, hn⟩, by rw [nodeB_iff]; omega⟩, by simpa using hD0⟩
  have hbv : travV (k : Int) l y x = timesF k l y x := by rw [travV, if_pos hb]; simp
  refine ⟨hg0, r2, by rw [r1, hv, hsym], hb, by rw [hbv, hv, hsym], by rw [hL, List.length_map]; omega, by rw [hL]; simp [hw.first], ?_, by omega, by omega, ?_⟩
  · rw [hL, List.length_map, hm, Nat.add_sub_cancel, List.getElem?_map, hm2]
    rfl
  · rw [hT, hv]
    simp [hy]
/-- What a node of a good town gives. -/
structure TrNode (nd : Int) (l : List (Int × Int × Int)) (i : Int) : Prop where
  i0 : 0 ≤ i
  own : (timesL nd l i)[i.toNat]? = some 0
  len : ((timesL nd l i).length : Int) = nd
  hi : nd ≤ 14
  street : ∀ t ∈ l, ∃ a b : Int, 0 ≤ t.1 ∧ 0 ≤ t.2.1 ∧ t.1 < nd ∧ t.2.1 < nd ∧ (timesL nd l i)[t.1.toNat]? = some a ∧ (timesL nd l i)[t.2.1.toNat]? = some b ∧ (-1 ≤ a ∧ a ≤ 5000000) ∧ (-1 ≤ b ∧ b ≤ 5000000) ∧ (1 ≤ t.2.2 ∧ t.2.2 ≤ 3600) ∧ (a < 0 ↔ b < 0) ∧ (0 ≤ a → a ≤ b + t.2.2 ∧ b ≤ a + t.2.2)
theorem tr_node {nd : Int} {l : List (Int × Int × Int)} {i : Int} (h : goodB nd l i = true) : TrNode nd l i := by
  have hT : timesL nd l i = (List.range nd.toNat).map (timesF nd.toNat l i.toNat) := by rw [timesL, if_pos h]
  obtain ⟨k, x, rfl, rfl, hx, hk⟩ := goodB_ok h
  simp only [Int.toNat_natCast] at hT
  have hd := times_dist hk.fits hx
  have h14 := hk.hi
  refine ⟨by omega, by rw [hT]; simp [hx, hd.zero], by rw [hT]; simp, by omega, fun t ht => ?_⟩
  have hf := fitB_iff.1 (hk.fits t ht)
  obtain ⟨t0, t1, t2⟩ := t
  simp only at hf
  obtain ⟨p, rfl⟩ := Int.eq_ofNat_of_zero_le (show 0 ≤ t0 by omega)
  obtain ⟨q, rfl⟩ := Int.eq_ofNat_of_zero_le (show 0 ≤ t1 by omega)
  have hp : p < k := by omega
  have hq : q < k := by omega
  have e1 : (p, q, t2) ∈ edges l := mem_edges.2 ⟨_, ht, .inl (by simp)⟩
  have e2 : (q, p, t2) ∈ edges l := mem_edges.2 ⟨_, ht, .inr (by simp)⟩
  have c1 := fun h0 => hd.closed e1 h0
  have c2 := fun h0 => hd.closed e2 h0
  have b1 := times_bd (x := x) hk.fits hk.len k p
  have b2 := times_bd (x := x) hk.fits hk.len k q
  have l1 := times_lo (x := x) hk.fits k p
  have l2 := times_lo (x := x) hk.fits k q
  simp only at c1 c2
  refine ⟨timesF k l x p, timesF k l x q, by simp only; omega, by simp only; omega, by simp only; omega, by simp only; omega, by rw [hT]; simp [hp], by rw [hT]; simp [hq], ⟨l1, ?_⟩, ⟨l2, ?_⟩, ⟨by simp only; omega, by simp only; omega⟩, ?_, ?_⟩
  · unfold timesF; omega
  · unfold timesF; omega
  · constructor
    · intro h1
      rcases Int.lt_or_le (timesF k l x q) 0 with h2 | h2
      · exact h2
      · have := c2 h2; omega
    · intro h1
      rcases Int.lt_or_le (timesF k l x p) 0 with h2 | h2
      · exact h2
      · have := c1 h2; omega
  · intro h0
    have h1 := c1 h0
    have h2 := c2 h1.1
    simp only
    omega
/-- A route is a walk. -/
theorem rt_walk {k : Nat} {l : List (Int × Int × Int)} {R : List Int} (hf : Fits k l) {x : Int} (hx : R[0]? = some x) : ∀ (m : Nat) (s y : Int), R[m]? = some y → rtK k l R (m + 1) = some s → Walk (edges l) x.toNat y.toNat s ∧ nodeB k y = true := by
  intro m
  induction m with
  | zero =>
    intro s y hy h
    rw [hx] at hy
    injection hy with hy
    subst hy
    cases hn : nodeB k x with
    | false => rw [rtK_bad hx (.inl hn)] at h; cases h
    | true =>
      rw [rtK_first (s := 0) rfl hx hn] at h
      injection h with h
      subst h
      exact ⟨.here, rfl⟩
  | succ m ih =>
    intro s y hy h
    have hlt : m < R.length := by
      have := (List.getElem?_eq_some_iff.1 hy).1
      omega
    have hz : R[m]? = some R[m] := List.getElem?_eq_getElem hlt
    generalize R[m] = z at hz
    cases hr : rtK k l R (m + 1) with
    | none => rw [rtK_none hr (m + 1 + 1) (by omega)] at h; cases h
    | some s' =>
      obtain ⟨hw, hzn⟩ := ih s' z hz hr
      have hg : R.getD m 0 = z := getD_at hz
      cases hn : nodeB k y with
      | false => rw [rtK_bad hy (.inl hn)] at h; cases h
      | true =>
        cases hh : hasB (R.take (m + 1)) y with
        | true => rw [rtK_bad hy (.inr hh)] at h; cases h
        | false =>
          by_cases hs : stFind l (R.getD m 0) y < 0
          · rw [rtK_no hy hs] at h; cases h
          · rw [rtK_go hr hy hn hh hs, hg] at h
            injection h with h
            rw [hg] at hs
            rcases findI_cases (isSt z y) l with hf' | ⟨q, t, hq, hqt, hst⟩
            · rw [stFind, hf'] at hs
              omega
            · have hsec : secOf l (stFind l z y) = t.2.2 := by rw [stFind, hq]; exact sec_at hqt
              rw [hsec] at h
              subst h
              refine ⟨.step hw (mem_edges.2 ⟨t, List.mem_of_getElem? hqt, ?_⟩), rfl⟩
              simp only [isSt, Bool.and_eq_true, decide_eq_true_eq] at hst
              have hzn' := nodeB_iff.1 hzn
              have hyn' := nodeB_iff.1 hn
              rcases Int.le_total z y with hzy | hzy
              · left
                rw [show t.1 = z by omega, show t.2.1 = y by omega]
              · right
                rw [show t.1 = y by omega, show t.2.1 = z by omega]
/-- What a route's time gives. -/
structure TrRoute (nd : Int) (l : List (Int × Int × Int)) (R : List Int) (a b : Int) : Prop where
  pos : 0 < R.length
  hi : R.length ≤ 14
  first : R[0]? = some a
  last : R[R.length - 1]? = some b
  ok : travOk nd l a b = true
  le : travV nd l a b ≤ rtV nd l R
theorem tr_route {nd : Int} {l : List (Int × Int × Int)} {R : List Int} (h : rtOk nd l R = true) : ∃ a b, TrRoute nd l R a b := by
  rw [rtOk, Option.isSome_iff_exists] at h
  obtain ⟨s, hs⟩ := h
  have hV := (rt_some hs).1
  rw [rtR] at hs
  split at hs
  · rename_i hP
    rw [rtP, Bool.and_eq_true, inB_iff] at hP
    obtain ⟨htb, h1, h14⟩ := hP
    have htb' := htb
    obtain ⟨k, rfl, hk⟩ := townB_ok htb
    simp only [Int.toNat_natCast] at hs
    obtain ⟨m, hm⟩ : ∃ m, R.length = m + 1 := ⟨R.length - 1, by omega⟩
    have hx : R[0]? = some R[0] := List.getElem?_eq_getElem (by omega)
    have hy : R[m]? = some R[m] := List.getElem?_eq_getElem (by omega)
    generalize R[0] = x at hx
    generalize R[m] = y at hy
    rw [hm] at hs
    obtain ⟨hw, hyn⟩ := rt_walk hk.fits hx m s y hy hs
    have hall := rtK_all (m + 1) s (by omega) hs
    have hxn : nodeB k x = true := List.all_eq_true.1 hall x (by
      rw [show m + 1 = R.length by omega, List.take_length]
      exact List.mem_of_getElem? hx)
    obtain ⟨a, rfl, ha⟩ := nodeB_ok hxn
    obtain ⟨b, rfl, hb⟩ := nodeB_ok hyn
    simp only [Int.toNat_natCast] at hw
    have hd := (times_dist hk.fits ha).least b s hw
    have hok : travOk (k : Int) l a b = true := by
      rw [travOk, Bool.and_eq_true, bothB, Bool.and_eq_true, goodB, Bool.and_eq_true, decide_eq_true_eq]
      exact ⟨⟨⟨htb', hxn⟩, hyn⟩, by simpa using hd.1⟩
    refine ⟨a, b, by omega, by omega, hx, by rw [hm, Nat.add_sub_cancel]; exact hy, hok, ?_⟩
    rw [hV, travV, if_pos hok]
    simpa using hd.2
  · cases hs
end Go.Proofs.Ytbkhejkncmgdeaa
namespace Go.Proofs.Ytbkhejkncmgdeaa
open Go.RowKit
set_option linter.unusedVariables false

theorem drw_new (w : World) (A : Option Addr) (n c : Nat) (code : List Int) (t : TypeId) (hn : n = code.length) (hm : n ≤ maxLen) (hb : ∀ x ∈ code, 0 ≤ x ∧ x ≤ 255) (hr : Rd w A (code.map (Value.int .u8))) :
    (Drw.mk w w.heap.size A n c code).ok ∧ (Drw.mk w w.heap.size A n c code).st 0 (w.alloc (.cells #[.slice A n c, .int .i64 0, .int .u64 0] t)) :=
  ⟨⟨hn, hm, hb, hr, Nat.le_refl _⟩, (Below.refl _ _).alloc (Nat.le_refl _) _, 0, 0, Nat.le_refl _, ⟨by omega, by omega⟩, Row.new w _ t⟩
/-- A drawer that begins behind the result's cell. -/
theorem drw_town (w : World) (A : Option Addr) (n c : Nat) (code : List Int) (hn : n = code.length) (hm : n ≤ maxLen) (hb : ∀ x ∈ code, 0 ≤ x ∧ x ≤ 255) (hr : Rd w A (code.map (Value.int .u8))) :
    ∃ d : Drw, d.W0 = w.alloc (.cells #[.int .i64 0, .slice none 0 0] 30) ∧ d.g = w.heap.size + 1 ∧ d.ok ∧ d.st 0 ((w.alloc (.cells #[.int .i64 0, .slice none 0 0] 30)).alloc (.cells #[.slice A n c, .int .i64 0, .int .u64 0] 80)) ∧
      Row ((w.alloc (.cells #[.int .i64 0, .slice none 0 0] 30)).alloc (.cells #[.slice A n c, .int .i64 0, .int .u64 0] 80)) w.heap.size [.int .i64 0, .slice none 0 0] := by
  have h := drw_new (w.alloc (.cells #[.int .i64 0, .slice none 0 0] 30)) A n c code 80 hn hm hb (hr.alloc _)
  exact ⟨_, rfl, by simp, h.1, h.2, (Row.new w _ _).alloc _⟩
theorem drw_below {d : Drw} {w w' : World} {N : Nat} (hW : d.W0 = w.alloc (.cells #[.int .i64 0, .slice none 0 0] 30)) (hs : d.st N w') : Below w.heap.size w w' := by
  have := hs.1
  rw [hW] at this
  exact below_step (below_alloc (Below.refl _ _) _) this

set_option maxRecDepth 100000 in
set_option maxHeartbeats 8000000 in
theorem DrawTravelTime_any (A : Option Addr) (n c : Nat) (code : List Int) (w : World) (hn : n = code.length) (hm : n ≤ maxLen) (hb : ∀ x ∈ code, 0 ≤ x ∧ x ≤ 255) (hr : Rd w A (code.map (Value.int .u8))) :
    Calls Try.prog 43 #[.slice A n c] w fun e w' => (∃ (nd : Int) (A' : Option Addr) (c' : Nat) (l : List StT) (i j : Int), e = .returned (.tuple #[.agg #[.int .i64 nd, .slice A' l.length c'], .int .i64 i, .int .i64 j]) ∧ l.length ≤ 41 ∧ w'.ownsRow w.heap.size 34 3 (.slice A' l.length c') l.length (l.flatMap tcells)) ∧ Below w.heap.size w w' := by
  obtain ⟨d, hW, hg, hok, hst, hres⟩ := drw_town w A n c code hn hm hb hr
  have HW := hide hW
  have HGE := hide hg.symm
  have HOK := hide hok
  have HS := hide hst
  have HR := hide hres
  clear hn hm hb hr hW hg hok hst hres
  go_enter Try.func43, Try.ntmps43
  go_wp2_with fail
  rw [HGE.out]
  refine (anyTown_any d 0 _ HOK.out HS.out (by omega)).mono ?_
  rintro e w1 ⟨⟨nd, A', c', l, rfl, -, hl, ho⟩, hs, hg⟩
  have HL := hide hl
  have HNE := hide (show w.heap.size ≠ d.g by have := HGE.out; omega)
  replace HR := hide (HR.out.grown hg (fun e => by injection e with e; exact HNE.out e))
  have HO := hide (own_le (B' := w.heap.size + 1 + 1) ho (by simp))
  replace HS := hide hs
  clear hl ho hs hg
  go_wp2_with fail
  have HB := hide (Row.new w1 #[.int .i64 nd, .slice A' l.length c'] 30)
  replace HR := hide (HR.out.alloc (.cells #[.int .i64 nd, .slice A' l.length c'] 30))
  have HO2 := hide (World.ownsRow.alloc HO.out (.cells #[.int .i64 nd, .slice A' l.length c'] 30))
  have HBG := hide (show w1.heap.size ≠ d.g by have := HS.out.lt; omega)
  have HBR := hide (show w1.heap.size ≠ w.heap.size by have := HR.out.1; have := HS.out.lt; have := HGE.out; omega)
  have HOG := hide (show ∀ q, (Value.slice A' l.length c').ownBlock = some q → w.heap.size + 1 + 1 ≤ q ∧ q < w1.heap.size from fun q hq => HO.out.lt q hq)
  replace HS := hide (HS.out.alloc (.cells #[.int .i64 nd, .slice A' l.length c'] 30))
  clear HO
  generalize w1.alloc (.cells #[.int .i64 nd, .slice A' l.length c'] 30) = w2 at *
  generalize w1.heap.size = tb at *
  have t0 := HB.out.2.1 0 _ rfl
  have t1 := HB.out.2.1 1 _ rfl
  have tz := HB.out.1
  have tg := HBG.out
  refine wpAnyX_start (fun w' => ∃ n : LaterX w2 d.g, w' = n.w) [7] (n := 10) (by kernel_rfl) rfl rfl ?_
  refine wpAnyX_take [0, 1, 2, 4, 5] 5 rfl (by kernel_rfl) (by intro c a d v w h; cases d <;> exact h) (by kernel_rfl) (by kernel_rfl) (by kernel_rfl) (by simp; rfl) rfl (laterX_drew _ _) ?_
  repeat (go_big_quiet_step (fail))
  refine wpQuiet_nil ?_
  clear t0 t1 tz tg
  have HG : Hid (w2.grownBy w2.drew (some d.g)) := hide (grown_of_below (Below.refl _ _).drew _)
  replace HS := hide HS.out.drew
  replace HR := hide HR.out.drew
  have HO := hide (show w2.drew.ownsRow (w.heap.size + 1 + 1) 34 3 (.slice A' l.length c') l.length (l.flatMap tcells) from HO2.out)
  clear HO2 HB
  generalize w2.drew = V0 at *
  refine wpAnyX_only 3 (by kernel_rfl) (by simp; rfl) rfl rfl (fun K hK => ?_)
  go_wp2_with fail
  refine (nodeOf_any d (5000 + 0) nd A' l.length c' _ HOK.out (HS.out.more (by omega)) (by omega)).mono ?_
  rintro e V1 ⟨⟨i, rfl, -⟩, hs, hg⟩
  replace HS := hide hs
  replace HR := hide (HR.out.grown hg (fun e => by injection e with e; exact HNE.out e))
  replace HO := hide (own_far HO.out hg (by have := HGE.out; omega))
  replace HG := hide (grown_trans HG.out hg)
  clear hs hg
  go_wp2_with fail
  refine ⟨laterX_of HG.out, ?_⟩
  refine wpAnyX_only 6 (by kernel_rfl) (by simp; rfl) rfl rfl (fun K hK => ?_)
  go_wp2_with fail
  refine (nodeOf_any d (5000 + 14) nd A' l.length c' _ HOK.out (HS.out.more (by omega)) (by omega)).mono ?_
  rintro e V2 ⟨⟨j, rfl, -⟩, hs, hg⟩
  replace HS := hide hs
  replace HR := hide (HR.out.grown hg (fun e => by injection e with e; exact HNE.out e))
  replace HO := hide (own_far HO.out hg (by have := HGE.out; omega))
  replace HG := hide (grown_trans HG.out hg)
  clear hs hg
  go_wp2_with fail
  refine ⟨laterX_of HG.out, ?_⟩
  refine wpAnyX_last 7 (by kernel_rfl) (by simp; rfl) rfl rfl (by kernel_rfl) (fun K hK => ?_)
  have r0 := HR.out.2.1 0 _ rfl
  have r1 := HR.out.2.1 1 _ rfl
  have f0 := HR.out.free 0
  have f1 := HR.out.free 1
  have rz := HR.out.1
  have HB9 : Hid (Below w.heap.size w ((V2.setCell ⟨w.heap.size, 0, none⟩ (.int .i64 nd)).setCell ⟨w.heap.size, 1, none⟩ (.slice A' l.length c'))) := hide (((drw_below HW.out HS.out).setCell (Nat.le_refl _) _).setCell (Nat.le_refl _) _)
  have HO9 := hide (own_put (p := ⟨w.heap.size, 1, none⟩) (own_put (p := ⟨w.heap.size, 0, none⟩) HO.out (fun q hq => by have := HOG.out q hq; simp only; omega) (.int .i64 nd)) (fun q hq => by have := HOG.out q hq; simp only; omega) (.slice A' l.length c'))
  have HR9 := hide ((HR.out.set (k := 0) (by simp) (.int .i64 nd)).set (k := 1) (by simp) (.slice A' l.length c'))
  go_wp2_with fail
  clear r0 r1 f0 f1 rz HR HO HS HG
  generalize (V2.setCell ⟨w.heap.size, 0, none⟩ (.int .i64 nd)).setCell ⟨w.heap.size, 1, none⟩ (.slice A' l.length c') = V3 at *
  refine wpAnyX_last 8 (by kernel_rfl) (by simp; rfl) rfl rfl (by kernel_rfl) (fun K hK => ?_)
  go_wp2_with fail
  refine wpAnyX_last 9 (by kernel_rfl) (by simp; rfl) rfl rfl (by kernel_rfl) (fun K hK => ?_)
  go_wp2_with fail
  refine wpAnyX_done (by kernel_rfl) ?_ _
  have r0 := HR9.out.2.1 0 _ rfl
  have r1 := HR9.out.2.1 1 _ rfl
  have rz := HR9.out.1
  go_wp2
  exact bodyPost_ret (v := .tuple #[.agg #[.int .i64 nd, .slice A' l.length c'], .int .i64 i, .int .i64 j]) (by simp [results, Try.results43, go_sem, *]) rfl ⟨⟨nd, A', c', l, i, j, rfl, HL.out, own_le HO9.out (by omega)⟩, HB9.out⟩

set_option maxHeartbeats 4000000 in
theorem DrawRouteBetween_any (A : Option Addr) (n c : Nat) (code : List Int) (w : World) (hn : n = code.length) (hm : n ≤ maxLen) (hb : ∀ x ∈ code, 0 ≤ x ∧ x ≤ 255) (hr : Rd w A (code.map (Value.int .u8))) :
    Calls Try.prog 14 #[.slice A n c] w fun e w' => (∃ (nd : Int) (A' : Option Addr) (c' : Nat) (l : List StT) (i j : Int), e = .returned (.tuple #[.agg #[.int .i64 nd, .slice A' l.length c'], .int .i64 i, .int .i64 j]) ∧ l.length ≤ 41 ∧ w'.ownsRow w.heap.size 34 3 (.slice A' l.length c') l.length (l.flatMap tcells)) ∧ Below w.heap.size w w' := by
  have Q := hide (DrawTravelTime_any A n c code (w.alloc (.cells #[.int .i64 0, .slice none 0 0] 30)) hn hm hb (hr.alloc _))
  have HR := hide (Row.new w #[.int .i64 0, .slice none 0 0] 30)
  clear hn hm hb hr
  go_enter Try.func14, Try.ntmps14
  go_wp2_with fail
  refine Q.out.mono ?_
  rintro e w1 ⟨⟨nd, A', c', l, i, j, rfl, hl, ho⟩, hb⟩
  have HL := hide hl
  have HO := hide (own_le (B' := w.heap.size + 1) ho (by simp))
  replace HR := hide (HR.out.below hb)
  have HB := hide (below_step (below_alloc (Below.refl w.heap.size w) (.cells #[.int .i64 0, .slice none 0 0] 30)) hb)
  clear hl ho hb Q
  have r0 := HR.out.2.1 0 _ rfl
  have r1 := HR.out.2.1 1 _ rfl
  have f0 := HR.out.free 0
  have f1 := HR.out.free 1
  have rz := HR.out.1
  have HOL := hide (show ∀ q, (Value.slice A' l.length c').ownBlock = some q → q ≠ w.heap.size from fun q hq => by have := (HO.out.lt q hq).1; omega)
  go_wp2
  exact bodyPost_ret (v := .tuple #[.agg #[.int .i64 nd, .slice A' l.length c'], .int .i64 i, .int .i64 j]) (by simp [results, Try.results14, go_sem, *]) rfl ⟨⟨nd, A', c', l, i, j, rfl, HL.out, own_put (p := ⟨w.heap.size, 1, none⟩) (own_put (p := ⟨w.heap.size, 0, none⟩) (own_le HO.out (by omega)) HOL.out _) HOL.out _⟩, (HB.out.setCell (Nat.le_refl _) _).setCell (Nat.le_refl _) _⟩
end Go.Proofs.Ytbkhejkncmgdeaa
namespace Go.Proofs.Ytbkhejkncmgdeaa
open Go.RowKit
set_option linter.unusedVariables false

/-- The town is drawn and boxed at tb; what the call makes from here on lies from B on. -/
structure TvAt (d : Drw) (w : World) (tb B : Nat) (nd : Int) (A : Option Addr) (c : Nat) (l : List StT) (N : Nat) (wr : World) : Prop where
  base : d.W0 = w.alloc (.cells #[.int .i64 0, .slice none 0 0] 30)
  st : d.st N wr
  res : Row wr w.heap.size [.int .i64 0, .slice none 0 0]
  box : Row wr tb [.int .i64 nd, .slice A l.length c]
  own : wr.ownsRow (w.heap.size + 1 + 1) 34 3 (.slice A l.length c) l.length (l.flatMap tcells)
  ord : w.heap.size + 1 = d.g ∧ d.g < tb ∧ tb < B ∧ B ≤ wr.heap.size
  apart : ∀ q, (Value.slice A l.length c).ownBlock = some q → q < tb
section
variable {d : Drw} {w wr w' : World} {tb B c N M : Nat} {nd : Int} {A : Option Addr} {l : List StT}
theorem TvAt.draw (h : TvAt d w tb B nd A c l N wr) (hs : d.st M w') (hg : wr.grownBy w' (some d.g)) : TvAt d w tb B nd A c l M w' :=
  ⟨h.base, hs, h.res.grown hg (fun e => by injection e with e; have := h.ord; omega), h.box.grown hg (fun e => by injection e with e; have := h.ord; omega), own_far h.own hg (by have := h.ord; omega), by have := h.ord; have := hg.size; omega, h.apart⟩
theorem TvAt.below (h : TvAt d w tb B nd A c l N wr) (hb : Below wr.heap.size wr w') : TvAt d w tb B nd A c l N w' :=
  ⟨h.base, h.st.below hb, h.res.below hb, h.box.below hb, own_below h.own hb, by have := h.ord; have := hb.size; omega, h.apart⟩
theorem TvAt.alloc (h : TvAt d w tb B nd A c l N wr) (o : Obj) : TvAt d w tb B nd A c l N (wr.alloc o) := h.below ((Below.refl _ _).alloc (Nat.le_refl _) o)
theorem TvAt.drew (h : TvAt d w tb B nd A c l N wr) : TvAt d w tb B nd A c l N wr.drew := h.below (Below.refl _ _).drew
theorem TvAt.more (h : TvAt d w tb B nd A c l N wr) (hM : N ≤ M) : TvAt d w tb B nd A c l M wr := { h with st := h.st.more hM }
/-- A write to what the call has made since. -/
theorem TvAt.far (h : TvAt d w tb B nd A c l N wr) {row : Option Nat} (hg : wr.grownBy w' row) (hr : ∀ k, row = some k → B ≤ k) : TvAt d w tb B nd A c l N w' := by
  have hW : d.W0.heap.size = w.heap.size + 1 := by rw [h.base]; simp
  exact ⟨h.base, h.st.grown hg (fun k hk => by have := hr k hk; have := h.ord; omega), h.res.grown hg (fun e => by have := hr _ e.symm; have := h.ord; omega), h.box.grown hg (fun e => by have := hr _ e.symm; have := h.ord; omega),
    own_near (N := tb) h.own h.apart hg (fun k hk => by have := hr k hk; have := h.ord; omega), by have := h.ord; have := hg.size; omega, h.apart⟩
/-- The end: the result's cell is stored. -/
theorem TvAt.done (h : TvAt d w tb B nd A c l N wr) (u0 u1 : Value) : ((wr.setCell ⟨w.heap.size, 0, none⟩ u0).setCell ⟨w.heap.size, 1, none⟩ u1).ownsRow w.heap.size 34 3 (.slice A l.length c) l.length (l.flatMap tcells) ∧ Below w.heap.size w ((wr.setCell ⟨w.heap.size, 0, none⟩ u0).setCell ⟨w.heap.size, 1, none⟩ u1) := by
  have hl : ∀ q, (Value.slice A l.length c).ownBlock = some q → q ≠ w.heap.size := fun q hq => by have := (h.own.lt q hq).1; omega
  exact ⟨own_put (p := ⟨w.heap.size, 1, none⟩) (own_put (p := ⟨w.heap.size, 0, none⟩) (own_le h.own (by omega)) hl _) hl _, ((drw_below h.base h.st).setCell (Nat.le_refl _) _).setCell (Nat.le_refl _) _⟩
end
/-- What the draw leaves. -/
def DrwRt (w : World) (e : Ending) (w' : World) : Prop :=
  (∃ (nd : Int) (A : Option Addr) (c : Nat) (l : List StT) (A2 : Option Addr) (c2 : Nat) (R : List Int), e = .returned (.tuple #[.agg #[.int .i64 nd, .slice A l.length c], .slice A2 R.length c2]) ∧ l.length ≤ 41 ∧ w'.ownsRow w.heap.size 34 3 (.slice A l.length c) l.length (l.flatMap tcells) ∧ R.length ≤ 1000 ∧ w'.ownsRow w.heap.size 3 1 (.slice A2 R.length c2) R.length (R.map (Value.int .i64))) ∧ Below w.heap.size w w'
theorem DrwRt.of {d : Drw} {w wr : World} {tb B c N : Nat} {nd : Int} {A : Option Addr} {l : List StT} {A2 : Option Addr} {c2 : Nat} {R : List Int} (h : TvAt d w tb B nd A c l N wr) (hl : l.length ≤ 41) (hR : R.length ≤ 1000) (ho : wr.ownsRow B 3 1 (.slice A2 R.length c2) R.length (R.map (Value.int .i64))) (u0 u1 : Value) :
    DrwRt w (.returned (.tuple #[.agg #[.int .i64 nd, .slice A l.length c], .slice A2 R.length c2])) ((wr.setCell ⟨w.heap.size, 0, none⟩ u0).setCell ⟨w.heap.size, 1, none⟩ u1) := by
  have hd := h.done u0 u1
  have hb : ∀ q, (Value.slice A2 R.length c2).ownBlock = some q → q ≠ w.heap.size := fun q hq => by have := (ho.lt q hq).1; have := h.ord; omega
  exact ⟨⟨nd, A, c, l, A2, c2, R, rfl, hl, hd.1, hR, own_put (p := ⟨w.heap.size, 1, none⟩) (own_put (p := ⟨w.heap.size, 0, none⟩) (own_le ho (by have := h.ord; omega)) hb _) hb _⟩, hd.2⟩
end Go.Proofs.Ytbkhejkncmgdeaa
namespace Go.Proofs.Ytbkhejkncmgdeaa
open Go.RowKit
set_option linter.unusedVariables false

theorem own_slice {w : World} {B n sz : Nat} {e : TypeId} {v : Value} {xs : List Value} (h : w.ownsRow B e sz v n xs) : ∃ A c, v = .slice A n c := by
  obtain ⟨A, c, hv, -⟩ := own_open h
  exact ⟨A, c, hv⟩
theorem restF_le {k : Nat} {l : List (Int × Int × Int)} {x y : Nat} (hk : TownOk k l) (hx : x < k) (hy : y < k) (h0 : 0 ≤ timesF k l y x) : (restF k l (timesF k l y) y x).length ≤ 15 := by
  have h1 := rest_short hk.fits hk.chain (times_dist hk.fits hy) (timesF k l y x).toNat x h0 (by omega)
  have h2 := lowC_le k (timesF k l y) x
  have := hk.hi
  omega

set_option maxRecDepth 100000 in
set_option maxHeartbeats 16000000 in
theorem DrawRouteTime_any (A : Option Addr) (n c : Nat) (code : List Int) (w : World) (hn : n = code.length) (hm : n ≤ maxLen) (hb : ∀ x ∈ code, 0 ≤ x ∧ x ≤ 255) (hr : Rd w A (code.map (Value.int .u8))) :
    Calls Try.prog 23 #[.slice A n c] w (DrwRt w) := by
  obtain ⟨d, hW, hg, hok, hst, hres⟩ := drw_town w A n c code hn hm hb hr
  obtain ⟨i0, hi0, hz0, hz1, hz2⟩ := info_parts infoIntT
  have Hi := hide hi0
  have Hz := hide (And.intro hz0 (And.intro hz1 hz2))
  have HW := hide hW
  have HGE := hide hg.symm
  have HOK := hide hok
  have HS := hide hst
  have HR := hide hres
  clear hn hm hb hr hW hg hok hst hres hi0 hz0 hz1 hz2
  go_enter Try.func23, Try.ntmps23
  go_wp2_with fail
  rw [HGE.out]
  refine (anyTown_any d 0 _ HOK.out HS.out (by omega)).mono ?_
  rintro e w1 ⟨⟨nd, A', c', l, rfl, -, hl, ho⟩, hs, hg⟩
  have HL := hide hl
  replace HR := hide (HR.out.grown hg (fun e => by injection e with e; have := HGE.out; omega))
  have HO := hide (own_le (B' := w.heap.size + 1 + 1) ho (by simp))
  go_wp2_with fail
  have HT : Hid (TvAt d w w1.heap.size (w1.heap.size + 1) nd A' c' l 5000 (w1.alloc (.cells #[.int .i64 nd, .slice A' l.length c'] 30))) := hide ⟨HW.out, (hs.more (by omega)).alloc _, HR.out.alloc _, Row.new _ _ _, World.ownsRow.alloc HO.out _, ⟨HGE.out, by have := hs.lt; omega, by omega, by simp⟩, fun q hq => (HO.out.lt q hq).2⟩
  clear HR HO hs hg ho hl HS HW HGE
  obtain ⟨B, hB⟩ : ∃ B, B = w1.heap.size + 1 := ⟨_, rfl⟩
  rw [← hB] at HT
  clear hB
  generalize w1.alloc (.cells #[.int .i64 nd, .slice A' l.length c'] 30) = w2 at *
  generalize w1.heap.size = tb at *
  have HBG := hide (show d.g < B by have := HT.out.ord; omega)
  have b0 := HT.out.box.2.1 0 _ rfl
  have b1 := HT.out.box.2.1 1 _ rfl
  have bz := HT.out.box.1
  have tg : tb ≠ d.g := by have := HT.out.ord; omega
  refine wpAnyS_start (fun w' => ∃ n : LaterX w2 d.g, w' = n.w) (n := 8) (by kernel_rfl) rfl rfl ?_
  refine wpAnyS_take_allE [0, 1, 3, 4] 4 rfl (by kernel_rfl) (by intro c a d v w h; cases d <;> exact h) (by kernel_rfl) (by simp; rfl) rfl (laterX_drew _ _) ?_
  repeat (go_big_quiet_step (fail))
  refine wpQuiet_nil ?_
  clear b0 b1 bz
  clear tg
  have HG : Hid (w2.grownBy w2.drew (some d.g)) := hide (grown_of_below (Below.refl _ _).drew _)
  replace HT := hide HT.out.drew
  generalize w2.drew = V0 at *
  refine wpAnyS_only 2 (by kernel_rfl) (by simp; rfl) rfl rfl (fun K hK => ?_)
  go_wp2_with fail
  refine (nodeOf_any d (5000 + 0) nd A' l.length c' _ HOK.out HT.out.st (by omega)).mono ?_
  rintro e V1 ⟨⟨i, rfl, -⟩, hs, hg⟩
  replace HT : Hid (TvAt d w tb B nd A' c' l (5000 + 14) V1) := hide (HT.out.draw hs hg)
  replace HG := hide (grown_trans HG.out hg)
  clear hs hg
  go_wp2_with fail
  refine ⟨laterX_of HG.out, ?_⟩
  refine wpAnyS_only 5 (by kernel_rfl) (by simp; rfl) rfl rfl (fun K hK => ?_)
  go_wp2_with fail
  refine (nodeOf_any d (5000 + 14) nd A' l.length c' _ HOK.out HT.out.st (by omega)).mono ?_
  rintro e V2 ⟨⟨j, rfl, -⟩, hs, hg⟩
  replace HT : Hid (TvAt d w tb B nd A' c' l (5000 + 28) V2) := hide (HT.out.draw hs hg)
  replace HG := hide (grown_trans HG.out hg)
  clear hs hg
  go_wp2_with fail
  refine ⟨laterX_of HG.out, ?_⟩
  refine wpAnyS_take_allE [6, 7] 0 rfl (by kernel_rfl) (by intro c a d v w h; cases d <;> exact h) (by kernel_rfl) (by simp; rfl) rfl (laterX_of HG.out) ?_
  repeat (go_big_quiet_step (fail))
  refine wpQuiet_nil ?_
  refine wpAnyH_done (by kernel_rfl) ?_ _
  clear HG
  go_upto_region 4 with fail
  go_cut [40] (fun sb wx => ∃ bb : Bool, sb = .bool bb ∧ Hid (bb = true → bothB nd l i j = true ∧ 0 ≤ timesF nd.toNat l i.toNat j.toNat) ∧ Hid (TvAt d w tb B nd A' c' l 5030 wx))
  case first => as_aux_lemma =>
    have QB := hide (fun W h => toBoth_any nd i j A' l.length c' l W rfl (by have := HL.out; unfold maxLen; omega) h)
    cases hB : bothB nd l i j with
    | false =>
      rw [hB] at QB
      clear hB
      have b0 := HT.out.box.2.1 0 _ rfl
      have b1 := HT.out.box.2.1 1 _ rfl
      have bz := HT.out.box.1
      go_wp2_with fail
      refine (QB.out _ (own_rd HT.out.own)).mono ?_
      rintro e V3 ⟨rfl, hb⟩
      replace HT := hide ((HT.out.below hb).more (show 5000 + 28 ≤ 5030 by omega))
      clear b0 b1 bz
      clear hb
      go_wp2_with fail
      go_meet
      exact ⟨false, rfl, hide (fun e => by cases e), HT⟩
    | true =>
      rw [hB] at QB
      have HBB := hide hB
      rw [bothB, Bool.and_eq_true] at hB
      obtain ⟨k, x, rfl, rfl, hx, hk⟩ := goodB_ok hB.1
      obtain ⟨y, rfl, hy⟩ := nodeB_ok hB.2
      have HK := hide hk
      have hk14 := hk.hi
      clear hB hk
      have D_ := timesF k l x y
      have hEQ : timesF ((k : Int)).toNat l ((x : Int)).toNat ((y : Int)).toNat = timesF k l x y := by simp
      have HEQ := hide hEQ
      clear hEQ D_
      have b0 := HT.out.box.2.1 0 _ rfl
      have b1 := HT.out.box.2.1 1 _ rfl
      have bz := HT.out.box.1
      go_wp2_with fail
      refine (QB.out _ (own_rd HT.out.own)).mono ?_
      rintro e V3 ⟨rfl, hb⟩
      replace HT := hide (HT.out.below hb)
      clear b0 b1 bz
      clear hb
      have b0 := HT.out.box.2.1 0 _ rfl
      have b1 := HT.out.box.2.1 1 _ rfl
      have bz := HT.out.box.1
      go_wp2_with fail
      refine (toTimes_any k l.length c' x A' l _ rfl HK.out.len hk14 hx HK.out.fits (own_rd HT.out.own)).mono ?_
      rintro e V4 ⟨rfl, hod, hb⟩
      replace HT := hide (HT.out.below hb)
      clear b0 b1 bz
      have q0 := hod.cell hy
      have hlt : (y : Int) < (k : Int) := by omega
      clear hod hb
      by_cases h0 : 0 ≤ timesF k l x y
      · have HH0 := hide h0
        have h0' : decide (0 ≤ timesF k l x y) = true := by simpa using h0
        go_wp2_with fail
        refine (one_any d (5000 + 28) 4 _ HOK.out HT.out.st (by omega) (by omega)).mono ?_
        rintro e V5 ⟨⟨b, rfl⟩, hs, hg⟩
        replace HT := hide (HT.out.draw hs hg)
        clear hs hg
        go_wp2_with fail
        go_meet
        exact ⟨!b, rfl, hide (fun _ => ⟨HBB.out, by rw [HEQ.out]; exact HH0.out⟩), hide (HT.out.more (by omega))⟩
      · have h0' : decide (0 ≤ timesF k l x y) = false := by simpa using h0
        go_wp2_with fail
        go_meet
        exact ⟨false, rfl, hide (fun e => by cases e), hide (HT.out.more (by omega))⟩
  clear HT
  obtain ⟨bb, rfl, HBB, HT⟩ := hcut
  cases bb with
  | true =>
    obtain ⟨hB, h0⟩ := HBB.out rfl
    clear HBB
    rw [bothB, Bool.and_eq_true] at hB
    obtain ⟨k, x, rfl, rfl, hx, hk⟩ := goodB_ok hB.1
    obtain ⟨y, rfl, hy⟩ := nodeB_ok hB.2
    have HK := hide hk
    have h0' : 0 ≤ timesF k l y x := by
      have := times_sym hk.fits hx hy
      simp only [Int.toNat_natCast] at h0
      omega
    have HH := hide h0'
    have HL15 := hide (restF_le hk hx hy h0')
    clear hB hk h0 h0'
    have b0 := HT.out.box.2.1 0 _ rfl
    have b1 := HT.out.box.2.1 1 _ rfl
    have bz := HT.out.box.1
    go_wp2_with fail
    refine (toRoute_any k l.length c' x y A' l _ rfl HK.out hx hy HH.out (own_rd HT.out.own)).mono ?_
    rintro e V6 ⟨⟨v, rfl, ho⟩, hb⟩
    have HV0 := hide (own_le ho HT.out.ord.2.2.2)
    replace HT := hide (HT.out.below hb)
    clear b0 b1 bz
    clear ho hb
    have HLR : Hid (((restF k l (timesF k l y) y x).map (fun (a : Nat) => (a : Int))).length ≤ 15) := hide (by rw [List.length_map]; exact HL15.out)
    have HV : Hid (V6.ownsRow B 3 1 v ((restF k l (timesF k l y) y x).map (fun (a : Nat) => (a : Int))).length (((restF k l (timesF k l y) y x).map (fun (a : Nat) => (a : Int))).map (Value.int .i64))) := hide (by rw [List.length_map, ← natL_ints]; exact HV0.out)
    clear HV0 HL15
    generalize (restF k l (timesF k l y) y x).map (fun (a : Nat) => (a : Int)) = R at *
    obtain ⟨A2, c2, rfl⟩ := own_slice HV.out
    obtain ⟨nd, hnd⟩ : ∃ nd : Int, nd = (k : Int) := ⟨_, rfl⟩
    go_wp2_with fail
    refine (one_any d 5030 6 _ HOK.out HT.out.st (by omega) (by omega)).mono ?_
    rintro e V7 ⟨⟨b, rfl⟩, hs, hg⟩
    replace HT := hide (HT.out.draw hs hg)
    replace HV := hide (own_far HV.out hg HBG.out)
    clear hs hg
    rw [← hnd] at *
    clear hnd hx hy HK HH
    cases b with
    | false =>
      have b0 := HT.out.box.2.1 0 _ rfl
      have b1 := HT.out.box.2.1 1 _ rfl
      have bz := HT.out.box.1
      have r0 := HT.out.res.2.1 0 _ rfl
      have r1 := HT.out.res.2.1 1 _ rfl
      have f0 := HT.out.res.free 0
      have f1 := HT.out.res.free 1
      have rz := HT.out.res.1
      have nn : tb ≠ w.heap.size := by have := HT.out.ord; omega
      go_wp2
      exact bodyPost_ret (v := .tuple #[.agg #[.int .i64 nd, .slice A' l.length c'], .slice A2 R.length c2]) (by simp [results, Try.results23, go_sem, *]) rfl (DrwRt.of HT.out HL.out (Nat.le_trans HLR.out (by omega)) HV.out _ _)
    | true =>
      have b0 := HT.out.box.2.1 0 _ rfl
      have b1 := HT.out.box.2.1 1 _ rfl
      have bz := HT.out.box.1
      go_wp2_with fail
      refine (nodeOf_any d (5030 + 2) nd A' l.length c' _ HOK.out HT.out.st (by omega)).mono ?_
      rintro e V8 ⟨⟨z, rfl, -⟩, hs, hg⟩
      replace HT := hide (HT.out.draw hs hg)
      replace HV := hide (own_far HV.out hg HBG.out)
      clear hs hg
      clear b0 b1 bz
      have HTA := hide (HT.out.alloc (.cells #[.int .i64 z] 3))
      have HVA := hide (World.ownsRow.alloc HV.out (.cells #[.int .i64 z] 3))
      have HSB := hide (Row.new V8 #[.int .i64 z] 3)
      have hml : maxLen = 9223372036854775807 := rfl
      have HRL := hide (show R.length ≤ 900 from (Nat.le_trans HLR.out (by omega)))
      go_wp2_with (at_builtin; refine wpList_append_lies _ rfl (.tmp 47) (.tmp 51) 45 rfl B 3 i0 _ 1 8 Try.underlying45 Hi.out Hz.out.1 Hz.out.2.1 Hz.out.2.2 rfl (by decide) (.slice A2 R.length c2) R.length (R.map (Value.int .i64)) rfl HVA.out ⟨V8.heap.size, 0, none⟩ 1 1 [.int .i64 z] rfl rfl (fun j u hu => by rw [Addr.add_lit, Nat.zero_add]; exact HSB.out.2.1 j u hu) (fun u hu => by simp at hu; subst hu; rfl) (by omega) (by have := HRL.out; omega) (by have := HRL.out; omega) HTA.out.ord.2.2.2 _ rfl ?_)
      intro g' cap' V9 ho' hg' hw' hlt'
      have HB' := hide (show ∀ k, (Value.slice A2 R.length c2).ownBlock = some k → B ≤ k from fun k hk => (HVA.out.lt k hk).1)
      replace HT := hide (HTA.out.far hg' HB'.out)
      have HV' : Hid (V9.ownsRow B 3 1 (.slice (some ⟨g', 0, none⟩) (R ++ [z]).length cap') (R ++ [z]).length ((R ++ [z]).map (Value.int .i64))) := hide (by rw [List.length_append, List.map_append]; exact ho')
      have hlen : R.length + 1 = (R ++ [z]).length := by simp
      rw [hlen]
      clear hlen hml hg' hw' hlt' ho' HSB HTA HVA HV HB'
      have HV := hide HV'.out
      clear HV'
      have HLR' := hide (show (R ++ [z]).length ≤ 16 by have := HLR.out; simp; omega)
      have b0 := HT.out.box.2.1 0 _ rfl
      have b1 := HT.out.box.2.1 1 _ rfl
      have bz := HT.out.box.1
      have r0 := HT.out.res.2.1 0 _ rfl
      have r1 := HT.out.res.2.1 1 _ rfl
      have f0 := HT.out.res.free 0
      have f1 := HT.out.res.free 1
      have rz := HT.out.res.1
      have nn : tb ≠ w.heap.size := by have := HT.out.ord; omega
      go_wp2
      exact bodyPost_ret (v := .tuple #[.agg #[.int .i64 nd, .slice A' l.length c'], .slice (some ⟨g', 0, none⟩) (R ++ [z]).length cap']) (by simp [results, Try.results23, go_sem, *]) rfl (DrwRt.of HT.out HL.out (Nat.le_trans HLR'.out (by omega)) HV.out _ _)
  | false =>
    clear HBB
    go_wp2_with fail
    refine (pick_any d 5030 4 _ HOK.out HT.out.st (by omega) (by omega)).mono ?_
    rintro e V6 ⟨⟨p, rfl, p0, p1, p2⟩, hs, hg⟩
    replace HT := hide (HT.out.draw hs hg)
    obtain ⟨m0, rfl⟩ := Int.eq_ofNat_of_zero_le p0
    have hm3 : m0 ≤ 3 := by omega
    clear hs hg p0 p1 p2
    have HBS := hide (HT.out.ord.2.2.2)
    go_wp2_with fail
    go_loopg [9, 10] 3 (fun g s t wr => ∃ (m : Nat) (A2 : Option Addr) (c2 : Nat) (R : List Int), s = .slice A2 R.length c2 ∧ t = .int .i64 (m : Int) ∧ m ≤ 3 ∧ Hid (m ≤ g) ∧ Hid (R.length + m ≤ 3) ∧ Hid (wr.ownsRow B 3 1 (.slice A2 R.length c2) R.length (R.map (Value.int .i64))) ∧ Hid (TvAt d w tb B nd A' c' l (6000 + 14 * (3 - m)) wr))
    case atStart => exact ⟨m0, none, 0, [], rfl, rfl, hm3, hide hm3, hide (by simp; omega), hide (World.ownsRow_nil _ _ _ _), hide (HT.out.more (by omega))⟩
    case round =>
      clear HT HBS
      obtain ⟨m, A2, c2, R, rfl, rfl, hm, HGK, HRM, HV, HT⟩ := hrel
      by_cases hgt : 0 < m
      · obtain ⟨q, rfl⟩ : ∃ q, m = q + 1 := ⟨m - 1, by omega⟩
        have hg0 : ((0 : Int) < ((q + 1 : Nat) : Int)) = True := by simp
        have b0 := HT.out.box.2.1 0 _ rfl
        have b1 := HT.out.box.2.1 1 _ rfl
        have bz := HT.out.box.1
        go_wp2_with fail
        refine (nodeOf_any d (6000 + 14 * (3 - (q + 1))) nd A' l.length c' _ HOK.out HT.out.st (by omega)).mono ?_
        rintro e V8 ⟨⟨z, rfl, -⟩, hs, hg⟩
        replace HT := hide (HT.out.draw hs hg)
        replace HV := hide (own_far HV.out hg HBG.out)
        clear hs hg hg0 hgt
        clear b0 b1 bz
        have HTA := hide (HT.out.alloc (.cells #[.int .i64 z] 3))
        have HVA := hide (World.ownsRow.alloc HV.out (.cells #[.int .i64 z] 3))
        have HSB := hide (Row.new V8 #[.int .i64 z] 3)
        have hml : maxLen = 9223372036854775807 := rfl
        have HRL := hide (show R.length ≤ 900 from (by have := HRM.out; omega))
        go_wp2_with (at_builtin; refine wpList_append_lies _ rfl (.tmp 61) (.tmp 65) 45 rfl B 3 i0 _ 1 8 Try.underlying45 Hi.out Hz.out.1 Hz.out.2.1 Hz.out.2.2 rfl (by decide) (.slice A2 R.length c2) R.length (R.map (Value.int .i64)) rfl HVA.out ⟨V8.heap.size, 0, none⟩ 1 1 [.int .i64 z] rfl rfl (fun j u hu => by rw [Addr.add_lit, Nat.zero_add]; exact HSB.out.2.1 j u hu) (fun u hu => by simp at hu; subst hu; rfl) (by omega) (by have := HRL.out; omega) (by have := HRL.out; omega) HTA.out.ord.2.2.2 _ rfl ?_)
        intro g' cap' V9 ho' hg' hw' hlt'
        have HB' := hide (show ∀ k, (Value.slice A2 R.length c2).ownBlock = some k → B ≤ k from fun k hk => (HVA.out.lt k hk).1)
        replace HT := hide (HTA.out.far hg' HB'.out)
        have HV' : Hid (V9.ownsRow B 3 1 (.slice (some ⟨g', 0, none⟩) (R ++ [z]).length cap') (R ++ [z]).length ((R ++ [z]).map (Value.int .i64))) := hide (by rw [List.length_append, List.map_append]; exact ho')
        have hlen : R.length + 1 = (R ++ [z]).length := by simp
        rw [hlen]
        clear hlen hml hg' hw' hlt' ho' HSB HTA HVA HV HB'
        have HV := hide HV'.out
        clear HV'
        have HRM' := hide (show (R ++ [z]).length + q ≤ 3 by have := HRM.out; simp; omega)
        go_wp2
        go_roundg q
        case rel => exact ⟨q, _, cap', R ++ [z], rfl, by go_num, by omega, hide (Nat.le_refl _), HRM', HV, hide (HT.out.more (by omega))⟩
        case measure => have := HGK.out; omega
      · obtain rfl : m = 0 := by omega
        go_wp2_with fail
        refine (one_any d (6000 + 14 * (3 - 0)) 12 _ HOK.out HT.out.st (by omega) (by omega)).mono ?_
        rintro e V7 ⟨⟨b, rfl⟩, hs, hg⟩
        replace HT := hide (HT.out.draw hs hg)
        replace HV := hide (own_far HV.out hg HBG.out)
        clear hs hg hgt
        have HLR := hide (show R.length ≤ 3 by have := HRM.out; omega)
        clear HRM
        cases b with
        | false =>
          have b0 := HT.out.box.2.1 0 _ rfl
          have b1 := HT.out.box.2.1 1 _ rfl
          have bz := HT.out.box.1
          have r0 := HT.out.res.2.1 0 _ rfl
          have r1 := HT.out.res.2.1 1 _ rfl
          have f0 := HT.out.res.free 0
          have f1 := HT.out.res.free 1
          have rz := HT.out.res.1
          have nn : tb ≠ w.heap.size := by have := HT.out.ord; omega
          go_wp2
          exact bodyPost_ret (v := .tuple #[.agg #[.int .i64 nd, .slice A' l.length c'], .slice A2 R.length c2]) (by simp [results, Try.results23, go_sem, *]) rfl (DrwRt.of HT.out HL.out (Nat.le_trans HLR.out (by omega)) HV.out _ _)
        | true =>
          go_wp2_with fail
          refine (pick_any d (6000 + 14 * (3 - 0) + 2) 2 _ HOK.out HT.out.st (by omega) (by omega)).mono ?_
          rintro e V8 ⟨⟨p, rfl, p0, p1, p2⟩, hs, hg⟩
          replace HT := hide ((HT.out.draw hs hg).more (show _ ≤ 7000 by omega))
          replace HV := hide (own_far HV.out hg HBG.out)
          have p3 : p ≤ 1 := by omega
          clear hs hg p1 p2
          go_wp2_with fail
          go_loopg [9] 20 (fun g s wr => ∃ (A2 : Option Addr) (c2 : Nat) (R : List Int), s = .slice A2 R.length c2 ∧ Hid (20 ≤ g + R.length) ∧ Hid (R.length ≤ 20) ∧ Hid (wr.ownsRow B 3 1 (.slice A2 R.length c2) R.length (R.map (Value.int .i64))) ∧ Hid (TvAt d w tb B nd A' c' l 7000 wr))
          case atStart => exact ⟨A2, c2, R, rfl, hide (by omega), hide (Nat.le_trans HLR.out (by omega)), HV, HT⟩
          case round =>
            clear HT HV HLR
            obtain ⟨A2, c2, R, rfl, HGK2, HLR, HV, HT⟩ := hrel
            by_cases hlt : (R.length : Int) < 14 + p
            · have hld : decide ((R.length : Int) < 14 + p) = true := by simpa using hlt
              have HL16 := hide (show R.length ≤ 15 by omega)
              have HTA := hide (HT.out.alloc (.cells #[.int .i64 (R.length : Int)] 3))
              have HVA := hide (World.ownsRow.alloc HV.out (.cells #[.int .i64 (R.length : Int)] 3))
              have HSB := hide (Row.new wr #[.int .i64 (R.length : Int)] 3)
              have hml : maxLen = 9223372036854775807 := rfl
              have HRL := hide (show R.length ≤ 900 from (by have := HL16.out; omega))
              go_wp2_with (at_builtin; refine wpList_append_lies _ rfl (.tmp 76) (.tmp 79) 45 rfl B 3 i0 _ 1 8 Try.underlying45 Hi.out Hz.out.1 Hz.out.2.1 Hz.out.2.2 rfl (by decide) (.slice A2 R.length c2) R.length (R.map (Value.int .i64)) rfl HVA.out ⟨wr.heap.size, 0, none⟩ 1 1 [.int .i64 (R.length : Int)] rfl rfl (fun j u hu => by rw [Addr.add_lit, Nat.zero_add]; exact HSB.out.2.1 j u hu) (fun u hu => by simp at hu; subst hu; rfl) (by omega) (by have := HRL.out; omega) (by have := HRL.out; omega) HTA.out.ord.2.2.2 _ rfl ?_)
              intro g' cap' V9 ho' hg' hw' hlt'
              have HB' := hide (show ∀ k, (Value.slice A2 R.length c2).ownBlock = some k → B ≤ k from fun k hk => (HVA.out.lt k hk).1)
              replace HT := hide (HTA.out.far hg' HB'.out)
              have HV' : Hid (V9.ownsRow B 3 1 (.slice (some ⟨g', 0, none⟩) (R ++ [(R.length : Int)]).length cap') (R ++ [(R.length : Int)]).length ((R ++ [(R.length : Int)]).map (Value.int .i64))) := hide (by rw [List.length_append, List.map_append]; exact ho')
              have hlen : R.length + 1 = (R ++ [(R.length : Int)]).length := by simp
              rw [hlen]
              clear hlen hml hg' hw' hlt' ho' HSB HTA HVA HV HB'
              have HV := hide HV'.out
              clear HV'
              have HLR' := hide (show (R ++ [(R.length : Int)]).length ≤ 20 by have := HL16.out; simp; omega)
              have HGN := hide (show 20 ≤ gk - 1 + (R ++ [(R.length : Int)]).length by have := HGK2.out; have := HL16.out; simp; omega)
              go_wp2
              go_roundg (gk - 1)
              case rel => exact ⟨_, cap', R ++ [(R.length : Int)], rfl, HGN, HLR', HV, HT⟩
              case measure => have := HGK2.out; have := HL16.out; omega
            · have hld : decide ((R.length : Int) < 14 + p) = false := by simpa using hlt
              have b0 := HT.out.box.2.1 0 _ rfl
              have b1 := HT.out.box.2.1 1 _ rfl
              have bz := HT.out.box.1
              have r0 := HT.out.res.2.1 0 _ rfl
              have r1 := HT.out.res.2.1 1 _ rfl
              have f0 := HT.out.res.free 0
              have f1 := HT.out.res.free 1
              have rz := HT.out.res.1
              have nn : tb ≠ w.heap.size := by have := HT.out.ord; omega
              go_wp2
              exact bodyPost_ret (v := .tuple #[.agg #[.int .i64 nd, .slice A' l.length c'], .slice A2 R.length c2]) (by simp [results, Try.results23, go_sem, *]) rfl (DrwRt.of HT.out HL.out (Nat.le_trans HLR.out (by omega)) HV.out _ _)
end Go.Proofs.Ytbkhejkncmgdeaa
namespace Go.Proofs.Ytbkhejkncmgdeaa
open Go.RowKit
set_option linter.unusedVariables false

set_option maxHeartbeats 2000000 in
theorem sameInts_same (A B : Option Addr) (n c d : Nat) (l : List Int) (w : World) (hn : n = l.length) (hm : n ≤ 1048576) (hr : Rd w A (l.map (Value.int .i64))) (hs : Rd w B (l.map (Value.int .i64))) :
    Calls Try.prog 21 #[.slice A n c, .slice B n d] w fun e w' => e = .returned (.bool true) ∧ Below w.heap.size w w' := by
  have Hn := hide hn
  have Hr := hide hr
  have Hs := hide hs
  clear hn hr hs
  go_enter Try.func21, Try.ntmps21
  go_wp2_with fail
  go_loopw [13] (fun t wr => ∃ k : Nat, k ≤ n ∧ t = .int .i64 k ∧ Below w.heap.size w wr) (fun t _ => n - (intOf t).toNat)
  case atStart => exact ⟨0, by omega, rfl, Below.refl _ _⟩
  case round =>
    obtain ⟨k, hk, rfl, hb⟩ := hrel
    by_cases hlt : k < n
    · obtain ⟨x, hx⟩ : ∃ x, (l.map (Value.int .i64))[k]? = some (.int .i64 x) := by
        have : k < l.length := by rw [← Hn.out]; exact hlt
        exact ⟨l[k], by simp [this]⟩
      obtain ⟨b, off, rfl, hbs, c0⟩ := (Hr.out.below hb).get1 hx
      obtain ⟨b', off', rfl, hbs', d0⟩ := (Hs.out.below hb).get1 hx
      clear hx
      have hi0 : (0 : Int) ≤ (k : Int) := by omega
      have hi1 : (k : Int) < (n : Int) := by omega
      go_wp2_with fail
      refine wp_region_later (by kernel_rfl) (by kernel_rfl) ?_
      repeat (go_big_quiet_step (fail))
      refine wpQuiet_nil ?_
      refine later_intro fun w1 hb1 => ?_
      go_wp2
      go_roundw
      case rel => exact ⟨k + 1, by omega, by go_num, below_step hb hb1⟩
      case measure => simp [intOf]; omega
    · have hkn : ((k : Int) < (n : Int)) = False := by simp; omega
      go_wp2
      go_ret
      exact ⟨rfl, hb⟩

def AnyBool (w : World) (e : Ending) (w' : World) : Prop := (∃ b : Bool, e = .returned (.bool b)) ∧ w = w'

set_option maxHeartbeats 1000000 in
theorem big_any (A B : Option Addr) (n c m k : Nat) (w : World) (hn : n ≤ 9223372036854775807) (hm : m ≤ 9223372036854775807) :
    Calls Try.prog 13 #[.slice A n c, .slice B m k] w (AnyBool w) := by
  by_cases h : (1048576 : Int) < (n : Int)
  · have h' : decide ((1048576 : Int) < (n : Int)) = true := by simpa using h
    go_enter Try.func13, Try.ntmps13
    go_wp2
    go_ret
    exact ⟨⟨_, rfl⟩, rfl⟩
  · have h' : decide ((1048576 : Int) < (n : Int)) = false := by simpa using h
    go_enter Try.func13, Try.ntmps13
    go_wp2
    go_ret
    exact ⟨⟨_, rfl⟩, rfl⟩
end Go.Proofs.Ytbkhejkncmgdeaa

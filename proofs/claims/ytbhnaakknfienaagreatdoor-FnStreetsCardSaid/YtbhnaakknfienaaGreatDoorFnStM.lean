/- FnStreets: the plain law. A street closed and added again; detours; streets that cut; the nearest node. -/
import Derived.Test.YtbhnaakknfienaaGreatDoorAstL
import Derived.Test.YtbhnaakknfienaaGreatDoorTownNf
import Derived.Test.YtbhnaakknfienaaGreatDoorTownCu
namespace Go.Proofs.YtbhnaakknfienaaGreatDoor
open Go.RowKit
set_option linter.unusedVariables false

/-- A street of two nodes, in any order. -/
def sameT (i j : Int) (s : StT) : Bool := (decide (s.1 = i) && decide (s.2.1 = j)) || (decide (s.1 = j) && decide (s.2.1 = i))
theorem sameT_fit {k i j : Int} {s : StT} (h : fitB k s = true) : sameT i j s = isSt i j s := by
  have hf := fitB_iff.1 h
  rw [Bool.eq_iff_iff]
  simp only [sameT, isSt, Bool.or_eq_true, Bool.and_eq_true, decide_eq_true_eq]
  omega
theorem cutL_get {α : Type} {l : List α} {q : Nat} (hq : q < l.length) (i : Nat) : (cutL l q)[i]? = if i < q then l[i]? else l[i + 1]? := by
  have ht : (l.take q).length = q := by rw [List.length_take]; omega
  unfold cutL
  by_cases h : i < q
  · rw [if_pos h, List.getElem?_append_left (by omega), List.getElem?_take_of_lt h]
  · rw [if_neg h, List.getElem?_append_right (by omega), ht, List.getElem?_drop]
    congr 1
    omega
theorem cutL_chain {nd : Int} {l : List StT} (h : chainB (fitB nd) befB l = true) {q : Nat} (hq : q < l.length) : chainB (fitB nd) befB (cutL l q) = true := by
  refine chainB_of fun i hi => ?_
  rw [cutL_length hq] at hi
  cases i with
  | zero =>
    by_cases h0 : 0 < q
    · have hx : l[0]? = some l[0] := List.getElem?_eq_getElem (by omega)
      rw [stepB_zero (a := l[0]) (by rw [cutL_get hq, if_pos h0]; exact hx)]
      exact chainB_elem h hx
    · have hx : l[1]? = some l[1] := List.getElem?_eq_getElem (by omega)
      rw [stepB_zero (a := l[1]) (by rw [cutL_get hq, if_neg h0]; exact hx)]
      exact chainB_elem h hx
  | succ i =>
    obtain ⟨a, ha⟩ : ∃ a, (cutL l q)[i + 1]? = some a := ⟨_, List.getElem?_eq_getElem (by rw [cutL_length hq]; omega)⟩
    obtain ⟨b, hb⟩ : ∃ b, (cutL l q)[i]? = some b := ⟨_, List.getElem?_eq_getElem (by rw [cutL_length hq]; omega)⟩
    rw [stepB_succ ha hb, Bool.and_eq_true]
    rw [cutL_get hq] at ha hb
    constructor
    · split at ha <;> exact chainB_elem h ha
    · split at ha <;> split at hb
      · exact streets_once h _ _ _ _ (by omega) hb ha
      · omega
      · exact streets_once h _ _ _ _ (by omega) hb ha
      · exact streets_once h _ _ _ _ (by omega) hb ha
theorem cutL_mem {α : Type} {l : List α} {q : Nat} (hq : q < l.length) {x : α} (h : x ∈ cutL l q) : ∃ m : Nat, m ≠ q ∧ l[m]? = some x := by
  obtain ⟨i, hi⟩ := List.mem_iff_getElem?.1 h
  rw [cutL_get hq] at hi
  split at hi
  · exact ⟨i, by omega, hi⟩
  · exact ⟨i + 1, by omega, hi⟩
theorem TownOk.town {k : Nat} {l : List StT} (h : TownOk k l) : townB k l = true := by
  have := h.lo
  have := h.hi
  rw [townB, Bool.and_eq_true, Bool.and_eq_true, inB_iff, decide_eq_true_eq]
  exact ⟨⟨by omega, h.len⟩, h.chain⟩
theorem TownOk.cut {k : Nat} {l : List StT} (h : TownOk k l) {q : Nat} (hq : q < l.length) : TownOk k (cutL l q) := ⟨h.lo, h.hi, Nat.le_trans (cutL_le _ _) h.len, cutL_chain h.chain hq⟩
theorem Walk.mono {E F : List Edge} (hs : ∀ e ∈ E, e ∈ F) {x v : Nat} {w : Int} (h : Walk E x v w) : Walk F x v w := by
  induction h with
  | here => exact .here
  | step _ he ih => exact .step ih (hs _ he)
theorem edges_cut {l : List StT} {q : Nat} : ∀ e ∈ edges (cutL l q), e ∈ edges l := by
  intro e he
  rw [mem_edges] at *
  obtain ⟨t, ht, h⟩ := he
  refine ⟨t, ?_, h⟩
  rcases List.mem_append.1 ht with ht | ht
  · exact List.mem_of_mem_take ht
  · exact List.mem_of_mem_drop ht
/-- What a street of two nodes is. -/
theorem st_parts {k : Nat} {l : List StT} (hk : TownOk k l) {i j : Int} (h : 0 ≤ stFind l i j) : ∃ (q : Nat) (t : StT), stFind l i j = q ∧ q < l.length ∧ l[q]? = some t ∧ t.1 = min i j ∧ t.2.1 = max i j ∧ i ≠ j ∧ fitB k t = true := by
  rcases findI_cases (isSt i j) l with hf | ⟨q, t, hf, hq, hp⟩
  · rw [stFind, hf] at h; omega
  · have ht : fitB k t = true := hk.fits t (List.mem_of_getElem? hq)
    have hf2 := fitB_iff.1 ht
    simp only [isSt, Bool.and_eq_true, decide_eq_true_eq] at hp
    exact ⟨q, t, hf, (List.getElem?_eq_some_iff.1 hq).1, hq, hp.1, hp.2, by omega, ht⟩
/-- What CloseStreet gives where it gives anything. -/
structure ClYes (nd : Int) (l : List StT) (i j : Int) : Prop where
  town : townB nd l = true
  n : closeN nd l i j = nd
  now : travOk nd l i j = true
  nowLo : 0 ≤ travV nd l i j
  nowHi : travV nd l i j ≤ 5000000
  tok : travOk nd (closeL nd l i j) i j = detOk nd l i j
  thenLo : 0 ≤ travV nd (closeL nd l i j) i j
  thenHi : travV nd (closeL nd l i j) i j ≤ 5000000
  det : detOk nd l i j = true → detV nd l i j = travV nd (closeL nd l i j) i j - travV nd l i j ∧ 0 ≤ detV nd l i j
  cut : (cutsL nd l).any (sameT i j) = !detOk nd l i j
  back : ∀ s ∈ l, sameT i j s = true → adsOk nd (closeL nd l i j) (j, i, s.2.2) = true ∧ adsL nd (closeL nd l i j) (j, i, s.2.2) = l ∧ adsN nd (closeL nd l i j) (j, i, s.2.2) = nd
theorem times_bd2 {k x v : Nat} {l : List StT} (hk : TownOk k l) : -1 ≤ timesF k l x v ∧ timesF k l x v ≤ 5000000 := by
  have h14 := hk.hi
  have b1 := times_bd (x := x) hk.fits hk.len k v
  have l1 := times_lo (x := x) hk.fits k v
  refine ⟨l1, ?_⟩
  unfold timesF
  omega
theorem trav_both {k : Nat} {l : List StT} (hk : TownOk k l) {x y : Nat} (hx : x < k) (hy : y < k) : travOk k l x y = decide (0 ≤ timesF k l x y) ∧ travV k l x y = if 0 ≤ timesF k l x y then timesF k l x y else 0 := by
  have h1 : travOk k l x y = decide (0 ≤ timesF k l x y) := by
    rw [travOk, bothB, goodB, hk.town, nodeB_iff.2 ⟨by omega, by omega⟩, nodeB_iff.2 ⟨by omega, by omega⟩]
    rfl
  refine ⟨h1, ?_⟩
  rw [travV, h1]
  simp only [decide_eq_true_eq, Int.toNat_natCast]
theorem putT_cut {nd : Int} {l : List StT} (h : chainB (fitB nd) befB l = true) {q : Nat} {t : StT} (hq : l[q]? = some t) : putT (cutL l q) t = l := by
  obtain ⟨hlt, ht⟩ := List.getElem?_eq_some_iff.1 hq
  have key := takeWhile_atT (p := fun x => befB x t) (l := cutL l q) (k := q) (by rw [cutL_length hlt]; omega) (fun i x hi hx => by
    rw [cutL_get hlt, if_pos hi] at hx
    exact streets_once h i q x t hi hx hq) (fun x hx => by
    rw [cutL_get hlt, if_neg (by omega)] at hx
    have h1 := streets_once h q (q + 1) t x (by omega) hq hx
    cases hc : befB x t with
    | false => rfl
    | true =>
      have h2 := befB_trans h1 hc
      simp only [befB, Bool.or_eq_true, Bool.and_eq_true, decide_eq_true_eq] at h2
      omega)
  have hl : (l.take q).length = q := by rw [List.length_take]; omega
  rw [putT, key.1, key.2, cutL, List.take_append, List.drop_append, hl, Nat.sub_self, List.take_zero, List.drop_zero, List.append_nil, List.take_take, Nat.min_self, List.drop_of_length_le (by omega), List.nil_append, List.append_assoc, ← ht]
  simp
theorem cut_find {nd : Int} {l : List StT} (h : chainB (fitB nd) befB l = true) {q : Nat} {t : StT} (hq : l[q]? = some t) {a b : Int} (hab : isSt a b t = true) : stFind (cutL l q) a b < 0 := by
  obtain ⟨hlt, ht⟩ := List.getElem?_eq_some_iff.1 hq
  rcases findI_cases (isSt a b) (cutL l q) with hf | ⟨i, x, hf, hi, hp⟩
  · rw [stFind, hf]; omega
  · obtain ⟨m, hm, hx⟩ := cutL_mem hlt (List.mem_of_getElem? hi)
    have e1 := stFind_at h hx hp
    have e2 := stFind_at h hq hab
    omega
theorem cl_yes {nd : Int} {l : List StT} {i j : Int} (h : closeOk nd l i j = true) : ClYes nd l i j := by
  have h' := h
  rw [closeOk, Bool.and_eq_true, decide_eq_true_eq, bothB, Bool.and_eq_true, goodB, Bool.and_eq_true] at h'
  obtain ⟨⟨⟨htb, hni⟩, hnj⟩, hs⟩ := h'
  have hC : closeL nd l i j = cutL l (stFind l i j).toNat := by rw [closeL, if_pos h]
  have hN : closeN nd l i j = nd := by rw [closeN, if_pos h]
  obtain ⟨k, rfl, hk⟩ := townB_ok htb
  obtain ⟨x, rfl, hx⟩ := nodeB_ok hni
  obtain ⟨y, rfl, hy⟩ := nodeB_ok hnj
  obtain ⟨q, t, hq, hql, hqt, h1, h2, hne, hft⟩ := st_parts hk hs
  have hf := fitB_iff.1 hft
  rw [hq, Int.toNat_natCast] at hC
  have hkc := hk.cut hql
  have hd := times_dist hk.fits hx
  have hdc := times_dist hkc.fits hx
  have hdt : detThen k l x y = timesF k (cutL l q) x y := by rw [detThen, hq]; rfl
  have hdo : detOk k l x y = decide (0 ≤ timesF k (cutL l q) x y) := by rw [detOk, h, hdt]; rfl
  have he : ((x : Nat), (y : Nat), t.2.2) ∈ edges l := mem_edges.2 ⟨t, List.mem_of_getElem? hqt, by
    rcases Int.le_total (x : Int) y with hxy | hxy
    · left
      rw [show t.1 = x by omega, show t.2.1 = y by omega]
      rfl
    · right
      rw [show t.1 = y by omega, show t.2.1 = x by omega]
      rfl⟩
  have hnow : 0 ≤ timesF k l x y := by
    have := hd.closed he (by rw [hd.zero]; omega)
    exact this.1
  have hmono : 0 ≤ timesF k (cutL l q) x y → timesF k l x y ≤ timesF k (cutL l q) x y := fun h0 => (hd.least y _ ((hdc.walk y h0).mono edges_cut)).2
  have hb1 := times_bd2 (x := x) (v := y) hk
  have hb2 := times_bd2 (x := x) (v := y) hkc
  obtain ⟨t1, t2⟩ := trav_both hk hx hy
  obtain ⟨c1, c2⟩ := trav_both hkc hx hy
  have hst : isSt x y t = true := by simp only [isSt, Bool.and_eq_true, decide_eq_true_eq]; exact ⟨h1, h2⟩
  refine ⟨htb, hN, by rw [t1]; simpa using hnow, by rw [t2]; split <;> omega, by rw [t2]; split <;> omega, by rw [hC, c1, hdo], by rw [hC, c2]; split <;> omega, by rw [hC, c2]; split <;> omega, ?_, ?_, ?_⟩
  · intro hdy
    have h0 : 0 ≤ timesF k (cutL l q) x y := by rw [hdo] at hdy; simpa using hdy
    have := hmono h0
    rw [hC, c2, t2, if_pos h0, if_pos hnow, detV, if_pos hdy, hdt]
    simp only [Int.toNat_natCast]
    exact ⟨trivial, by omega⟩
  · rw [hdo]
    have hcut : timesF k (cutL l q) t.1.toNat t.2.1.toNat = timesF k (cutL l q) x y := by
      rcases Int.le_total (x : Int) y with hxy | hxy
      · rw [show t.1 = x by omega, show t.2.1 = y by omega]
        rfl
      · rw [show t.1 = y by omega, show t.2.1 = x by omega]
        exact times_sym hkc.fits hy hx
    rw [cutsL, if_pos htb, Bool.eq_iff_iff]
    simp only [List.any_eq_true, Bool.not_eq_true', decide_eq_false_iff_not, cutsK, List.mem_filterMap, List.mem_range, Int.toNat_natCast]
    constructor
    · rintro ⟨s, ⟨m, hm, hms⟩, hsm⟩
      split at hms
      · rename_i hcb
        rw [sameT_fit (hk.fits s (List.mem_of_getElem? hms))] at hsm
        have := stFind_at hk.chain hms hsm
        have hmq : m = q := by omega
        subst hmq
        rw [cutsAt, hqt] at hcb
        simp only [decide_eq_true_eq] at hcb
        omega
      · cases hms
    · intro hn
      refine ⟨t, ⟨q, hql, ?_⟩, by rw [sameT_fit hft]; exact hst⟩
      have : cutsAt k l q = true := by
        rw [cutsAt, hqt]
        simp only [decide_eq_true_eq]
        omega
      rw [if_pos this]
      exact hqt
  · intro s hs' hsm
    rw [sameT_fit (hk.fits s hs')] at hsm
    obtain ⟨m, hm⟩ := List.mem_iff_getElem?.1 hs'
    have hmq := stFind_at hk.chain hm hsm
    have hmq' : m = q := by omega
    subst hmq'
    rw [hqt] at hm
    injection hm with hm
    subst hm
    have hturn : turnT ((y : Int), (x : Int), t.2.2) = t := by
      obtain ⟨t0, t1', t2'⟩ := t
      have e1 : t0 = min (x : Int) y := h1
      have e2 : t1' = max (x : Int) y := h2
      show (if (y : Int) > x then ((x : Int), (y : Int), t2') else ((y : Int), (x : Int), t2')) = _
      clear hf hst he hqt
      split
      · exact Prod.ext (show (x : Int) = t0 by omega) (Prod.ext (show (y : Int) = t1' by omega) rfl)
      · exact Prod.ext (show (y : Int) = t0 by omega) (Prod.ext (show (x : Int) = t1' by omega) rfl)
    have hok : adsOk k (cutL l m) ((y : Int), (x : Int), t.2.2) = true := by
      rw [adsOk, hkc.town, strB]
      simp only [Bool.and_eq_true, decide_eq_true_eq, nodeB_iff, inB_iff, Bool.not_eq_true', decide_eq_false_iff_not, cutL_length hql]
      have := cut_find hk.chain hqt (a := y) (b := x) (by rw [isSt_comm]; exact hst)
      have := hk.len
      exact ⟨⟨⟨trivial, by omega⟩, by omega⟩, by omega⟩
    rw [hC]
    refine ⟨hok, ?_, by rw [adsN, if_pos hok]⟩
    rw [adsL, if_pos hok, hturn]
    exact putT_cut hk.chain hqt
/-- What AddStreet gives where it gives anything: the street can be closed again. -/
theorem ad_yes {nd : Int} {l : List StT} {s : StT} (h : adsOk nd l s = true) : adsN nd l s = nd ∧ closeOk nd (adsL nd l s) s.1 s.2.1 = true ∧ closeN nd (adsL nd l s) s.1 s.2.1 = nd ∧ closeL nd (adsL nd l s) s.1 s.2.1 = l := by
  have h' := h
  rw [adsOk, Bool.and_eq_true, Bool.and_eq_true, Bool.and_eq_true, decide_eq_true_eq, decide_eq_true_eq] at h'
  obtain ⟨⟨⟨htb, hsb⟩, hno⟩, h40⟩ := h'
  have hL : adsL nd l s = putT l (turnT s) := by rw [adsL, if_pos h]
  have hch : streetsB nd l = true := by
    simp only [townB, Bool.and_eq_true] at htb
    exact htb.2
  have hft : fitB nd (turnT s) = true := by rw [turn_fit]; exact hsb
  have hsr : SrchAt l (turnT s) (l.takeWhile fun x => befB x (turnT s)).length := by
    have e : l.takeWhile (fun x => befB x (turnT s)) ++ l.dropWhile (fun x => befB x (turnT s)) = l := List.takeWhile_append_dropWhile
    have hall : ∀ x ∈ l.takeWhile (fun x => befB x (turnT s)), befB x (turnT s) = true := fun x hx => List.all_eq_true.1 List.all_takeWhile x hx
    have hhd : ∀ x, (l.dropWhile (fun x => befB x (turnT s)))[0]? = some x → befB x (turnT s) = false := by
      intro x hx
      have := List.head?_dropWhile_not (fun x => befB x (turnT s)) l
      rw [← List.head?_eq_getElem?] at hx
      rw [hx] at this
      simpa using this
    generalize l.takeWhile (fun x => befB x (turnT s)) = A at *
    generalize l.dropWhile (fun x => befB x (turnT s)) = B at *
    subst e
    refine ⟨by simp, fun x h0 hx => ?_, fun x hx => ?_⟩
    · rw [List.getElem?_append_left (by omega)] at hx
      exact hall x (List.mem_of_getElem? hx)
    · rw [List.getElem?_append_right (by omega), Nat.sub_self] at hx
      exact hhd x hx
  have hput := srch_putT hch hsr
  have hti := town_ins htb hft (by rw [turn_find]; exact hno) hsr
  generalize (l.takeWhile fun x => befB x (turnT s)).length = q at *
  rw [← hput, ← hL] at hti
  have htn : townB nd (adsL nd l s) = true := by rw [hti]; simpa using h40
  have hq1 : q ≤ l.length := hsr.1
  have hat : (adsL nd l s)[q]? = some (turnT s) := by rw [hL, hput, insL_get hq1, if_neg (by omega), if_pos rfl]
  have hlt := (List.getElem?_eq_some_iff.1 hat).1
  have hst : isSt s.1 s.2.1 (turnT s) = true := by
    obtain ⟨a, b, c⟩ := s
    simp only [turnT, isSt]
    split <;> (simp only [Bool.and_eq_true, decide_eq_true_eq] at *; omega)
  obtain ⟨k, hkn, hk⟩ := townB_ok htn
  have hfi : stFind (adsL nd l s) s.1 s.2.1 = q := stFind_at hk.chain hat hst
  have hsb' := hsb
  rw [strB, Bool.and_eq_true, Bool.and_eq_true, Bool.and_eq_true] at hsb'
  have hok : closeOk nd (adsL nd l s) s.1 s.2.1 = true := by
    rw [closeOk, bothB, goodB, htn, hsb'.1.1.1, hsb'.1.1.2, hfi]
    simp
  refine ⟨by rw [adsN, if_pos h], hok, by rw [closeN, if_pos hok], ?_⟩
  rw [closeL, if_pos hok, hfi, Int.toNat_natCast, hL, hput, insL, cutL]
  have ht : (l.take q).length = q := by rw [List.length_take]; omega
  rw [List.append_assoc, List.take_append, List.drop_append, ht, Nat.sub_self, List.take_zero, List.append_nil, List.take_take, Nat.min_self, List.drop_of_length_le (by omega), List.nil_append, show q + 1 - q = 1 by omega]
  simp
theorem near_least {D : Nat → Int} {N : List Int} : ∀ m : Nat, (∀ b, nearK D N m = some b → ∀ n ∈ N.take m, 0 ≤ D n.toNat → D b.toNat ≤ D n.toNat) ∧ (nearK D N m = none → ∀ n ∈ N.take m, D n.toNat < 0) := by
  intro m
  induction m with
  | zero => simp
  | succ m ih =>
    cases hx : N[m]? with
    | none =>
      have e : N.take (m + 1) = N.take m := by rw [List.take_add_one, hx]; simp
      have e2 : nearK D N (m + 1) = nearK D N m := by rw [nearK, e]; rfl
      rw [e2, e]
      exact ih
    | some x =>
      have e : N.take (m + 1) = N.take m ++ [x] := by rw [List.take_add_one, hx]; rfl
      rw [nearK_succ hx, e]
      cases hk : nearK D N m with
      | none =>
        have hall := ih.2 hk
        simp only [nearS]
        split
        · refine ⟨fun b hb n hn h0 => ?_, fun hb => by cases hb⟩
          injection hb with hb
          subst hb
          rcases List.mem_append.1 hn with hn | hn
          · have := hall n hn; omega
          · simp at hn; subst hn; omega
        · refine ⟨fun b hb => (by cases hb), fun _ n hn => ?_⟩
          rcases List.mem_append.1 hn with hn | hn
          · exact hall n hn
          · simp at hn; subst hn; omega
      | some c =>
        have hle := ih.1 c hk
        have hc := (nearK_inv D N m c hk).2
        simp only [nearS]
        split
        · rename_i hcx
          refine ⟨fun b hb n hn h0 => ?_, fun hb => by cases hb⟩
          injection hb with hb
          subst hb
          rcases List.mem_append.1 hn with hn | hn
          · have := hle n hn h0; omega
          · simp at hn; subst hn; omega
        · rename_i hcx
          refine ⟨fun b hb n hn h0 => ?_, fun hb => by cases hb⟩
          injection hb with hb
          subst hb
          rcases List.mem_append.1 hn with hn | hn
          · exact hle n hn h0
          · simp at hn; subst hn; omega
theorem near_law {nd : Int} {l : List StT} {N : List Int} {j : Int} (h : nearOk nd l N j = true) : ∀ n ∈ N, travOk nd l n j = true → nearT nd l N j ≤ travV nd l n j := by
  intro n hn ht
  rw [nearOk, Option.isSome_iff_exists] at h
  obtain ⟨b, hb⟩ := h
  have hT := (near_some hb).2.1
  rw [nearR] at hb
  split at hb
  · have hv : travV nd l n j = timesF nd.toNat l n.toNat j.toNat := by rw [travV, if_pos ht]
    rw [travOk, Bool.and_eq_true, bothB, Bool.and_eq_true, goodB, Bool.and_eq_true, decide_eq_true_eq] at ht
    obtain ⟨⟨⟨htb, hnn⟩, hnj⟩, h0⟩ := ht
    obtain ⟨k, rfl, hk⟩ := townB_ok htb
    obtain ⟨x, rfl, hx⟩ := nodeB_ok hnn
    obtain ⟨y, rfl, hy⟩ := nodeB_ok hnj
    simp only [Int.toNat_natCast] at *
    have hsym := times_sym hk.fits hx hy
    have := (near_least (D := timesF k l y) (N := N) N.length).1 b hb x (by rw [List.take_length]; exact hn) (by simp only [Int.toNat_natCast]; omega)
    simp only [Int.toNat_natCast] at this
    rw [hT, hv, hsym]
    exact this
  · cases hb
end Go.Proofs.YtbhnaakknfienaaGreatDoor

/- Several texts in one. FnHydrantFlows: the plain law. No possible flows have more than the greatest sum; filled flows, and all that are full or held by a tight main, have it. FnHydrantFlows: what the drawn law asks, in terms of the contracts' values. The laws' own functions on lists of integers and on nets. The laws' own comparison of lists of integers, and their guard on sizes. -/
import Derived.Test.YtfcpgpmhjadanaaPqE
import Derived.Test.YtfcpgpmhjadanaaPqC
import Derived.Test.YtfcpgpmhjadanaaNetU
import Derived.Test.YtfcpgpmhjadanaaNetSc
import Derived.Test.YtfcpgpmhjadanaaPqG
import Derived.Test.YtfcpgpmhjadanaaNetWo
import Derived.Test.YtfcpgpmhjadanaaNetGs
import Derived.Test.YtfcpgpmhjadanaaPqD
import Derived.Test.YtfcpgpmhjadanaaSmall
import Derived.Test.YtfcpgpmhjadanaaRegions
import Derived.Test.YtfcpgpmhjadanaaNetM
import Derived.Deep.DeepCutAuto
import Derived.Deep.CutBlock
namespace Go.Proofs.Ytfcpgpmhjadanaa
open Go.RowKit
set_option linter.unusedVariables false

/-! ### The open hydrants at a main -/
theorem hasB_take {O : List Int} {j : Nat} {x y : Int} (h : O[j]? = some x) : hasB (O.take (j + 1)) y = (hasB (O.take j) y || decide (x = y)) := by
  rw [hasB, hasB, List.take_add_one, h, List.any_append]
  simp
theorem base_sum {H : List (Int × Int)} {O : List Int} (hr : risB 0 ((H.length : Int) - 1) O = true) (m : Nat) : ∀ j, j ≤ O.length → baseN H O j m = sumG (fun i => if isAt H i m && hasB (O.take j) (i : Int) then most H i else 0) H.length
  | 0, _ => by
    rw [baseN]
    have : (fun i => if isAt H i m && hasB (O.take 0) ((i : Nat) : Int) then most H i else 0) = fun _ => (0 : Int) := by
      funext i
      simp [hasB]
    rw [this, sumG_zero]
  | j + 1, hj => by
    have hx : O[j]? = some O[j] := List.getElem?_eq_getElem (by omega)
    obtain ⟨x0, x1⟩ := risB_mem hr (List.mem_of_getElem? hx)
    obtain ⟨i, hi⟩ := Int.eq_ofNat_of_zero_le x0
    rw [hi] at hx x1
    have hil : i < H.length := by omega
    have hh : H[i]? = some H[i] := List.getElem?_eq_getElem hil
    have hnot : hasB (O.take j) (i : Int) = false := by
      refine hasB_none fun q y hy e => ?_
      rw [List.getElem?_take] at hy
      split at hy
      · rename_i hq
        subst e
        have := risB_lt hr (j - q - 1) q _ _ hy (show O[q + (j - q - 1) + 1]? = some (i : Int) by rw [show q + (j - q - 1) + 1 = j by omega]; exact hx)
        omega
      · cases hy
    rw [baseN_succ hx hh]
    show (if H[i].1 = (m : Int) then baseN H O j m + H[i].2 else baseN H O j m) = _
    rw [base_sum hr m j (by omega)]
    rw [sumG_upd (g := fun i => if isAt H i m && hasB (O.take (j + 1)) ((i : Nat) : Int) then most H i else 0) (h := fun i => if isAt H i m && hasB (O.take j) ((i : Nat) : Int) then most H i else 0) (i := i) (fun q hq => by
      rw [hasB_take hx, show decide ((i : Int) = (q : Int)) = false by simp; omega, Bool.or_false]) H.length, if_pos hil]
    rw [hasB_take hx, hnot, isAt_some hh, most_some hh]
    by_cases hm : H[i].1 = (m : Int)
    · simp [hm]
    · simp [hm]

/-! ### No possible flows have more -/
theorem flow_le {M H : List (Int × Int)} (hk : NetOk M H) {O : List Int} (hr : risB 0 ((H.length : Int) - 1) O = true) {d : Nat → Int} (hf : Feas M H d) (h0 : ∀ i, i < H.length → hasB O (i : Int) = false → d i = 0) :
    ∀ (t x : Nat), x < M.length → M.length - x ≤ t → loadD M H d x H.length ≤ sumM M H O x
  | 0, x, hx, ht => by omega
  | t + 1, x, hx, ht => by
    have h1 := load_split hk d H.length (Nat.le_refl _) x
    have h2 := hf.all x hx
    have h3 : sumG (fun i => if isAt H i x then d i else 0) H.length ≤ baseN H O O.length x := by
      rw [base_sum hr x O.length (Nat.le_refl _), List.take_length]
      refine sumG_le _ fun i hi => ?_
      cases ha : isAt H i x with
      | false => simp
      | true =>
        cases ho : hasB O (i : Int) with
        | false => simp [h0 i hi ho]
        | true => simpa using (hf.each i hi).2
    have h4 : kidsN M (fun c => loadD M H d c H.length) x M.length ≤ kidsN M (sumM M H O) x M.length := kids_le _ fun c hc hp => by
      have := hk.par_lt hc
      exact flow_le hk hr hf h0 t c hc (by omega)
    rw [sumM_eq hk O hx]
    omega

/-! ### Full, or held by a tight main: as much -/
theorem flow_ge {M H : List (Int × Int)} (hk : NetOk M H) {O : List Int} (hr : risB 0 ((H.length : Int) - 1) O = true) {d : Nat → Int} (hd : ∀ i, i < H.length → 0 ≤ d i)
    (hfull : ∀ (i : Nat) (h : Int × Int), H[i]? = some h → hasB O (i : Int) = true → d i = h.2 ∨ ∃ a ∈ wayL M h.1, loadD M H d a H.length = lim M a) :
    ∀ (t x : Nat), x < M.length → M.length - x ≤ t → (∀ a ∈ wayL M (par M x), loadD M H d a H.length ≠ lim M a) → sumM M H O x ≤ loadD M H d x H.length
  | 0, x, hx, ht, _ => by omega
  | t + 1, x, hx, ht, hup => by
    rw [sumM_eq hk O hx]
    by_cases hti : loadD M H d x H.length = lim M x
    · omega
    · have hway : ∀ a ∈ wayL M (x : Int), loadD M H d a H.length ≠ lim M a := fun a ha => by
        rw [wayL_step hk hx] at ha
        rcases List.mem_cons.1 ha with rfl | ha
        · exact hti
        · exact hup a ha
      have h1 := load_split hk d H.length (Nat.le_refl _) x
      have h3 : baseN H O O.length x ≤ sumG (fun i => if isAt H i x then d i else 0) H.length := by
        rw [base_sum hr x O.length (Nat.le_refl _), List.take_length]
        refine sumG_le _ fun i hi => ?_
        have hh : H[i]? = some H[i] := List.getElem?_eq_getElem hi
        cases ha : isAt H i x with
        | false => simp
        | true =>
          cases ho : hasB O (i : Int) with
          | false => simpa using hd i hi
          | true =>
            rw [isAt_some hh, decide_eq_true_eq] at ha
            rcases hfull i _ hh ho with h | ⟨a, ha', h⟩
            · simp [most_some hh, h]
            · rw [ha] at ha'
              exact absurd h (hway a ha')
      have h4 : kidsN M (sumM M H O) x M.length ≤ kidsN M (fun c => loadD M H d c H.length) x M.length := kids_le _ fun c hc hp => by
        have := hk.par_lt hc
        exact flow_ge hk hr hd hfull t c hc (by omega) (by rw [hp]; exact hway)
      omega
/-! ### What IsGreatest takes has the greatest sum -/
structure Held (M H : List (Int × Int)) (O : List Int) (d : Nat → Int) : Prop where
  feas : Feas M H d
  out : ∀ i, i < H.length → hasB O (i : Int) = false → d i = 0
  full : ∀ (i : Nat) (h : Int × Int), H[i]? = some h → hasB O (i : Int) = true → d i = h.2 ∨ ∃ a ∈ wayL M h.1, loadD M H d a H.length = lim M a
theorem ig_held {M H : List (Int × Int)} (hk : NetOk M H) {O : List Int} {d : Nat → Int} (hfl : flowsB H (listD H.length d) = true) : igB M H O (listD H.length d) = true ↔ Held M H O d := by
  have hd := flowsB_iff.1 hfl
  have hov : withN overP M (loadsF M H (listD H.length d)) M.length = [] ↔ ∀ x, x < M.length → loadD M H d x H.length ≤ lim M x := by
    rw [withN_nil M.length (Nat.le_refl _)]
    constructor
    · intro h x hx
      have := h x hx
      rw [overP, decide_eq_false_iff_not, loadsF_at hk] at this
      omega
    · intro h x hx
      have := h x hx
      rw [overP, decide_eq_false_iff_not, loadsF_at hk]
      omega
  have htl : ∀ (h : Int × Int), h.1 < M.length → ((wayL M h.1).any (fun m => hasB (igTL M H (listD H.length d)) (m : Int)) = true ↔ ∃ a ∈ wayL M h.1, loadD M H d a H.length = lim M a) := by
    intro h hl
    rw [List.any_eq_true]
    constructor
    · rintro ⟨a, ha, hb⟩
      rw [igTL, withN_has a M.length (Nat.le_refl _), Bool.and_eq_true, tightP, beq_iff_eq, loadsF_at hk] at hb
      exact ⟨a, ha, hb.2⟩
    · rintro ⟨a, ha, hb⟩
      refine ⟨a, ha, ?_⟩
      rw [igTL, withN_has a M.length (Nat.le_refl _), Bool.and_eq_true, tightP, beq_iff_eq, loadsF_at hk]
      exact ⟨by simpa using wayL_mem hk hl ha, hb⟩
  constructor
  · intro h
    rw [igB, Bool.and_eq_true, decide_eq_true_eq, List.all_eq_true] at h
    obtain ⟨h1, h2⟩ := h
    refine ⟨⟨hd, hov.1 h1⟩, fun i hi ho => ?_, fun i x hx ho => ?_⟩
    · have := h2 i (by rw [listD_length]; exact List.mem_range.2 hi)
      rw [igStep_out (List.getElem?_eq_getElem hi) (listD_get hi) ho, decide_eq_true_eq] at this
      exact this
    · have hi : i < H.length := (List.getElem?_eq_some_iff.1 hx).1
      have hy := hk.hyd i x hx
      have := h2 i (by rw [listD_length]; exact List.mem_range.2 hi)
      rw [igStep_in hx (listD_get hi) ho, Bool.or_eq_true, decide_eq_true_eq, htl x (by omega)] at this
      exact this
  · intro h
    refine igB_of (hov.2 h.feas.all) fun i hi => ?_
    rw [listD_length] at hi
    have hx : H[i]? = some H[i] := List.getElem?_eq_getElem hi
    have hy := hk.hyd i _ hx
    cases ho : hasB O (i : Int) with
    | false =>
      rw [igStep_out hx (listD_get hi) ho, decide_eq_true_eq]
      exact h.out i hi ho
    | true =>
      rw [igStep_in hx (listD_get hi) ho, Bool.or_eq_true, decide_eq_true_eq, htl _ (by omega)]
      exact h.full i _ hx ho
theorem held_sum {M H : List (Int × Int)} (hk : NetOk M H) {O : List Int} (hr : risB 0 ((H.length : Int) - 1) O = true) {d : Nat → Int} (h : Held M H O d) : sumG d H.length = sumM M H O 0 := by
  have h0 : 0 < M.length := hk.m1
  have h1 := flow_le hk hr h.feas h.out M.length 0 h0 (by omega)
  have hp := (hk.main 0 _ (List.getElem?_eq_getElem h0)).1 rfl
  have h2 := flow_ge hk hr (fun i hi => (h.feas.each i hi).1) h.full M.length 0 h0 (by omega) (fun a ha => by
    rw [wayL_neg M _ (by rw [par_some (List.getElem?_eq_getElem h0), hp]; decide)] at ha
    cases ha)
  rw [load_root hk d H.length (Nat.le_refl _)] at h1 h2
  omega

/-! ### Filled flows -/
theorem fill_full {M H : List (Int × Int)} (hk : NetOk M H) {O : List Int} (hr : risB 0 ((H.length : Int) - 1) O = true) : ∀ j, j ≤ O.length → ∀ (q i : Nat) (h : Int × Int), q < j → O[q]? = some (i : Int) → H[i]? = some h →
    fillD M H O j i = h.2 ∨ ∃ a ∈ wayL M h.1, loadD M H (fillD M H O j) a H.length = lim M a
  | 0, _, q, i, h, hq, _, _ => by omega
  | j + 1, hj, q, i, h, hq, hOq, hh => by
    have hx : O[j]? = some O[j] := List.getElem?_eq_getElem (by omega)
    obtain ⟨x0, x1⟩ := risB_mem hr (List.mem_of_getElem? hx)
    obtain ⟨i0, hi0⟩ := Int.eq_ofNat_of_zero_le x0
    rw [hi0] at hx x1
    have hil : i0 < H.length := by omega
    have hh0 : H[i0]? = some H[i0] := List.getElem?_eq_getElem hil
    have hz : fillD M H O j i0 = 0 := fillD_out j (fun p hp e => by
      have := risB_lt hr (j - p - 1) p _ _ e (show O[p + (j - p - 1) + 1]? = some (i0 : Int) by rw [show p + (j - p - 1) + 1 = j by omega]; exact hx)
      omega) (fun x hx => (risB_mem hr hx).1)
    have hfe := fill_feas hk hr j (by omega)
    have hfe' := fill_feas hk hr (j + 1) hj
    have hy := hk.hyd i0 _ hh0
    have hv0 : 0 ≤ capL M (loadsF M H (listD H.length (fillD M H O j))) (wayL M (H[i0]).1) (H[i0]).2 := capL_pos (by omega) (fun m hm => by rw [loadsF_at hk]; exact hfe.all m (wayL_mem hk (by omega) hm))
    rw [fillD_succ hx hh0] at hfe' ⊢
    generalize hv : capL M (loadsF M H (listD H.length (fillD M H O j))) (wayL M (H[i0]).1) (H[i0]).2 = v at *
    by_cases hqj : q = j
    · subst hqj
      rw [hx] at hOq
      have hii : i0 = i := by injection hOq with e; omega
      subst hii
      rw [hh0] at hh
      injection hh with hh
      subst hh
      rcases capL_eq M (loadsF M H (listD H.length (fillD M H O q))) (wayL M (H[i0]).1) (H[i0]).2 with e | ⟨a, ha, e⟩
      · left
        rw [hv] at e
        rw [← e]
        unfold upd
        rw [if_pos rfl]
      · right
        refine ⟨a, ha, ?_⟩
        rw [hv, loadsF_at hk] at e
        rw [loadD_upd, if_pos ⟨hil, by rw [onWay, hh0]; simpa using ha⟩, hz]
        omega
    · have hne : i ≠ i0 := fun e => by
        subst e
        have := risB_lt hr (j - q - 1) q _ _ hOq (show O[q + (j - q - 1) + 1]? = some (i : Int) by rw [show q + (j - q - 1) + 1 = j by omega]; exact hx)
        omega
      rcases fill_full hk hr j (by omega) q i h (by omega) hOq hh with e | ⟨a, ha, e⟩
      · left
        unfold upd
        rw [if_neg hne]
        exact e
      · right
        refine ⟨a, ha, ?_⟩
        have hal : a < M.length := wayL_mem hk (by have := hk.hyd i h hh; omega) ha
        have h1 := hfe'.all a hal
        rw [loadD_upd, hz] at h1 ⊢
        split at h1
        · rename_i hc
          rw [if_pos hc]
          omega
        · rename_i hc
          rw [if_neg hc]
          omega
theorem hasB_get {O : List Int} {x : Int} (h : hasB O x = true) : ∃ q : Nat, O[q]? = some x := by
  rw [hasB, List.any_eq_true] at h
  obtain ⟨y, hy, e⟩ := h
  rw [decide_eq_true_eq] at e
  subst e
  exact List.mem_iff_getElem?.1 hy
theorem fill_held {M H : List (Int × Int)} (hk : NetOk M H) {O : List Int} (hr : risB 0 ((H.length : Int) - 1) O = true) : Held M H O (fillD M H O O.length) := by
  refine ⟨fill_feas hk hr O.length (Nat.le_refl _), fun i hi ho => fillD_out O.length (fun q hq e => ?_) (fun x hx => (risB_mem hr hx).1), fun i h hh ho => ?_⟩
  · rw [hasB_at e rfl] at ho
    cases ho
  · obtain ⟨q, hq⟩ := hasB_get ho
    exact fill_full hk hr O.length (Nat.le_refl _) q i h (List.getElem?_eq_some_iff.1 hq).1 hq hh

/-! ### The same flow for all, a main closed -/
theorem open_sum {k : Nat} {O : List Int} (hr : risB 0 ((k : Int) - 1) O = true) (f : Int) : ∀ j, j ≤ O.length → sumG (fun i => if hasB (O.take j) (i : Int) then f else 0) k = f * j
  | 0, _ => by
    have : (fun i => if hasB (O.take 0) ((i : Nat) : Int) then f else 0) = fun _ => (0 : Int) := by
      funext i
      simp [hasB]
    rw [this, sumG_zero]
    simp
  | j + 1, hj => by
    have hx : O[j]? = some O[j] := List.getElem?_eq_getElem (by omega)
    obtain ⟨x0, x1⟩ := risB_mem hr (List.mem_of_getElem? hx)
    obtain ⟨i, hi⟩ := Int.eq_ofNat_of_zero_le x0
    rw [hi] at hx x1
    have hnot : hasB (O.take j) (i : Int) = false := by
      refine hasB_none fun q y hy e => ?_
      rw [List.getElem?_take] at hy
      split at hy
      · rename_i hq
        subst e
        have := risB_lt hr (j - q - 1) q _ _ hy (show O[q + (j - q - 1) + 1]? = some (i : Int) by rw [show q + (j - q - 1) + 1 = j by omega]; exact hx)
        omega
      · cases hy
    rw [sumG_upd (g := fun i => if hasB (O.take (j + 1)) ((i : Nat) : Int) then f else 0) (h := fun i => if hasB (O.take j) ((i : Nat) : Int) then f else 0) (i := i) (fun q hq => by
      rw [hasB_take hx, show decide ((i : Int) = (q : Int)) = false by simp; omega, Bool.or_false]) k, if_pos (by omega), open_sum hr f j (by omega)]
    rw [hasB_take hx, hnot]
    simp only [Bool.false_or, decide_true, if_true]
    rw [Int.natCast_add, Int.mul_add]
    simp
theorem openD_has (O : List Int) (f : Int) : openD O f = fun (i : Nat) => if hasB O (i : Int) then f else 0 := by
  funext i
  unfold openD
  by_cases h : (i : Int) ∈ O
  · rw [if_pos h, if_pos]
    rw [hasB, List.any_eq_true]
    exact ⟨_, h, by simp⟩
  · rw [if_neg h, if_neg]
    intro e
    obtain ⟨q, hq⟩ := hasB_get e
    exact h (List.mem_of_getElem? hq)
theorem fair_sum {M H : List (Int × Int)} (hk : NetOk M H) {O : List Int} (hr : risB 0 ((H.length : Int) - 1) O = true) {f : Int} (hb : fairB M H O f = true) : f * O.length ≤ sumM M H O 0 := by
  rw [fairB, Bool.and_eq_true, decide_eq_true_eq] at hb
  have hf : Feas M H (openD O f) := ⟨flowsB_iff.1 hb.1, fun x hx => by
    have := (withN_nil M.length (Nat.le_refl _)).1 hb.2 x hx
    rw [decide_eq_false_iff_not, loadsF_at hk] at this
    omega⟩
  have h1 := flow_le hk hr hf (fun i hi ho => by rw [openD_has]; simp [ho]) M.length 0 hk.m1 (by omega)
  rw [load_root hk _ H.length (Nat.le_refl _), openD_has] at h1
  have h2 := open_sum hr f O.length (Nat.le_refl _)
  rw [List.take_length] at h2
  omega
theorem par_close {M : List (Int × Int)} {i : Nat} (hi : i < M.length) (c : Nat) : par (closeM M i) c = par M c := by
  unfold closeM
  by_cases hc : i = c
  · subst hc
    simp [par, hi]
  · simp [par, hc]
theorem lim_close {M : List (Int × Int)} {i : Nat} {H : List (Int × Int)} (hk : NetOk M H) {c : Nat} (hc : c < M.length) : lim (closeM M i) c ≤ lim M c := by
  have h0 := (hk.main c _ (List.getElem?_eq_getElem hc)).2.2.1
  unfold closeM
  by_cases h : i = c
  · subst h
    rw [lim_some (List.getElem?_eq_getElem hc)]
    simp [lim, hc]
    exact h0
  · simp [lim, h]
theorem close_le {M H : List (Int × Int)} (hk : NetOk M H) {i : Nat} (hi : i < M.length) (O : List Int) : ∀ (t x : Nat), x < M.length → M.length - x ≤ t → sumM (closeM M i) H O x ≤ sumM M H O x
  | 0, x, hx, ht => by omega
  | t + 1, x, hx, ht => by
    have hl : (closeM M i).length = M.length := closeM_length M i
    have h1 : kidsN (closeM M i) (sumM (closeM M i) H O) x (closeM M i).length ≤ kidsN M (sumM M H O) x M.length := by
      have e : ∀ j, kidsN (closeM M i) (sumM (closeM M i) H O) x j = kidsN M (sumM (closeM M i) H O) x j := by
        intro j
        induction j with
        | zero => rfl
        | succ j ih => rw [kidsN, kidsN, par_close hi, ih]
      rw [hl, e]
      refine kids_le _ fun c hc hp => ?_
      have := hk.par_lt hc
      exact close_le hk hi O t c hc (by omega)
    have h2 := lim_close (i := i) hk hx
    rw [sumM_eq hk O hx, sumM_eq (closeM_ok hk i hi) O (by rw [hl]; exact hx)]
    omega
theorem bestN_min (S : Nat → Int) : ∀ k i, i < k → S (bestN S k) ≤ S i
  | 0, i, h => by omega
  | k + 1, i, h => by
    rw [bestN]
    by_cases hi : i = k
    · subst hi
      split <;> omega
    · have := bestN_min S k i (by omega)
      split <;> omega
end Go.Proofs.Ytfcpgpmhjadanaa
namespace Go.Proofs.Ytfcpgpmhjadanaa
open Go.RowKit
set_option linter.unusedVariables false

theorem netB_of_ok {M H : List (Int × Int)} (hk : NetOk M H) : netB M H = true := by
  have h1 := hk.m1
  have h2 := hk.m10
  have h3 := hk.h10
  rw [netB, Bool.and_eq_true, Bool.and_eq_true, Bool.and_eq_true, inB_iff, decide_eq_true_eq, List.all_eq_true]
  refine ⟨⟨⟨by omega, h3⟩, mainsB_of fun i hi => ?_⟩, fun x hx => ?_⟩
  · have hm : M[i]? = some M[i] := List.getElem?_eq_getElem hi
    obtain ⟨a, b, c⟩ := hk.main i _ hm
    rw [mstepB_some hm, mnB, Bool.and_eq_true, inB_iff]
    refine ⟨?_, c⟩
    by_cases h0 : i = 0
    · rw [if_pos h0, decide_eq_true_eq]; exact a h0
    · rw [if_neg h0, inB_iff]; exact b (by omega)
  · obtain ⟨i, hi⟩ := List.mem_iff_getElem?.1 hx
    obtain ⟨a, b, c, e⟩ := hk.hyd i x hi
    rw [hydB, Bool.and_eq_true, inB_iff, inB_iff]
    omega
theorem open_parts {M H : List (Int × Int)} {O : List Int} (h : openB M H O = true) : netB M H = true ∧ NetOk M H ∧ risB 0 ((H.length : Int) - 1) O = true := by
  rw [openB, Bool.and_eq_true] at h
  exact ⟨h.1, netB_ok h.1, h.2⟩
theorem gr_bd (M H : List (Int × Int)) (O : List Int) : 0 ≤ grV M H O ∧ grV M H O ≤ 5000 := by
  unfold grV
  split
  · rename_i h
    have hk := (open_parts h).2.1
    exact sumM_bd hk O hk.m1
  · omega
/-- The filled flows. -/
theorem hy1 {M H : List (Int × Int)} {O : List Int} (h : openB M H O = true) :
    askB M H (fiL M H O) = true ∧ ovL overP M H (fiL M H O) = [] ∧ igOk M H O (fiL M H O) = true ∧ igV M H O (fiL M H O) = true ∧ (fiL M H O).sum = grV M H O ∧ (fiL M H O).length ≤ 10 ∧ ∀ x ∈ fiL M H O, 0 ≤ x ∧ x ≤ 5000 := by
  obtain ⟨hn, hk, hr⟩ := open_parts h
  have hf := fill_held hk hr
  have hfl : flowsB H (listD H.length (fillD M H O O.length)) = true := flowsB_iff.2 hf.feas.each
  have hig := (ig_held hk hfl).2 hf
  have hfi : fiL M H O = listD H.length (fillD M H O O.length) := by rw [fiL, if_pos h]
  rw [hfi]
  have hask : askB M H (listD H.length (fillD M H O O.length)) = true := by rw [askB, hn, hfl]; rfl
  have hio : igOk M H O (listD H.length (fillD M H O O.length)) = true := by rw [igOk, h, hfl]; rfl
  refine ⟨hask, ?_, hio, by rw [igV_yes hio]; exact hig, ?_, (flows_bd hk hfl).1, (flows_bd hk hfl).2⟩
  · rw [ovL, if_pos hask]
    rw [igB, Bool.and_eq_true, decide_eq_true_eq] at hig
    exact hig.1
  · rw [sum_listD, held_sum hk hr hf, grV_yes h]
/-- The same flow for all. -/
theorem hy2 {M H : List (Int × Int)} {O : List Int} (h : fairOk M H O = true) : 0 ≤ faV M H O * (O.length : Int) ∧ faV M H O * (O.length : Int) ≤ grV M H O := by
  have hf := h
  rw [fairOk, Bool.and_eq_true] at h
  obtain ⟨hn, hk, hr⟩ := open_parts h.1
  have hO : ∀ x ∈ O, 0 ≤ x ∧ x < (H.length : Int) := fun x hx => by have := risB_mem hr hx; omega
  have hb := fairV_bd hk (F := O) (fun x hx => (hO x hx).1)
  rw [faV_yes hf, grV_yes h.1]
  refine ⟨Int.mul_nonneg hb.1 (by omega), ?_⟩
  by_cases h1 : 1 ≤ fairV M H O
  · exact fair_sum hk hr ((fair_iff hk hO h1 hb.2).2 (Int.le_refl _))
  · have h0 : fairV M H O = 0 := by omega
    rw [h0, Int.zero_mul]
    exact (sumM_bd hk O hk.m1).1
theorem open_close {M H : List (Int × Int)} {O : List Int} (h : openB M H O = true) {i : Nat} (hi : i < M.length) : openB (closeM M i) H O = true := by
  obtain ⟨hn, hk, hr⟩ := open_parts h
  rw [openB, netB_of_ok (closeM_ok hk i hi), hr]
  rfl
theorem wo_nat {M H : List (Int × Int)} {O : List Int} (h : openB M H O = true) {i : Nat} (hi : i < M.length) : woOk M H (i : Int) = true ∧ woM M H (i : Int) = closeM M i ∧ woH M H (i : Int) = H := by
  have hw : woOk M H (i : Int) = true := by rw [woOk, (open_parts h).1, Bool.true_and, inB_iff]; omega
  exact ⟨hw, by rw [woM, if_pos hw, Int.toNat_natCast], by rw [woH, if_pos hw]⟩
/-- The main that is missed most. -/
theorem hy3 {M H : List (Int × Int)} {O : List Int} (h : openB M H O = true) : ∃ i : Nat, scV M H O = (i : Int) ∧ i < M.length ∧ grV (closeM M i) H O ≤ grV M H O ∧ ∀ j : Nat, j < M.length → grV (closeM M i) H O ≤ grV (closeM M j) H O := by
  obtain ⟨hn, hk, hr⟩ := open_parts h
  have hlt := bestN_lt (scS M H O) M.length hk.m1
  refine ⟨bestN (scS M H O) M.length, scV_yes h, hlt, ?_, fun j hj => ?_⟩
  · rw [grV_yes (open_close h hlt), grV_yes h]
    exact close_le hk hlt O M.length 0 hk.m1 (by omega)
  · rw [grV_yes (open_close h hlt), grV_yes (open_close h hj)]
    exact bestN_min (scS M H O) M.length j hj
/-- Flows that IsGreatest takes. -/
theorem hy4 {M H : List (Int × Int)} {O F : List Int} (h1 : igOk M H O F = true) (h2 : igV M H O F = true) : openB M H O = true ∧ F.sum = grV M H O ∧ F.length ≤ 10 ∧ ∀ x ∈ F, 0 ≤ x ∧ x ≤ 5000 := by
  rw [igV_yes h1] at h2
  rw [igOk, Bool.and_eq_true] at h1
  obtain ⟨hn, hk, hr⟩ := open_parts h1.1
  have hl := (flowsB_get h1.2).1
  have hb := flows_bd hk h1.2
  have e := list_as hl
  refine ⟨h1.1, ?_, hb⟩
  have hfl := h1.2
  rw [e] at h2 hfl ⊢
  have hd := (ig_held hk hfl).1 h2
  rw [sum_listD, held_sum hk hr hd, grV_yes h1.1]
end Go.Proofs.Ytfcpgpmhjadanaa
namespace Go.Proofs.Ytfcpgpmhjadanaa
open Go.RowKit
set_option linter.unusedVariables false

theorem sum_take {l : List Int} {k : Nat} {x : Int} (h : l[k]? = some x) : (l.take (k + 1)).sum = (l.take k).sum + x := by
  rw [List.take_add_one, h, List.sum_append]
  simp
theorem sum_take_bd {l : List Int} (h : ∀ x ∈ l, 0 ≤ x ∧ x ≤ 5000) : ∀ k : Nat, 0 ≤ (l.take k).sum ∧ (l.take k).sum ≤ 5000 * k
  | 0 => by simp
  | k + 1 => by
    have ih := sum_take_bd h k
    cases hk : l[k]? with
    | none => rw [List.take_add_one, hk]; simp; omega
    | some x =>
      have hx := h x (List.mem_of_getElem? hk)
      rw [sum_take hk]
      omega

set_option maxHeartbeats 2000000 in
theorem pSum_any (A : Option Addr) (n c : Nat) (l : List Int) (w : World) (hn : n = l.length) (hm : n ≤ 1000) (hl : ∀ x ∈ l, 0 ≤ x ∧ x ≤ 5000) (hr : Rd w A (l.map (Value.int .i64))) :
    Calls Try.prog 17 #[.slice A n c] w fun e w' => e = .returned (.int .i64 l.sum) ∧ Below w.heap.size w w' := by
  have Hn := hide hn
  have Hr := hide hr
  have Hl := hide hl
  clear hn hr hl
  go_enter Try.func17, Try.ntmps17
  go_wp2_with fail
  go_loopw [3, 8] (fun s t wr => ∃ k : Nat, k ≤ n ∧ t = .int .i64 k ∧ s = .int .i64 (l.take k).sum ∧ Below w.heap.size w wr) (fun _ t _ => n - (intOf t).toNat)
  case atStart => exact ⟨0, by omega, rfl, by simp, Below.refl _ _⟩
  case round =>
    obtain ⟨k, hk, rfl, rfl, hb⟩ := hrel
    by_cases hlt : k < n
    · obtain ⟨x, hl0⟩ : ∃ x, l[k]? = some x := ⟨_, List.getElem?_eq_getElem (by rw [← Hn.out]; exact hlt)⟩
      have hx : (l.map (Value.int .i64))[k]? = some (.int .i64 x) := by rw [List.getElem?_map, hl0]; rfl
      obtain ⟨b, off, rfl, hbs, c0⟩ := (Hr.out.below hb).get1 hx
      have hbd := sum_take_bd Hl.out k
      have hxb := Hl.out x (List.mem_of_getElem? hl0)
      have HS := hide (sum_take hl0)
      have hi0 : (0 : Int) ≤ (k : Int) := by omega
      have hi1 : (k : Int) < (n : Int) := by omega
      obtain ⟨s, hs⟩ : ∃ s, s = (l.take k).sum := ⟨_, rfl⟩
      rw [← hs] at hbd HS ⊢
      clear hx hl0 hs
      have hw : IntKind.i64.wrap (s + x) = s + x := IntWalk.i64_in _ (by omega)
      go_wp2
      go_roundw
      case rel => exact ⟨k + 1, by omega, by go_num, by rw [HS.out], hb⟩
      case measure => simp [intOf]; omega
    · have hkn : ((k : Int) < (n : Int)) = False := by simp; omega
      go_wp2
      go_ret
      exact ⟨ret_int (by rw [List.take_of_length_le (by have := Hn.out; omega)]), hb⟩

set_option maxHeartbeats 2000000 in
theorem pSameMains_same (A B : Option Addr) (n c d : Nat) (l : List (Int × Int)) (w : World) (hn : n = l.length) (hm : n ≤ 1048576) (hr : Rd w A (l.flatMap mcells)) (hs : Rd w B (l.flatMap mcells)) :
    Calls Try.prog 43 #[.slice A n c, .slice B n d] w fun e w' => e = .returned (.bool true) ∧ Below w.heap.size w w' := by
  have Hn := hide hn
  have Hr := hide hr
  have Hs := hide hs
  clear hn hr hs
  go_enter Try.func43, Try.ntmps43
  go_wp2_with fail
  go_loopw [13] (fun t wr => ∃ k : Nat, k ≤ n ∧ t = .int .i64 k ∧ Below w.heap.size w wr) (fun t _ => n - (intOf t).toNat)
  case atStart => exact ⟨0, by omega, rfl, Below.refl _ _⟩
  case round =>
    obtain ⟨k, hk, rfl, hb⟩ := hrel
    by_cases hlt : k < n
    · obtain ⟨⟨x0, x1⟩, hh⟩ : ∃ h, l[k]? = some h := ⟨_, List.getElem?_eq_getElem (by rw [← Hn.out]; exact hlt)⟩
      obtain ⟨b, off, rfl, hbs, c0, c1⟩ := (Hr.out.below hb).get2 (fun _ => rfl) hh rfl
      obtain ⟨b', off', rfl, hbs', d0, d1⟩ := (Hs.out.below hb).get2 (fun _ => rfl) hh rfl
      clear hh
      have hi0 : (0 : Int) ≤ (k : Int) := by omega
      have hi1 : (k : Int) < (n : Int) := by omega
      go_wp2_with fail
      refine wp_region_later (by kernel_rfl) (by kernel_rfl) ?_
      repeat (go_big_quiet_step (fail))
      refine wpQuiet_nil ?_
      refine later_intro fun w1 hb1 => ?_
      go_wp2
      go_roundw
      case rel => exact ⟨k + 1, by omega, by go_num, below_step hb hb1⟩
      case measure => simp [intOf]; omega
    · have hkn : ((k : Int) < (n : Int)) = False := by simp; omega
      go_wp2
      go_ret
      exact ⟨rfl, hb⟩
set_option maxHeartbeats 2000000 in
theorem pSameHydrants_same (A B : Option Addr) (n c d : Nat) (l : List (Int × Int)) (w : World) (hn : n = l.length) (hm : n ≤ 1048576) (hr : Rd w A (l.flatMap mcells)) (hs : Rd w B (l.flatMap mcells)) :
    Calls Try.prog 44 #[.slice A n c, .slice B n d] w fun e w' => e = .returned (.bool true) ∧ Below w.heap.size w w' := by
  have Hn := hide hn
  have Hr := hide hr
  have Hs := hide hs
  clear hn hr hs
  go_enter Try.func44, Try.ntmps44
  go_wp2_with fail
  go_loopw [13] (fun t wr => ∃ k : Nat, k ≤ n ∧ t = .int .i64 k ∧ Below w.heap.size w wr) (fun t _ => n - (intOf t).toNat)
  case atStart => exact ⟨0, by omega, rfl, Below.refl _ _⟩
  case round =>
    obtain ⟨k, hk, rfl, hb⟩ := hrel
    by_cases hlt : k < n
    · obtain ⟨⟨x0, x1⟩, hh⟩ : ∃ h, l[k]? = some h := ⟨_, List.getElem?_eq_getElem (by rw [← Hn.out]; exact hlt)⟩
      obtain ⟨b, off, rfl, hbs, c0, c1⟩ := (Hr.out.below hb).get2 (fun _ => rfl) hh rfl
      obtain ⟨b', off', rfl, hbs', d0, d1⟩ := (Hs.out.below hb).get2 (fun _ => rfl) hh rfl
      clear hh
      have hi0 : (0 : Int) ≤ (k : Int) := by omega
      have hi1 : (k : Int) < (n : Int) := by omega
      go_wp2_with fail
      refine wp_region_later (by kernel_rfl) (by kernel_rfl) ?_
      repeat (go_big_quiet_step (fail))
      refine wpQuiet_nil ?_
      refine later_intro fun w1 hb1 => ?_
      go_wp2
      go_roundw
      case rel => exact ⟨k + 1, by omega, by go_num, below_step hb hb1⟩
      case measure => simp [intOf]; omega
    · have hkn : ((k : Int) < (n : Int)) = False := by simp; omega
      go_wp2
      go_ret
      exact ⟨rfl, hb⟩

set_option maxHeartbeats 2000000 in
theorem pSameNet_same (A B A' B' : Option Addr) (n m c d c' d' : Nat) (M H : List (Int × Int)) (w : World) (hn : n = M.length) (hm : m = H.length) (hnm : n ≤ 1048576) (hmm : m ≤ 1048576) (hr : NetRd w A B M H) (hs : NetRd w A' B' M H) :
    Calls Try.prog 20 #[.agg #[.slice A n c, .slice B m d], .agg #[.slice A' n c', .slice B' m d']] w fun e w' => e = .returned (.bool true) ∧ Below w.heap.size w w' := by
  have Q1 := hide (fun (W : World) (h : Below w.heap.size w W) => pSameMains_same A A' n c c' M W hn hnm (hr.1.below h) (hs.1.below h))
  have Q2 := hide (fun (W : World) (h : Below w.heap.size w W) => pSameHydrants_same B B' m d d' H W hm hmm (hr.2.below h) (hs.2.below h))
  have HX := hide ((Row.new w #[.slice A n c, .slice B m d] 27).alloc (.cells #[.slice A' n c', .slice B' m d'] 27))
  have HY0 := Row.new (w.alloc (.cells #[.slice A n c, .slice B m d] 27)) #[.slice A' n c', .slice B' m d'] 27
  rw [show (w.alloc (.cells #[.slice A n c, .slice B m d] 27)).heap.size = w.heap.size + 1 by simp] at HY0
  have HY := hide HY0
  have HB := hide (below_alloc (below_alloc (Below.refl w.heap.size w) (.cells #[.slice A n c, .slice B m d] 27)) (.cells #[.slice A' n c', .slice B' m d'] 27))
  clear hn hm hr hs HY0
  go_enter Try.func20, Try.ntmps20
  go_upto_region 1 with fail
  generalize (w.alloc (.cells #[.slice A n c, .slice B m d] 27)).alloc (.cells #[.slice A' n c', .slice B' m d'] 27) = w1 at *
  have a0 := HX.out.2.1 0 _ rfl
  have a1 := HX.out.2.1 1 _ rfl
  have az := HX.out.1
  have b0 := HY.out.2.1 0 _ rfl
  have b1 := HY.out.2.1 1 _ rfl
  have bz := HY.out.1
  go_wp2_with fail
  refine (Q1.out _ HB.out).mono ?_
  rintro e w2 ⟨rfl, hq⟩
  replace HX := hide (HX.out.below hq)
  replace HY := hide (HY.out.below hq)
  replace HB := hide (below_step HB.out hq)
  clear hq a0 a1 az b0 b1 bz Q1
  have a0 := HX.out.2.1 0 _ rfl
  have a1 := HX.out.2.1 1 _ rfl
  have az := HX.out.1
  have b0 := HY.out.2.1 0 _ rfl
  have b1 := HY.out.2.1 1 _ rfl
  have bz := HY.out.1
  go_wp2_with fail
  refine (Q2.out _ HB.out).mono ?_
  rintro e w3 ⟨rfl, hq⟩
  replace HB := hide (below_step HB.out hq)
  clear hq
  go_wp2_with fail
  go_ret
  exact ⟨rfl, HB.out⟩
end Go.Proofs.Ytfcpgpmhjadanaa
namespace Go.Proofs.Ytfcpgpmhjadanaa
open Go.RowKit
set_option linter.unusedVariables false

set_option maxHeartbeats 2000000 in
theorem sameInts_same (A B : Option Addr) (n c d : Nat) (l : List Int) (w : World) (hn : n = l.length) (hm : n ≤ 1048576) (hr : Rd w A (l.map (Value.int .i64))) (hs : Rd w B (l.map (Value.int .i64))) :
    Calls Try.prog 14 #[.slice A n c, .slice B n d] w fun e w' => e = .returned (.bool true) ∧ Below w.heap.size w w' := by
  have Hn := hide hn
  have Hr := hide hr
  have Hs := hide hs
  clear hn hr hs
  go_enter Try.func14, Try.ntmps14
  go_wp2_with fail
  go_loopw [13] (fun t wr => ∃ k : Nat, k ≤ n ∧ t = .int .i64 k ∧ Below w.heap.size w wr) (fun t _ => n - (intOf t).toNat)
  case atStart => exact ⟨0, by omega, rfl, Below.refl _ _⟩
  case round =>
    obtain ⟨k, hk, rfl, hb⟩ := hrel
    by_cases hlt : k < n
    · obtain ⟨x, hx⟩ : ∃ x, (l.map (Value.int .i64))[k]? = some (.int .i64 x) := by
        have : k < l.length := by rw [← Hn.out]; exact hlt
        exact ⟨l[k], by simp [this]⟩
      obtain ⟨b, off, rfl, hbs, c0⟩ := (Hr.out.below hb).get1 hx
      obtain ⟨b', off', rfl, hbs', d0⟩ := (Hs.out.below hb).get1 hx
      clear hx
      have hi0 : (0 : Int) ≤ (k : Int) := by omega
      have hi1 : (k : Int) < (n : Int) := by omega
      go_wp2_with fail
      refine wp_region_later (by kernel_rfl) (by kernel_rfl) ?_
      repeat (go_big_quiet_step (fail))
      refine wpQuiet_nil ?_
      refine later_intro fun w1 hb1 => ?_
      go_wp2
      go_roundw
      case rel => exact ⟨k + 1, by omega, by go_num, below_step hb hb1⟩
      case measure => simp [intOf]; omega
    · have hkn : ((k : Int) < (n : Int)) = False := by simp; omega
      go_wp2
      go_ret
      exact ⟨rfl, hb⟩

def AnyBool (w : World) (e : Ending) (w' : World) : Prop := (∃ b : Bool, e = .returned (.bool b)) ∧ w = w'

set_option maxHeartbeats 1000000 in
theorem big_any (A B : Option Addr) (n c m k : Nat) (w : World) (hn : n ≤ 9223372036854775807) (hm : m ≤ 9223372036854775807) :
    Calls Try.prog 4 #[.slice A n c, .slice B m k] w (AnyBool w) := by
  by_cases h : (1048576 : Int) < (n : Int)
  · have h' : decide ((1048576 : Int) < (n : Int)) = true := by simpa using h
    go_enter Try.func4, Try.ntmps4
    go_wp2
    go_ret
    exact ⟨⟨_, rfl⟩, rfl⟩
  · have h' : decide ((1048576 : Int) < (n : Int)) = false := by simpa using h
    go_enter Try.func4, Try.ntmps4
    go_wp2
    go_ret
    exact ⟨⟨_, rfl⟩, rfl⟩
end Go.Proofs.Ytfcpgpmhjadanaa

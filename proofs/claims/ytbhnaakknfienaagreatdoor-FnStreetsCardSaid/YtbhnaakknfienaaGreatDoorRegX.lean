/- Regions that draw their order, in which an append or a store behind the loads may break what the loads rest on. -/
import Derived.Test.YtbhnaakknfienaaGreatDoorRegionsE
namespace Go.Proofs.YtbhnaakknfienaaGreatDoor
open Go.RowKit

section
variable {P : Program} {ops : Array Oper} {Q : Exit → Act → World → Prop} {md : Region.Mode} {S : World → Prop} {X : List Nat}
/-- Whatever order is picked from here on; S holds behind every operation, until one of X has come up. -/
def wpAnyX (P : Program) (md : Region.Mode) (ops : Array Oper) (Q : Exit → Act → World → Prop) (S : World → Prop) (X : List Nat) : Nat → Array Bool → Act → World → Prop
  | 0, listed, a, w => Region.ready md ops listed = [] ∧ Q .normal a w
  | fuel + 1, listed, a, w =>
    (Region.ready md ops listed = [] → Q .normal a w) ∧
    ∀ i ∈ Region.ready md ops listed, wpOp P ops Q i (fun a' w' => (S w' ∨ ∃ x ∈ X, (listed.setIfInBounds i true).getD x false = true) ∧ wpAnyX P md ops Q S X fuel (listed.setIfInBounds i true) a' w') a w
theorem wpAny_of_X : ∀ (fuel : Nat) (listed : Array Bool) (a : Act) (w : World), wpAnyX P md ops Q S X fuel listed a w → wpAny P md ops Q fuel listed a w
  | 0, _, _, _, h => h
  | fuel + 1, _, _, _, h => ⟨h.1, fun i hi => wpOp_mono (fun a' w' h' => wpAny_of_X fuel _ a' w' h'.2) (h.2 i hi)⟩
/-- x waits for i, directly or by others. -/
def waits (md : Region.Mode) (ops : Array Oper) : Nat → Nat → Nat → Bool
  | 0, _, _ => false
  | k + 1, x, i => match ops[x]? with | some o => o.after.any (fun e => Region.binds md e && (e.on == i || waits md ops k e.on i)) | none => false
/-- What has come up had nothing to wait for. -/
def Clo (md : Region.Mode) (ops : Array Oper) (listed : Array Bool) : Prop := ∀ j o, ops[j]? = some o → listed.getD j false = true → ∀ e ∈ o.after, Region.binds md e = true → listed.getD e.on false = true
def cloB (md : Region.Mode) (ops : Array Oper) (listed : Array Bool) : Bool := (List.range ops.size).all fun j => !listed.getD j false || (match ops[j]? with | some o => o.after.all (fun e => !Region.binds md e || listed.getD e.on false) | none => true)
theorem cloB_spec {listed : Array Bool} (h : cloB md ops listed = true) : Clo md ops listed := by
  intro j o ho hj e he hb
  have h1 := List.all_eq_true.1 h j (List.mem_range.2 (Array.getElem?_eq_some_iff.1 ho).1)
  rw [ho, hj] at h1
  have h2 : o.after.all (fun e => !Region.binds md e || listed.getD e.on false) = true := by simpa using h1
  have h3 := Array.all_eq_true'.1 h2 e he
  rw [hb] at h3
  simpa using h3
theorem Clo.step {listed : Array Bool} {j : Nat} (h : Clo md ops listed) (hj : j ∈ Region.ready md ops listed) : Clo md ops (listed.setIfInBounds j true) := by
  intro k o ho hk e he hb
  by_cases hkj : j = k
  · subst hkj
    obtain ⟨-, o', ho', hall⟩ := mem_ready.1 hj
    rw [ho] at ho'
    injection ho' with ho'
    subst ho'
    exact getD_set_true (hall e he hb)
  · rw [getD_set_ne false hkj] at hk
    exact getD_set_true (h k o ho hk e he hb)
theorem not_waits {listed : Array Bool} {i : Nat} (h : Clo md ops listed) (hi : listed.getD i false = false) : ∀ (k x : Nat), waits md ops k x i = true → ∀ o, ops[x]? = some o → ¬ (∀ e ∈ o.after, Region.binds md e = true → listed.getD e.on false = true)
  | 0, x, hw, o, ho, _ => by cases hw
  | k + 1, x, hw, o, ho, hall => by
    unfold waits at hw
    rw [ho] at hw
    obtain ⟨e, he, hb⟩ := Array.any_eq_true'.1 hw
    rw [Bool.and_eq_true, Bool.or_eq_true] at hb
    have h1 := hall e he hb.1
    rcases hb.2 with h2 | h2
    · rw [show e.on = i by simpa using h2, hi] at h1
      cases h1
    · cases hy : ops[e.on]? with
      | none =>
        cases k with
        | zero => cases h2
        | succ k => unfold waits at h2; rw [hy] at h2; cases h2
      | some o' => exact not_waits h hi k e.on h2 o' hy (h e.on o' hy h1)
def waitX (md : Region.Mode) (ops : Array Oper) (X : List Nat) (i : Nat) : Bool := X.all fun x => x != i && (ops[x]?).isSome && waits md ops 8 x i
theorem waitX_spec {i x : Nat} (h : waitX md ops X i = true) (hx : x ∈ X) : x ≠ i ∧ (∃ o, ops[x]? = some o) ∧ waits md ops 8 x i = true := by
  unfold waitX at h
  rw [List.all_eq_true] at h
  have h1 := h x hx
  rw [Bool.and_eq_true, Bool.and_eq_true] at h1
  exact ⟨by simpa using h1.1.1, Option.isSome_iff_exists.1 h1.1.2, h1.2⟩
theorem ready_false {i : Nat} {listed : Array Bool} (hr : i ∈ Region.ready md ops listed) : listed.getD i false = false := by
  have h0 := (mem_ready.1 hr).1
  rcases Nat.lt_or_ge i listed.size with h' | h'
  · simp [h'] at h0 ⊢; exact h0
  · simp [Array.getElem?_eq_none h'] at h0
theorem unlisted_X {i x : Nat} {listed : Array Bool} (hX : waitX md ops X i = true) (h : Clo md ops listed) (hr : i ∈ Region.ready md ops listed) (hx : x ∈ X) : listed.getD x false = false := by
  obtain ⟨-, ⟨o, ho⟩, hw⟩ := waitX_spec hX hx
  cases hl : listed.getD x false with
  | false => rfl
  | true => exact absurd (h x o ho hl) (not_waits h (ready_false hr) 8 x hw o ho)

theorem wpAnyX_first {i : Nat} {oi : Oper} {v : Value} (hi : ops[i]? = some oi) (hsel : ∀ (j : Nat) (o : Oper) cs b, ops[j]? = some o → o.op ≠ .select cs b)
    (hQ : ∀ c a w, Q (.panic c) (a.put oi.dst v) w → Q (.panic c) a w) (hX : waitX md ops X i = true) :
    ∀ (fuel : Nat) (listed : Array Bool) (a : Act) (w : World),
      (∀ j oj, ops[j]? = some oj → j ≠ i → listed.getD j true = false → (∀ e ∈ oj.after, Region.binds md e = true → e.on ≠ i) → oi.apart ops oj = true) →
      Clo md ops listed →
      i ∈ Region.ready md ops listed → YieldsIf P ops S oi v a → S w →
      wpAnyX P md ops Q S X fuel (listed.setIfInBounds i true) (a.put oi.dst v) w → wpAnyX P md ops Q S X (fuel + 1) listed a w := by
  intro fuel
  induction fuel with
  | zero =>
    intro listed a w _ _ hr hy hS H
    refine ⟨fun h => (by rw [h] at hr; cases hr), fun j hj => ?_⟩
    by_cases hji : j = i
    · subst hji; exact hy.wpOp hi hS ⟨.inl hS, H⟩
    · have := ready_mono hj hji
      rw [H.1] at this
      cases this
  | succ fuel ih =>
    intro listed a w hfree hC hr hy hS H
    refine ⟨fun h => (by rw [h] at hr; cases hr), fun j hj => ?_⟩
    by_cases hji : j = i
    · subst hji; exact hy.wpOp hi hS ⟨.inl hS, H⟩
    · have h1 := H.2 j (ready_mono hj hji)
      obtain ⟨hjun, oj, hoj, hall⟩ := mem_ready.1 hj
      have hnot : ∀ e ∈ oj.after, Region.binds md e = true → e.on ≠ i := fun e he hb heq => by
        have h1 := hall e he hb
        have h0 := (mem_ready.1 hr).1
        rw [heq] at h1
        rcases Nat.lt_or_ge i listed.size with h' | h'
        · simp [h'] at h0 h1; rw [h0] at h1; cases h1
        · simp [Array.getElem?_eq_none h'] at h1
      have hjX : j ∉ X := fun hjX => not_waits hC (ready_false hr) 8 j (waitX_spec hX hjX).2.2 oj hoj hall
      have h2 := wpOp_putIf hoj (hfree j oj hoj hji hjun hnot) (fun cs b => hsel i oi cs b hi) (fun cs b => hsel j oj cs b hoj) hQ hy h1
      have hfree' : ∀ k ok, ops[k]? = some ok → k ≠ i → (listed.setIfInBounds j true).getD k true = false →
          (∀ e ∈ ok.after, Region.binds md e = true → e.on ≠ i) → oi.apart ops ok = true := fun k ok hk hki hun hno => by
        refine hfree k ok hk hki ?_ hno
        by_cases hjk : j = k
        · subst hjk; exact hjun
        · rw [getD_set_ne true hjk] at hun; exact hun
      have hC' : Clo md ops (listed.setIfInBounds j true) := hC.step hj
      refine wpOp_mono (fun a' w' h3 => ?_) h2
      have hS' : S w' := by
        rcases h3.2.1 with h | ⟨x, hx, h⟩
        · exact h
        · rw [getD_set_ne false (show j ≠ x from fun e => hjX (e ▸ hx)), getD_set_ne false (fun e => (waitX_spec hX hx).1 e.symm), unlisted_X hX hC hr hx] at h
          cases h
      refine ⟨.inl hS', ih (listed.setIfInBounds j true) a' w' hfree' hC' (ready_mono hr (Ne.symm hji)) h3.1 hS' ?_⟩
      rw [Array.setIfInBounds_comm _ _ hji]
      exact h3.2.2

theorem wpAnyX_phase (hs : Region.noSelect ops = true) (hQ : ∀ c a d v w, Q (.panic c) (Act.put a d v) w → Q (.panic c) a w) : ∀ (is : List Nat) (l : List Oper) (fuel : Nat) (listed listed' : Array Bool) (a : Act) (w : World),
    phaseE md ops is listed = true → is.all (waitX md ops X) = true → Clo md ops listed → is.filterMap (fun i => ops[i]?) = l → listAll is listed = listed' → S w →
    wpQuiet P ops S (fun a' => wpAnyX P md ops Q S X fuel listed' a' w) l a →
    wpAnyX P md ops Q S X (is.length + fuel) listed a w
  | [], l, fuel, listed, listed', a, w, _, _, _, hl, hL, _, h => by
    simp at hl
    subst hl
    simp only [listAll] at hL
    subst hL
    simpa [wpQuiet] using h
  | i :: is, l, fuel, listed, listed', a, w, hB, hX, hC, hl, hL, hw, h => by
    simp only [phaseE, Bool.and_eq_true] at hB
    obtain ⟨⟨⟨hr, hf⟩, hm⟩, hB'⟩ := hB
    rw [List.all_cons, Bool.and_eq_true] at hX
    cases ho : ops[i]? with
    | none => simp [ho] at hm
    | some o =>
      simp only [ho, Option.map_some, Option.getD_some] at hm
      simp only [List.filterMap_cons, ho] at hl
      subst hl
      have hst : qOp P ops S i (wpQuiet P ops S (fun a' => wpAnyX P md ops Q S X fuel listed' a' w) (is.filterMap (fun i => ops[i]?))) a := by
        unfold qOp; simp only [ho]; exact h
      obtain ⟨v, hy, hK⟩ := yieldsIn_of_qOp ho hst
      have hy' : YieldsIf P ops S o v a := by
        rcases hy with ⟨h1, h2⟩ | h1
        · refine .inl ⟨h1, fun w1 hw1 => ?_⟩
          have h3 := h2 w1 hw1
          unfold Oper.quietAt at h3
          cases hrun : (execOp a.eval o).run P w1 with
          | halt x w2 => rw [hrun] at h3; exact h3.elim
          | ok n w2 =>
            obtain ⟨u, rfl⟩ := mildE_value hm a.eval hrun
            rw [hrun] at h3
            obtain ⟨e1, e2⟩ := h3
            rw [e1, e2]
        · exact .inr h1
      have hC' : Clo md ops (listed.setIfInBounds i true) := hC.step (by simpa using hr)
      have := wpAnyX_first (v := v) ho (Region.noSelect_spec hs) (fun c a w => hQ c a _ _ w) hX.1 (is.length + fuel) listed a w (Region.free_spec ho hf) hC (by simpa using hr) hy' hw
        (wpAnyX_phase hs hQ is _ fuel _ _ _ w hB' hX.2 hC' rfl hL hw hK)
      rw [show (i :: is).length + fuel = is.length + fuel + 1 from by simp; omega]
      exact this

theorem wpAnyX_take (is : List Nat) (fuel : Nat) {n : Nat} {l : List Oper} {listed listed' : Array Bool} {a : Act} {w : World} (hn : is.length + fuel = n) (hs : Region.noSelect ops = true) (hQ : ∀ c a d v w, Q (.panic c) (Act.put a d v) w → Q (.panic c) a w)
    (hB : phaseE md ops is listed = true) (hX : is.all (waitX md ops X) = true) (hC : cloB md ops listed = true) (hl : is.filterMap (fun i => ops[i]?) = l) (hL : listAll is listed = listed') (hw : S w)
    (h : wpQuiet P ops S (fun a' => wpAnyX P md ops Q S X fuel listed' a' w) l a) :
    wpAnyX P md ops Q S X n listed a w := by
  subst hn
  exact wpAnyX_phase hs hQ is l fuel listed listed' a w hB hX (cloB_spec hC) hl hL hw h
theorem wpAnyX_all {rs : List Nat} {fuel : Nat} {listed : Array Bool} {a : Act} {w : World} (hr : Region.ready md ops listed = rs) (hne : rs ≠ [])
    (h : ∀ i ∈ rs, wpOp P ops Q i (fun a' w' => (S w' ∨ ∃ x ∈ X, (listed.setIfInBounds i true).getD x false = true) ∧ wpAnyX P md ops Q S X fuel (listed.setIfInBounds i true) a' w') a w) : wpAnyX P md ops Q S X (fuel + 1) listed a w :=
  ⟨fun h0 => absurd (hr ▸ h0) hne, hr ▸ h⟩
/-- The next one, for sure: S is to be shown behind it. -/
theorem wpAnyX_only (i : Nat) {o : Oper} {fuel : Nat} {listed listed' : Array Bool} {a : Act} {w : World} (hr : Region.ready md ops listed = [i]) (ho : ops[i]? = some o) (hL : listed.setIfInBounds i true = listed') (hg : o.guard = none)
    (h : ∀ K : Act → World → Prop, (∀ a w', (S w' ∧ wpAnyX P md ops Q S X fuel listed' a w') → K a w') → Oper.wp P o a w K Q) :
    wpAnyX P md ops Q S X (fuel + 1) listed a w := by
  refine wpAnyX_all hr (by simp) fun j hj => ?_
  simp only [List.mem_singleton] at hj
  subst hj
  refine wpOp_step ho (fun K' hK => ?_)
  rw [if_pos (by simp [Region.wanted, hg])]
  refine h K' (fun a' w' ⟨hS, hW⟩ => hK _ _ ⟨.inl hS, ?_⟩)
  rw [hL]
  exact hW
/-- The next one, for sure: one of X has come up with it. -/
theorem wpAnyX_last (i : Nat) {o : Oper} {fuel : Nat} {listed listed' : Array Bool} {a : Act} {w : World} (hr : Region.ready md ops listed = [i]) (ho : ops[i]? = some o) (hL : listed.setIfInBounds i true = listed') (hg : o.guard = none) (hx : X.any (fun x => listed'.getD x false) = true)
    (h : ∀ K : Act → World → Prop, (∀ a w', wpAnyX P md ops Q S X fuel listed' a w' → K a w') → Oper.wp P o a w K Q) :
    wpAnyX P md ops Q S X (fuel + 1) listed a w := by
  refine wpAnyX_all hr (by simp) fun j hj => ?_
  simp only [List.mem_singleton] at hj
  subst hj
  refine wpOp_step ho (fun K' hK => ?_)
  rw [if_pos (by simp [Region.wanted, hg])]
  refine h K' (fun a' w' hW => hK _ _ ⟨.inr ?_, ?_⟩)
  · obtain ⟨x, hx1, hx2⟩ := List.any_eq_true.1 hx
    rw [hL]
    exact ⟨x, hx1, hx2⟩
  · rw [hL]
    exact hW
theorem wpAnyX_two (i j : Nat) {oi oj : Oper} {fuel : Nat} {listed li lj : Array Bool} {a : Act} {w : World} (hr : Region.ready md ops listed = [i, j]) (hoi : ops[i]? = some oi) (hoj : ops[j]? = some oj) (hLi : listed.setIfInBounds i true = li) (hLj : listed.setIfInBounds j true = lj) (hgi : oi.guard = none) (hgj : oj.guard = none)
    (h1 : ∀ K : Act → World → Prop, (∀ a w', (S w' ∧ wpAnyX P md ops Q S X fuel li a w') → K a w') → Oper.wp P oi a w K Q)
    (h2 : ∀ K : Act → World → Prop, (∀ a w', (S w' ∧ wpAnyX P md ops Q S X fuel lj a w') → K a w') → Oper.wp P oj a w K Q) :
    wpAnyX P md ops Q S X (fuel + 1) listed a w := by
  refine wpAnyX_all hr (by simp) fun k hk => ?_
  simp only [List.mem_cons, List.not_mem_nil, or_false] at hk
  rcases hk with rfl | rfl
  · refine wpOp_step hoi (fun K' hK => ?_)
    rw [if_pos (by simp [Region.wanted, hgi])]
    refine h1 K' (fun a' w' ⟨hS, hW⟩ => hK _ _ ⟨.inl hS, ?_⟩)
    rw [hLi]
    exact hW
  · refine wpOp_step hoj (fun K' hK => ?_)
    rw [if_pos (by simp [Region.wanted, hgj])]
    refine h2 K' (fun a' w' ⟨hS, hW⟩ => hK _ _ ⟨.inl hS, ?_⟩)
    rw [hLj]
    exact hW
/-- All have come up. -/
theorem wpAnyX_done {listed : Array Bool} {a : Act} {w : World} (hr : Region.ready md ops listed = []) (h : Q .normal a w) :
    ∀ fuel, wpAnyX P md ops Q S X fuel listed a w
  | 0 => ⟨hr, h⟩
  | _ + 1 => ⟨fun _ => h, by rw [hr]; simp⟩
end
section
variable {P : Program} {ops : Array Oper} {Q : Exit → Act → World → Prop} {md : Region.Mode} {S : World → Prop}
/-- The next one, for sure, under a guard that holds. -/
theorem wpAnyS_want (i : Nat) {o : Oper} {fuel : Nat} {listed listed' : Array Bool} {a : Act} {w : World} (hr : Region.ready md ops listed = [i]) (ho : ops[i]? = some o) (hL : listed.setIfInBounds i true = listed') (hw : Region.wanted o (yielded ops a.tmps) = true)
    (h : ∀ K : Act → World → Prop, (∀ a w', (S w' ∧ wpAnyH P md ops Q S fuel listed' a w') → K a w') → Oper.wp P o a w K Q) :
    wpAnyH P md ops Q S (fuel + 1) listed a w := by
  refine wpAnyH_all hr (by simp) fun j hj => ?_
  simp only [List.mem_singleton] at hj
  subst hj
  refine wpOp_step ho (fun K' hK => ?_)
  rw [if_pos hw]
  refine h K' (fun a' w' ⟨hS, hW⟩ => hK _ _ ⟨hS, ?_⟩)
  rw [hL]
  exact hW
/-- The next one, for sure, under a guard that fails. -/
theorem wpAnyS_skip (i : Nat) {o : Oper} {fuel : Nat} {listed listed' : Array Bool} {a : Act} {w : World} (hr : Region.ready md ops listed = [i]) (ho : ops[i]? = some o) (hL : listed.setIfInBounds i true = listed') (hw : Region.wanted o (yielded ops a.tmps) = false)
    (hS : S w) (h : wpAnyH P md ops Q S fuel listed' (a.put o.dst undef) w) :
    wpAnyH P md ops Q S (fuel + 1) listed a w := by
  refine wpAnyH_all hr (by simp) fun j hj => ?_
  simp only [List.mem_singleton] at hj
  subst hj
  refine wpOp_step ho (fun K' hK => ?_)
  rw [if_neg (by rw [hw]; simp)]
  refine hK _ _ ⟨hS, ?_⟩
  rw [hL]
  exact h
end
section
variable {P : Program} {Q : Exit → Act → World → Prop}
theorem wpAnyX_start (S : World → Prop) (X : List Nat) {id : Nat} {a : Act} {w : World} {l : List Oper} {n : Nat} {listed : Array Bool} (hm : P.follows .mixedOrders = true) (hn : l.length = n) (hL : Array.replicate n false = listed)
    (h : wpAnyX P .any l.toArray Q S X n listed a w.drew) : (Code.region id l.toArray true).wp P Q a w := by
  refine wp_region_any hm (wpAny_of_X (S := S) (X := X) _ _ _ _ ?_)
  subst hL hn
  simpa using h
end
end Go.Proofs.YtbhnaakknfienaaGreatDoor

/- Several texts in one. Regions that draw their order: phases of readers among which stand extracts of a call's results. Regions that draw their order, in which an append or a store behind the loads may break what the loads rest on. Draws of towns: what is known while one is made. A list of integers written out in a call, made in a region that draws its order. -/
import Derived.Test.YtbkhejkncmgdeaaRegionsS
import Derived.Test.YtbkhejkncmgdeaaDrawA
import Derived.Test.YtbkhejkncmgdeaaAstN
namespace Go.Proofs.Ytbkhejkncmgdeaa
open Go.RowKit

section
variable {P : Program} {ops : Array Oper} {Q : Exit → Act → World → Prop} {md : Region.Mode} {S : World → Prop}
/-- An operation that, if it yields, yields a value, and is no call of a Go function; an extract of a call's results too. -/
def mildE (o : Oper) : Bool := mild o || (match o.op with | .extract .. => true | _ => false)
theorem mildE_value {o : Oper} (hm : mildE o = true) (ρ : Operand → Value) {w w' : World} {n : Next} (h : (execOp ρ o).run P w = .ok n w') : (∃ v, n = .value v) := by
  rw [mildE, Bool.or_eq_true] at hm
  rcases hm with hm | hm
  · exact mild_value hm ρ h
  · obtain ⟨dst, op, type, pos, after, guard⟩ := o
    unfold execOp at h
    cases op <;> simp only at hm <;> simp only at h
    all_goals first | exact value_of_bind h | (simp at hm; done)
def phaseE (md : Region.Mode) (ops : Array Oper) : List Nat → Array Bool → Bool
  | [], _ => true
  | i :: is, listed => (Region.ready md ops listed).contains i && Region.free md ops listed i && ((ops[i]?).map mildE).getD false && phaseE md ops is (listed.setIfInBounds i true)

theorem wpAnyS_phaseE (hs : Region.noSelect ops = true) (hQ : ∀ c a d v w, Q (.panic c) (Act.put a d v) w → Q (.panic c) a w) : ∀ (is : List Nat) (l : List Oper) (fuel : Nat) (listed listed' : Array Bool) (a : Act) (w : World),
    phaseE md ops is listed = true → is.filterMap (fun i => ops[i]?) = l → listAll is listed = listed' → S w →
    wpQuiet P ops S (fun a' => wpAnyH P md ops Q S fuel listed' a' w) l a →
    wpAnyH P md ops Q S (is.length + fuel) listed a w
  | [], l, fuel, listed, listed', a, w, _, hl, hL, _, h => by
    simp at hl
    subst hl
    simp only [listAll] at hL
    subst hL
    simpa [wpQuiet] using h
  | i :: is, l, fuel, listed, listed', a, w, hB, hl, hL, hw, h => by
    simp only [phaseE, Bool.and_eq_true] at hB
    obtain ⟨⟨⟨hr, hf⟩, hm⟩, hB'⟩ := hB
    cases ho : ops[i]? with
    | none => simp [ho] at hm
    | some o =>
      simp only [ho, Option.map_some, Option.getD_some] at hm
      simp only [List.filterMap_cons, ho] at hl
      subst hl
      have hst : qOp P ops S i (wpQuiet P ops S (fun a' => wpAnyH P md ops Q S fuel listed' a' w) (is.filterMap (fun i => ops[i]?))) a := by
        unfold qOp; simp only [ho]; exact h
      obtain ⟨v, hy, hK⟩ := yieldsIn_of_qOp ho hst
      have hy' : YieldsIf P ops S o v a := by
        rcases hy with ⟨h1, h2⟩ | h1
        · refine .inl ⟨h1, fun w1 hw1 => ?_⟩
          have h3 := h2 w1 hw1
          unfold Oper.quietAt at h3
          cases hrun : (execOp a.eval o).run P w1 with
          | halt x w2 => rw [hrun] at h3; exact h3.elim
          | ok n w2 =>
            obtain ⟨u, rfl⟩ := mildE_value hm a.eval hrun
            rw [hrun] at h3
            obtain ⟨e1, e2⟩ := h3
            rw [e1, e2]
        · exact .inr h1
      have := wpAnyH_take (fuel := is.length + fuel) ho hs hf hr (fun c a w => hQ c a _ _ w) hy' hw
        (wpAnyS_phaseE hs hQ is _ fuel _ _ _ w hB' rfl hL hw hK)
      rw [show (i :: is).length + fuel = is.length + fuel + 1 from by simp; omega]
      exact this

theorem wpAnyS_take_allE (is : List Nat) (fuel : Nat) {n : Nat} {l : List Oper} {listed listed' : Array Bool} {a : Act} {w : World} (hn : is.length + fuel = n) (hs : Region.noSelect ops = true) (hQ : ∀ c a d v w, Q (.panic c) (Act.put a d v) w → Q (.panic c) a w)
    (hB : phaseE md ops is listed = true) (hl : is.filterMap (fun i => ops[i]?) = l) (hL : listAll is listed = listed') (hw : S w)
    (h : wpQuiet P ops S (fun a' => wpAnyH P md ops Q S fuel listed' a' w) l a) :
    wpAnyH P md ops Q S n listed a w := by
  subst hn
  exact wpAnyS_phaseE hs hQ is l fuel listed listed' a w hB hl hL hw h

end
end Go.Proofs.Ytbkhejkncmgdeaa
namespace Go.Proofs.Ytbkhejkncmgdeaa
open Go.RowKit

section
variable {P : Program} {ops : Array Oper} {Q : Exit → Act → World → Prop} {md : Region.Mode} {S : World → Prop} {X : List Nat}
/-- Whatever order is picked from here on; S holds behind every operation, until one of X has come up. -/
def wpAnyX (P : Program) (md : Region.Mode) (ops : Array Oper) (Q : Exit → Act → World → Prop) (S : World → Prop) (X : List Nat) : Nat → Array Bool → Act → World → Prop
  | 0, listed, a, w => Region.ready md ops listed = [] ∧ Q .normal a w
  | fuel + 1, listed, a, w =>
    (Region.ready md ops listed = [] → Q .normal a w) ∧
    ∀ i ∈ Region.ready md ops listed, wpOp P ops Q i (fun a' w' => (S w' ∨ ∃ x ∈ X, (listed.setIfInBounds i true).getD x false = true) ∧ wpAnyX P md ops Q S X fuel (listed.setIfInBounds i true) a' w') a w
theorem wpAny_of_X : ∀ (fuel : Nat) (listed : Array Bool) (a : Act) (w : World), wpAnyX P md ops Q S X fuel listed a w → wpAny P md ops Q fuel listed a w
  | 0, _, _, _, h => h
  | fuel + 1, _, _, _, h => ⟨h.1, fun i hi => wpOp_mono (fun a' w' h' => wpAny_of_X fuel _ a' w' h'.2) (h.2 i hi)⟩
/-- x waits for i, directly or by others. -/
def waits (md : Region.Mode) (ops : Array Oper) : Nat → Nat → Nat → Bool
  | 0, _, _ => false
  | k + 1, x, i => match ops[x]? with | some o => o.after.any (fun e => Region.binds md e && (e.on == i || waits md ops k e.on i)) | none => false
/-- What has come up had nothing to wait for. -/
def Clo (md : Region.Mode) (ops : Array Oper) (listed : Array Bool) : Prop := ∀ j o, ops[j]? = some o → listed.getD j false = true → ∀ e ∈ o.after, Region.binds md e = true → listed.getD e.on false = true
def cloB (md : Region.Mode) (ops : Array Oper) (listed : Array Bool) : Bool := (List.range ops.size).all fun j => !listed.getD j false || (match ops[j]? with | some o => o.after.all (fun e => !Region.binds md e || listed.getD e.on false) | none => true)
theorem cloB_spec {listed : Array Bool} (h : cloB md ops listed = true) : Clo md ops listed := by
  intro j o ho hj e he hb
  have h1 := List.all_eq_true.1 h j (List.mem_range.2 (Array.getElem?_eq_some_iff.1 ho).1)
  rw [ho, hj] at h1
  have h2 : o.after.all (fun e => !Region.binds md e || listed.getD e.on false) = true := by simpa using h1
  have h3 := Array.all_eq_true'.1 h2 e he
  rw [hb] at h3
  simpa using h3
theorem Clo.step {listed : Array Bool} {j : Nat} (h : Clo md ops listed) (hj : j ∈ Region.ready md ops listed) : Clo md ops (listed.setIfInBounds j true) := by
  intro k o ho hk e he hb
  by_cases hkj : j = k
  · subst hkj
    obtain ⟨-, o', ho', hall⟩ := mem_ready.1 hj
    rw [ho] at ho'
    injection ho' with ho'
    subst ho'
    exact getD_set_true (hall e he hb)
  · rw [getD_set_ne false hkj] at hk
    exact getD_set_true (h k o ho hk e he hb)
theorem not_waits {listed : Array Bool} {i : Nat} (h : Clo md ops listed) (hi : listed.getD i false = false) : ∀ (k x : Nat), waits md ops k x i = true → ∀ o, ops[x]? = some o → ¬ (∀ e ∈ o.after, Region.binds md e = true → listed.getD e.on false = true)
  | 0, x, hw, o, ho, _ => by cases hw
  | k + 1, x, hw, o, ho, hall => by
    unfold waits at hw
    rw [ho] at hw
    obtain ⟨e, he, hb⟩ := Array.any_eq_true'.1 hw
    rw [Bool.and_eq_true, Bool.or_eq_true] at hb
    have h1 := hall e he hb.1
    rcases hb.2 with h2 | h2
    · rw [show e.on = i by simpa using h2, hi] at h1
      cases h1
    · cases hy : ops[e.on]? with
      | none =>
        cases k with
        | zero => cases h2
        | succ k => unfold waits at h2; rw [hy] at h2; cases h2
      | some o' => exact not_waits h hi k e.on h2 o' hy (h e.on o' hy h1)
def waitX (md : Region.Mode) (ops : Array Oper) (X : List Nat) (i : Nat) : Bool := X.all fun x => x != i && (ops[x]?).isSome && waits md ops 8 x i
theorem waitX_spec {i x : Nat} (h : waitX md ops X i = true) (hx : x ∈ X) : x ≠ i ∧ (∃ o, ops[x]? = some o) ∧ waits md ops 8 x i = true := by
  unfold waitX at h
  rw [List.all_eq_true] at h
  have h1 := h x hx
  rw [Bool.and_eq_true, Bool.and_eq_true] at h1
  exact ⟨by simpa using h1.1.1, Option.isSome_iff_exists.1 h1.1.2, h1.2⟩
theorem ready_false {i : Nat} {listed : Array Bool} (hr : i ∈ Region.ready md ops listed) : listed.getD i false = false := by
  have h0 := (mem_ready.1 hr).1
  rcases Nat.lt_or_ge i listed.size with h' | h'
  · simp [h'] at h0 ⊢; exact h0
  · simp [Array.getElem?_eq_none h'] at h0
theorem unlisted_X {i x : Nat} {listed : Array Bool} (hX : waitX md ops X i = true) (h : Clo md ops listed) (hr : i ∈ Region.ready md ops listed) (hx : x ∈ X) : listed.getD x false = false := by
  obtain ⟨-, ⟨o, ho⟩, hw⟩ := waitX_spec hX hx
  cases hl : listed.getD x false with
  | false => rfl
  | true => exact absurd (h x o ho hl) (not_waits h (ready_false hr) 8 x hw o ho)

theorem wpAnyX_first {i : Nat} {oi : Oper} {v : Value} (hi : ops[i]? = some oi) (hsel : ∀ (j : Nat) (o : Oper) cs b, ops[j]? = some o → o.op ≠ .select cs b)
    (hQ : ∀ c a w, Q (.panic c) (a.put oi.dst v) w → Q (.panic c) a w) (hX : waitX md ops X i = true) :
    ∀ (fuel : Nat) (listed : Array Bool) (a : Act) (w : World),
      (∀ j oj, ops[j]? = some oj → j ≠ i → listed.getD j true = false → (∀ e ∈ oj.after, Region.binds md e = true → e.on ≠ i) → oi.apart ops oj = true) →
      Clo md ops listed →
      i ∈ Region.ready md ops listed → YieldsIf P ops S oi v a → S w →
      wpAnyX P md ops Q S X fuel (listed.setIfInBounds i true) (a.put oi.dst v) w → wpAnyX P md ops Q S X (fuel + 1) listed a w := by
  intro fuel
  induction fuel with
  | zero =>
    intro listed a w _ _ hr hy hS H
    refine ⟨fun h => (by rw [h] at hr; cases hr), fun j hj => ?_⟩
    by_cases hji : j = i
    · subst hji; exact hy.wpOp hi hS ⟨.inl hS, H⟩
    · have := ready_mono hj hji
      rw [H.1] at this
      cases this
  | succ fuel ih =>
    intro listed a w hfree hC hr hy hS H
    refine ⟨fun h => (by rw [h] at hr; cases hr), fun j hj => ?_⟩
    by_cases hji : j = i
    · subst hji; exact hy.wpOp hi hS ⟨.inl hS, H⟩
    · have h1 := H.2 j (ready_mono hj hji)
      obtain ⟨hjun, oj, hoj, hall⟩ := mem_ready.1 hj
      have hnot : ∀ e ∈ oj.after, Region.binds md e = true → e.on ≠ i := fun e he hb heq => by
        have h1 := hall e he hb
        have h0 := (mem_ready.1 hr).1
        rw [heq] at h1
        rcases Nat.lt_or_ge i listed.size with h' | h'
        · simp [h'] at h0 h1; rw [h0] at h1; cases h1
        · simp [Array.getElem?_eq_none h'] at h1
      have hjX : j ∉ X := fun hjX => not_waits hC (ready_false hr) 8 j (waitX_spec hX hjX).2.2 oj hoj hall
      have h2 := wpOp_putIf hoj (hfree j oj hoj hji hjun hnot) (fun cs b => hsel i oi cs b hi) (fun cs b => hsel j oj cs b hoj) hQ hy h1
      have hfree' : ∀ k ok, ops[k]? = some ok → k ≠ i → (listed.setIfInBounds j true).getD k true = false →
          (∀ e ∈ ok.after, Region.binds md e = true → e.on ≠ i) → oi.apart ops ok = true := fun k ok hk hki hun hno => by
        refine hfree k ok hk hki ?_ hno
        by_cases hjk : j = k
        · subst hjk; exact hjun
        · rw [getD_set_ne true hjk] at hun; exact hun
      have hC' : Clo md ops (listed.setIfInBounds j true) := hC.step hj
      refine wpOp_mono (fun a' w' h3 => ?_) h2
      have hS' : S w' := by
        rcases h3.2.1 with h | ⟨x, hx, h⟩
        · exact h
        · rw [getD_set_ne false (show j ≠ x from fun e => hjX (e ▸ hx)), getD_set_ne false (fun e => (waitX_spec hX hx).1 e.symm), unlisted_X hX hC hr hx] at h
          cases h
      refine ⟨.inl hS', ih (listed.setIfInBounds j true) a' w' hfree' hC' (ready_mono hr (Ne.symm hji)) h3.1 hS' ?_⟩
      rw [Array.setIfInBounds_comm _ _ hji]
      exact h3.2.2

theorem wpAnyX_phase (hs : Region.noSelect ops = true) (hQ : ∀ c a d v w, Q (.panic c) (Act.put a d v) w → Q (.panic c) a w) : ∀ (is : List Nat) (l : List Oper) (fuel : Nat) (listed listed' : Array Bool) (a : Act) (w : World),
    phaseE md ops is listed = true → is.all (waitX md ops X) = true → Clo md ops listed → is.filterMap (fun i => ops[i]?) = l → listAll is listed = listed' → S w →
    wpQuiet P ops S (fun a' => wpAnyX P md ops Q S X fuel listed' a' w) l a →
    wpAnyX P md ops Q S X (is.length + fuel) listed a w
  | [], l, fuel, listed, listed', a, w, _, _, _, hl, hL, _, h => by
    simp at hl
    subst hl
    simp only [listAll] at hL
    subst hL
    simpa [wpQuiet] using h
  | i :: is, l, fuel, listed, listed', a, w, hB, hX, hC, hl, hL, hw, h => by
    simp only [phaseE, Bool.and_eq_true] at hB
    obtain ⟨⟨⟨hr, hf⟩, hm⟩, hB'⟩ := hB
    rw [List.all_cons, Bool.and_eq_true] at hX
    cases ho : ops[i]? with
    | none => simp [ho] at hm
    | some o =>
      simp only [ho, Option.map_some, Option.getD_some] at hm
      simp only [List.filterMap_cons, ho] at hl
      subst hl
      have hst : qOp P ops S i (wpQuiet P ops S (fun a' => wpAnyX P md ops Q S X fuel listed' a' w) (is.filterMap (fun i => ops[i]?))) a := by
        unfold qOp; simp only [ho]; exact h
      obtain ⟨v, hy, hK⟩ := yieldsIn_of_qOp ho hst
      have hy' : YieldsIf P ops S o v a := by
        rcases hy with ⟨h1, h2⟩ | h1
        · refine .inl ⟨h1, fun w1 hw1 => ?_⟩
          have h3 := h2 w1 hw1
          unfold Oper.quietAt at h3
          cases hrun : (execOp a.eval o).run P w1 with
          | halt x w2 => rw [hrun] at h3; exact h3.elim
          | ok n w2 =>
            obtain ⟨u, rfl⟩ := mildE_value hm a.eval hrun
            rw [hrun] at h3
            obtain ⟨e1, e2⟩ := h3
            rw [e1, e2]
        · exact .inr h1
      have hC' : Clo md ops (listed.setIfInBounds i true) := hC.step (by simpa using hr)
      have := wpAnyX_first (v := v) ho (Region.noSelect_spec hs) (fun c a w => hQ c a _ _ w) hX.1 (is.length + fuel) listed a w (Region.free_spec ho hf) hC (by simpa using hr) hy' hw
        (wpAnyX_phase hs hQ is _ fuel _ _ _ w hB' hX.2 hC' rfl hL hw hK)
      rw [show (i :: is).length + fuel = is.length + fuel + 1 from by simp; omega]
      exact this

theorem wpAnyX_take (is : List Nat) (fuel : Nat) {n : Nat} {l : List Oper} {listed listed' : Array Bool} {a : Act} {w : World} (hn : is.length + fuel = n) (hs : Region.noSelect ops = true) (hQ : ∀ c a d v w, Q (.panic c) (Act.put a d v) w → Q (.panic c) a w)
    (hB : phaseE md ops is listed = true) (hX : is.all (waitX md ops X) = true) (hC : cloB md ops listed = true) (hl : is.filterMap (fun i => ops[i]?) = l) (hL : listAll is listed = listed') (hw : S w)
    (h : wpQuiet P ops S (fun a' => wpAnyX P md ops Q S X fuel listed' a' w) l a) :
    wpAnyX P md ops Q S X n listed a w := by
  subst hn
  exact wpAnyX_phase hs hQ is l fuel listed listed' a w hB hX (cloB_spec hC) hl hL hw h
theorem wpAnyX_all {rs : List Nat} {fuel : Nat} {listed : Array Bool} {a : Act} {w : World} (hr : Region.ready md ops listed = rs) (hne : rs ≠ [])
    (h : ∀ i ∈ rs, wpOp P ops Q i (fun a' w' => (S w' ∨ ∃ x ∈ X, (listed.setIfInBounds i true).getD x false = true) ∧ wpAnyX P md ops Q S X fuel (listed.setIfInBounds i true) a' w') a w) : wpAnyX P md ops Q S X (fuel + 1) listed a w :=
  ⟨fun h0 => absurd (hr ▸ h0) hne, hr ▸ h⟩
/-- The next one, for sure: S is to be shown behind it. -/
theorem wpAnyX_only (i : Nat) {o : Oper} {fuel : Nat} {listed listed' : Array Bool} {a : Act} {w : World} (hr : Region.ready md ops listed = [i]) (ho : ops[i]? = some o) (hL : listed.setIfInBounds i true = listed') (hg : o.guard = none)
    (h : ∀ K : Act → World → Prop, (∀ a w', (S w' ∧ wpAnyX P md ops Q S X fuel listed' a w') → K a w') → Oper.wp P o a w K Q) :
    wpAnyX P md ops Q S X (fuel + 1) listed a w := by
  refine wpAnyX_all hr (by simp) fun j hj => ?_
  simp only [List.mem_singleton] at hj
  subst hj
  refine wpOp_step ho (fun K' hK => ?_)
  rw [if_pos (by simp [Region.wanted, hg])]
  refine h K' (fun a' w' ⟨hS, hW⟩ => hK _ _ ⟨.inl hS, ?_⟩)
  rw [hL]
  exact hW
/-- The next one, for sure: one of X has come up with it. -/
theorem wpAnyX_last (i : Nat) {o : Oper} {fuel : Nat} {listed listed' : Array Bool} {a : Act} {w : World} (hr : Region.ready md ops listed = [i]) (ho : ops[i]? = some o) (hL : listed.setIfInBounds i true = listed') (hg : o.guard = none) (hx : X.any (fun x => listed'.getD x false) = true)
    (h : ∀ K : Act → World → Prop, (∀ a w', wpAnyX P md ops Q S X fuel listed' a w' → K a w') → Oper.wp P o a w K Q) :
    wpAnyX P md ops Q S X (fuel + 1) listed a w := by
  refine wpAnyX_all hr (by simp) fun j hj => ?_
  simp only [List.mem_singleton] at hj
  subst hj
  refine wpOp_step ho (fun K' hK => ?_)
  rw [if_pos (by simp [Region.wanted, hg])]
  refine h K' (fun a' w' hW => hK _ _ ⟨.inr ?_, ?_⟩)
  · obtain ⟨x, hx1, hx2⟩ := List.any_eq_true.1 hx
    rw [hL]
    exact ⟨x, hx1, hx2⟩
  · rw [hL]
    exact hW
theorem wpAnyX_two (i j : Nat) {oi oj : Oper} {fuel : Nat} {listed li lj : Array Bool} {a : Act} {w : World} (hr : Region.ready md ops listed = [i, j]) (hoi : ops[i]? = some oi) (hoj : ops[j]? = some oj) (hLi : listed.setIfInBounds i true = li) (hLj : listed.setIfInBounds j true = lj) (hgi : oi.guard = none) (hgj : oj.guard = none)
    (h1 : ∀ K : Act → World → Prop, (∀ a w', (S w' ∧ wpAnyX P md ops Q S X fuel li a w') → K a w') → Oper.wp P oi a w K Q)
    (h2 : ∀ K : Act → World → Prop, (∀ a w', (S w' ∧ wpAnyX P md ops Q S X fuel lj a w') → K a w') → Oper.wp P oj a w K Q) :
    wpAnyX P md ops Q S X (fuel + 1) listed a w := by
  refine wpAnyX_all hr (by simp) fun k hk => ?_
  simp only [List.mem_cons, List.not_mem_nil, or_false] at hk
  rcases hk with rfl | rfl
  · refine wpOp_step hoi (fun K' hK => ?_)
    rw [if_pos (by simp [Region.wanted, hgi])]
    refine h1 K' (fun a' w' ⟨hS, hW⟩ => hK _ _ ⟨.inl hS, ?_⟩)
    rw [hLi]
    exact hW
  · refine wpOp_step hoj (fun K' hK => ?_)
    rw [if_pos (by simp [Region.wanted, hgj])]
    refine h2 K' (fun a' w' ⟨hS, hW⟩ => hK _ _ ⟨.inl hS, ?_⟩)
    rw [hLj]
    exact hW
/-- All have come up. -/
theorem wpAnyX_done {listed : Array Bool} {a : Act} {w : World} (hr : Region.ready md ops listed = []) (h : Q .normal a w) :
    ∀ fuel, wpAnyX P md ops Q S X fuel listed a w
  | 0 => ⟨hr, h⟩
  | _ + 1 => ⟨fun _ => h, by rw [hr]; simp⟩
end
section
variable {P : Program} {ops : Array Oper} {Q : Exit → Act → World → Prop} {md : Region.Mode} {S : World → Prop}
/-- The next one, for sure, under a guard that holds. -/
theorem wpAnyS_want (i : Nat) {o : Oper} {fuel : Nat} {listed listed' : Array Bool} {a : Act} {w : World} (hr : Region.ready md ops listed = [i]) (ho : ops[i]? = some o) (hL : listed.setIfInBounds i true = listed') (hw : Region.wanted o (yielded ops a.tmps) = true)
    (h : ∀ K : Act → World → Prop, (∀ a w', (S w' ∧ wpAnyH P md ops Q S fuel listed' a w') → K a w') → Oper.wp P o a w K Q) :
    wpAnyH P md ops Q S (fuel + 1) listed a w := by
  refine wpAnyH_all hr (by simp) fun j hj => ?_
  simp only [List.mem_singleton] at hj
  subst hj
  refine wpOp_step ho (fun K' hK => ?_)
  rw [if_pos hw]
  refine h K' (fun a' w' ⟨hS, hW⟩ => hK _ _ ⟨hS, ?_⟩)
  rw [hL]
  exact hW
/-- The next one, for sure, under a guard that fails. -/
theorem wpAnyS_skip (i : Nat) {o : Oper} {fuel : Nat} {listed listed' : Array Bool} {a : Act} {w : World} (hr : Region.ready md ops listed = [i]) (ho : ops[i]? = some o) (hL : listed.setIfInBounds i true = listed') (hw : Region.wanted o (yielded ops a.tmps) = false)
    (hS : S w) (h : wpAnyH P md ops Q S fuel listed' (a.put o.dst undef) w) :
    wpAnyH P md ops Q S (fuel + 1) listed a w := by
  refine wpAnyH_all hr (by simp) fun j hj => ?_
  simp only [List.mem_singleton] at hj
  subst hj
  refine wpOp_step ho (fun K' hK => ?_)
  rw [if_neg (by rw [hw]; simp)]
  refine hK _ _ ⟨hS, ?_⟩
  rw [hL]
  exact h
end
section
variable {P : Program} {Q : Exit → Act → World → Prop}
theorem wpAnyX_start (S : World → Prop) (X : List Nat) {id : Nat} {a : Act} {w : World} {l : List Oper} {n : Nat} {listed : Array Bool} (hm : P.follows .mixedOrders = true) (hn : l.length = n) (hL : Array.replicate n false = listed)
    (h : wpAnyX P .any l.toArray Q S X n listed a w.drew) : (Code.region id l.toArray true).wp P Q a w := by
  refine wp_region_any hm (wpAny_of_X (S := S) (X := X) _ _ _ _ ?_)
  subst hL hn
  simpa using h
end
end Go.Proofs.Ytbkhejkncmgdeaa
namespace Go.Proofs.Ytbkhejkncmgdeaa
open Go.RowKit
set_option linter.unusedVariables false

theorem ads_ok {nd : Int} {l : List StT} {s : StT} (h : adsOk nd l s = true) : adsN nd l s = nd ∧ (adsL nd l s).length ≤ 40 := by
  refine ⟨by rw [adsN, if_pos h], ?_⟩
  rw [adsL, if_pos h]
  simp only [adsOk, Bool.and_eq_true, decide_eq_true_eq] at h
  have h1 := congrArg List.length (List.takeWhile_append_dropWhile (p := fun x => befB x (turnT s)) (l := l))
  rw [List.length_append] at h1
  simp [putT]
  omega

/-- While a town is made: the result's box rb, the town's box tb, the drawer behind N steps. -/
structure TwAt (d : Drw) (w : World) (rb tb : Nat) (nd : Int) (A : Option Addr) (c : Nat) (l : List StT) (N : Nat) (wr : World) : Prop where
  gle : d.W0.heap.size ≤ d.g
  st : d.st N wr
  gr : w.grownBy wr (some d.g)
  res : Row wr rb [.int .i64 0, .slice none 0 0]
  box : Row wr tb [.int .i64 nd, .slice A l.length c]
  own : wr.ownsRow w.heap.size 34 3 (.slice A l.length c) l.length (l.flatMap tcells)
  ord : d.g < w.heap.size ∧ w.heap.size ≤ rb ∧ rb < tb
  apart : ∀ q, (Value.slice A l.length c).ownBlock = some q → q ≠ rb ∧ q ≠ tb
section
variable {d : Drw} {w wr w' : World} {rb tb c N M : Nat} {nd : Int} {A : Option Addr} {l : List StT}
theorem TwAt.draw (h : TwAt d w rb tb nd A c l N wr) (hs : d.st M w') (hg : wr.grownBy w' (some d.g)) : TwAt d w rb tb nd A c l M w' :=
  ⟨h.gle, hs, grown_trans h.gr hg, h.res.grown hg (fun e => by injection e with e; have := h.ord; omega), h.box.grown hg (fun e => by injection e with e; have := h.ord; omega), own_far h.own hg h.ord.1, h.ord, h.apart⟩
theorem TwAt.below (h : TwAt d w rb tb nd A c l N wr) (hb : Below wr.heap.size wr w') : TwAt d w rb tb nd A c l N w' :=
  ⟨h.gle, h.st.below hb, grown_trans h.gr (grown_of_below hb _), h.res.below hb, h.box.below hb, own_below h.own hb, h.ord, h.apart⟩
theorem TwAt.alloc (h : TwAt d w rb tb nd A c l N wr) (o : Obj) : TwAt d w rb tb nd A c l N (wr.alloc o) := h.below ((Below.refl _ _).alloc (Nat.le_refl _) o)
theorem TwAt.drew (h : TwAt d w rb tb nd A c l N wr) : TwAt d w rb tb nd A c l N wr.drew := h.below (Below.refl _ _).drew
theorem TwAt.more (h : TwAt d w rb tb nd A c l N wr) (hM : N ≤ M) : TwAt d w rb tb nd A c l M wr := { h with st := h.st.more hM }
theorem own_put {w : World} {B n sz : Nat} {e : TypeId} {v : Value} {xs : List Value} (h : w.ownsRow B e sz v n xs) {p : Addr} (hp : ∀ q, v.ownBlock = some q → q ≠ p.block) (u : Value) : (w.setCell p u).ownsRow B e sz v n xs :=
  h.kept (grown_set (g := p.block) u rfl) (by
    cases hv : v.ownBlock with
    | none => exact .inl rfl
    | some g => exact .inr (fun e => by injection e with e; exact hp g hv e))
theorem TwAt.base (h : TwAt d w rb tb nd A c l N wr) : d.W0.heap.size ≤ w.heap.size := Nat.le_of_lt (Nat.lt_of_le_of_lt h.gle h.ord.1)
theorem TwAt.put (h : TwAt d w rb tb nd A c l N wr) {p : Addr} (h0 : w.heap.size ≤ p.block) (h1 : p.block ≠ rb) (h2 : p.block ≠ tb) (h3 : ∀ q, (Value.slice A l.length c).ownBlock = some q → q ≠ p.block) (u : Value) : TwAt d w rb tb nd A c l N (wr.setCell p u) :=
  ⟨h.gle, h.st.put (Nat.le_trans h.base h0) (by have := h.ord; omega) u, grown_put h.gr h0 u, h.res.far h1 u, h.box.far h2 u, own_put h.own h3 u, h.ord, h.apart⟩
/-- The number of nodes stored. -/
theorem TwAt.setN (h : TwAt d w rb tb nd A c l N wr) (x : Int) : TwAt d w rb tb x A c l N (wr.setCell ⟨tb, 0, none⟩ (.int .i64 x)) := by
  have h0 : w.heap.size ≤ tb := by have := h.ord; omega
  have h1 : tb ≠ d.g := by have := h.ord; omega
  exact ⟨h.gle, h.st.put (p := ⟨tb, 0, none⟩) (Nat.le_trans h.base h0) h1 _, grown_put h.gr (p := ⟨tb, 0, none⟩) h0 _, h.res.far (p := ⟨tb, 0, none⟩) (by have := h.ord; simp; omega) _, (h.box.set (k := 0) (by simp) _).cast rfl,
    own_put (p := ⟨tb, 0, none⟩) h.own (fun q hq => (h.apart q hq).2) _, h.ord, h.apart⟩
/-- The streets stored. -/
theorem TwAt.setL (h : TwAt d w rb tb nd A c l N wr) {A' : Option Addr} {c' : Nat} {l' : List StT} (ho : wr.ownsRow w.heap.size 34 3 (.slice A' l'.length c') l'.length (l'.flatMap tcells)) (ha : ∀ q, (Value.slice A' l'.length c').ownBlock = some q → q ≠ rb ∧ q ≠ tb) :
    TwAt d w rb tb nd A' c' l' N (wr.setCell ⟨tb, 1, none⟩ (.slice A' l'.length c')) := by
  have h0 : w.heap.size ≤ tb := by have := h.ord; omega
  have h1 : tb ≠ d.g := by have := h.ord; omega
  exact ⟨h.gle, h.st.put (p := ⟨tb, 1, none⟩) (Nat.le_trans h.base h0) h1 _, grown_put h.gr (p := ⟨tb, 1, none⟩) h0 _, h.res.far (p := ⟨tb, 1, none⟩) (by have := h.ord; simp; omega) _, (h.box.set (k := 1) (by simp) _).cast rfl,
    own_put (p := ⟨tb, 1, none⟩) ho (fun q hq => (ha q hq).2) _, h.ord, ha⟩
theorem TwAt.set (h : TwAt d w rb tb nd A c l N wr) (x : Int) {A' : Option Addr} {c' : Nat} {l' : List StT} (ho : wr.ownsRow w.heap.size 34 3 (.slice A' l'.length c') l'.length (l'.flatMap tcells)) (ha : ∀ q, (Value.slice A' l'.length c').ownBlock = some q → q ≠ rb ∧ q ≠ tb) :
    TwAt d w rb tb x A' c' l' N ((wr.setCell ⟨tb, 0, none⟩ (.int .i64 x)).setCell ⟨tb, 1, none⟩ (.slice A' l'.length c')) :=
  (h.setN x).setL (own_put (p := ⟨tb, 0, none⟩) ho (fun q hq => (ha q hq).2) _) ha
/-- What AddStreet asks of the streets. -/
theorem own_pre {w : World} {B c : Nat} {A : Option Addr} {l : List StT} (h : w.ownsRow B 34 3 (.slice A l.length c) l.length (l.flatMap tcells)) :
    l.length ≤ c ∧ c ≤ maxLen ∧ Rd w A (l.flatMap tcells) ∧ ((A = none ∧ l.length = 0 ∧ c = 0) ∨ ∃ b off, A = some ⟨b, off, none⟩) := by
  obtain ⟨A', cap, hv, hr, hn, hc, h0, h1⟩ := own_open h
  simp only [Value.slice.injEq, true_and] at hv
  obtain ⟨rfl, rfl⟩ := hv
  refine ⟨hn, hc, hr, ?_⟩
  cases A with
  | none => obtain ⟨a, b, -⟩ := h0 rfl; exact .inl ⟨rfl, a, b⟩
  | some ad =>
    obtain ⟨b, off, sp⟩ := ad
    obtain ⟨rfl, rfl, -⟩ := h1 b off sp rfl
    exact .inr ⟨b, 0, rfl⟩
/-- What the draw of a town leaves: m: at most so many streets. -/
def DrwTown (d : Drw) (M m : Nat) (Pn : Int → Prop) (w : World) (e : Ending) (w' : World) : Prop :=
  (∃ (nd : Int) (A : Option Addr) (c : Nat) (l : List StT), e = .returned (.agg #[.int .i64 nd, .slice A l.length c]) ∧ Pn nd ∧ l.length ≤ m ∧ w'.ownsRow w.heap.size 34 3 (.slice A l.length c) l.length (l.flatMap tcells)) ∧ d.st M w' ∧ w.grownBy w' (some d.g)
theorem TwAt.done (h : TwAt d w rb tb nd A c l N wr) {m : Nat} {Pn : Int → Prop} (hn : Pn nd) (hl : l.length ≤ m) (hM : N ≤ M) (u0 u1 : Value) : DrwTown d M m Pn w (.returned (.agg #[.int .i64 nd, .slice A l.length c])) ((wr.setCell ⟨rb, 0, none⟩ u0).setCell ⟨rb, 1, none⟩ u1) := by
  have h0 : w.heap.size ≤ rb := h.ord.2.1
  have h1 : rb ≠ d.g := by have := h.ord; omega
  have hg := Nat.le_trans h.base h0
  exact ⟨⟨nd, A, c, l, rfl, hn, hl, own_put (p := ⟨rb, 1, none⟩) (own_put (p := ⟨rb, 0, none⟩) h.own (fun q hq => (h.apart q hq).1) _) (fun q hq => (h.apart q hq).1) _⟩,
    ((h.st.more hM).put (p := ⟨rb, 0, none⟩) hg h1 _).put (p := ⟨rb, 1, none⟩) hg h1 _, grown_put (grown_put h.gr (p := ⟨rb, 0, none⟩) h0 _) (p := ⟨rb, 1, none⟩) h0 _⟩
/-- Behind an append to the streets: both boxes. -/
theorem TwAt.far (h : TwAt d w rb tb nd A c l N wr) (hg : wr.grownBy w' (Value.slice A l.length c).ownBlock) : Row w' rb [.int .i64 0, .slice none 0 0] ∧ Row w' tb [.int .i64 nd, .slice A l.length c] :=
  ⟨h.res.grown hg (fun e => (h.apart rb e.symm).1 rfl), h.box.grown hg (fun e => (h.apart tb e.symm).2 rfl)⟩
/-- An append to the streets, stored. -/
theorem TwAt.append (h : TwAt d w rb tb nd A c l N wr) {g c' : Nat} {s : StT} (hg : wr.grownBy w' (Value.slice A l.length c).ownBlock) (hw : (Value.slice A l.length c).ownBlock = some g ∨ g = wr.heap.size)
    (ho : w'.ownsRow w.heap.size 34 3 (.slice (some ⟨g, 0, none⟩) (l.length + 1) c') (l.length + 1) (l.flatMap tcells ++ tcells s)) :
    TwAt d w rb tb nd (some ⟨g, 0, none⟩) c' (l ++ [s]) N (w'.setCell ⟨tb, 1, none⟩ (.slice (some ⟨g, 0, none⟩) (l.length + 1) c')) := by
  have hl : (l ++ [s]).length = l.length + 1 := by simp
  have hc : (l ++ [s]).flatMap tcells = l.flatMap tcells ++ tcells s := by simp
  have hlt : ∀ k, (Value.slice A l.length c).ownBlock = some k → w.heap.size ≤ k ∧ k < wr.heap.size := fun k hk => h.own.lt k hk
  obtain ⟨r1, r2⟩ := h.far hg
  have hgr : g ≠ rb ∧ g ≠ tb := by
    rcases hw with hw | hw
    · exact h.apart g hw
    · have := h.res.1
      have := h.box.1
      omega
  have hbase := h.base
  have hS : w'.setCell ⟨tb, 1, none⟩ (.slice (some ⟨g, 0, none⟩) (l.length + 1) c') = w'.setCell ⟨tb, 1, none⟩ (.slice (some ⟨g, 0, none⟩) (l ++ [s]).length c') := by rw [hl]
  rw [hS]
  refine ⟨h.gle, (h.st.grown hg (fun k hk => by have := hlt k hk; have := h.ord; omega)).put (p := ⟨tb, 1, none⟩) (by have := h.ord; simp; omega) (by have := h.ord; simp; omega) _, grown_put (grown_own h.gr hg (fun j hj => (hlt j hj).1)) (p := ⟨tb, 1, none⟩) (by have := h.ord; simp; omega) _, r1.far (p := ⟨tb, 1, none⟩) (by have := h.ord; simp; omega) _, (r2.set (k := 1) (by simp) _).cast rfl, ?_, h.ord, fun q hq => by
    simp [Value.ownBlock] at hq
    subst hq
    exact hgr⟩
  rw [hl, hc]
  exact own_put (p := ⟨tb, 1, none⟩) ho (fun q hq => by
    simp [Value.ownBlock] at hq
    subst hq
    exact hgr.2) _
end
end Go.Proofs.Ytbkhejkncmgdeaa
namespace Go.Proofs.Ytbkhejkncmgdeaa
open Go.RowKit
set_option linter.unusedVariables false

theorem wp_of_run {P : Program} {Q : Exit → Act → World → Prop} {o : Oper} {a : Act} {w w' : World} {K : Act → World → Prop} {v : Value} (hrun : (execOp a.eval o).run P w = .ok (.value v) w') (h : K (a.put o.dst v) w') : Oper.wp P o a w K Q := by
  unfold Oper.wp
  rw [hrun]
  exact h
theorem run_ints3 (a b c : Int) (w : World) : (Instr.buildSlice 45 3 #[(0, .int .i64 a), (1, .int .i64 b), (2, .int .i64 c)]).run Try.prog w = .ok (.slice (some ⟨w.heap.size, 0, none⟩) 3 3) (w.alloc (.cells #[.int .i64 a, .int .i64 b, .int .i64 c] 3)) := by kernel_rfl
theorem wp_ints3 {Q : Exit → Act → World → Prop} {o : Oper} {ac : Act} {w : World} {K : Act → World → Prop} (a b c : Int) (x0 x1 x2 : Operand) (ho : o.op = .buildSlice 45 3 #[(0, x0), (1, x1), (2, x2)]) (e0 : ac.eval x0 = .int .i64 a) (e1 : ac.eval x1 = .int .i64 b) (e2 : ac.eval x2 = .int .i64 c) (h : K (ac.put o.dst (.slice (some ⟨w.heap.size, 0, none⟩) 3 3)) (w.alloc (.cells #[.int .i64 a, .int .i64 b, .int .i64 c] 3))) : Oper.wp Try.prog o ac w K Q := by
  refine wp_of_run ?_ h
  have := run_ints3 a b c w
  unfold execOp
  simp only [ho, List.map_toArray, List.map_cons, List.map_nil, e0, e1, e2, Sem.run_bind, this, Result.andThen_ok, Sem.run_pure]
theorem run_ints5 (a b c d e : Int) (w : World) : (Instr.buildSlice 45 5 #[(0, .int .i64 a), (1, .int .i64 b), (2, .int .i64 c), (3, .int .i64 d), (4, .int .i64 e)]).run Try.prog w = .ok (.slice (some ⟨w.heap.size, 0, none⟩) 5 5) (w.alloc (.cells #[.int .i64 a, .int .i64 b, .int .i64 c, .int .i64 d, .int .i64 e] 3)) := by kernel_rfl
theorem wp_ints5 {Q : Exit → Act → World → Prop} {o : Oper} {ac : Act} {w : World} {K : Act → World → Prop} (a b c d e : Int) (x0 x1 x2 x3 x4 : Operand) (ho : o.op = .buildSlice 45 5 #[(0, x0), (1, x1), (2, x2), (3, x3), (4, x4)]) (e0 : ac.eval x0 = .int .i64 a) (e1 : ac.eval x1 = .int .i64 b) (e2 : ac.eval x2 = .int .i64 c) (e3 : ac.eval x3 = .int .i64 d) (e4 : ac.eval x4 = .int .i64 e) (h : K (ac.put o.dst (.slice (some ⟨w.heap.size, 0, none⟩) 5 5)) (w.alloc (.cells #[.int .i64 a, .int .i64 b, .int .i64 c, .int .i64 d, .int .i64 e] 3))) : Oper.wp Try.prog o ac w K Q := by
  refine wp_of_run ?_ h
  have := run_ints5 a b c d e w
  unfold execOp
  simp only [ho, List.map_toArray, List.map_cons, List.map_nil, e0, e1, e2, e3, e4, Sem.run_bind, this, Result.andThen_ok, Sem.run_pure]
theorem run_ints6 (a b c d e f : Int) (w : World) : (Instr.buildSlice 45 6 #[(0, .int .i64 a), (1, .int .i64 b), (2, .int .i64 c), (3, .int .i64 d), (4, .int .i64 e), (5, .int .i64 f)]).run Try.prog w = .ok (.slice (some ⟨w.heap.size, 0, none⟩) 6 6) (w.alloc (.cells #[.int .i64 a, .int .i64 b, .int .i64 c, .int .i64 d, .int .i64 e, .int .i64 f] 3)) := by kernel_rfl
theorem wp_ints6 {Q : Exit → Act → World → Prop} {o : Oper} {ac : Act} {w : World} {K : Act → World → Prop} (a b c d e f : Int) (x0 x1 x2 x3 x4 x5 : Operand) (ho : o.op = .buildSlice 45 6 #[(0, x0), (1, x1), (2, x2), (3, x3), (4, x4), (5, x5)]) (e0 : ac.eval x0 = .int .i64 a) (e1 : ac.eval x1 = .int .i64 b) (e2 : ac.eval x2 = .int .i64 c) (e3 : ac.eval x3 = .int .i64 d) (e4 : ac.eval x4 = .int .i64 e) (e5 : ac.eval x5 = .int .i64 f) (h : K (ac.put o.dst (.slice (some ⟨w.heap.size, 0, none⟩) 6 6)) (w.alloc (.cells #[.int .i64 a, .int .i64 b, .int .i64 c, .int .i64 d, .int .i64 e, .int .i64 f] 3))) : Oper.wp Try.prog o ac w K Q := by
  refine wp_of_run ?_ h
  have := run_ints6 a b c d e f w
  unfold execOp
  simp only [ho, List.map_toArray, List.map_cons, List.map_nil, e0, e1, e2, e3, e4, e5, Sem.run_bind, this, Result.andThen_ok, Sem.run_pure]
end Go.Proofs.Ytbkhejkncmgdeaa

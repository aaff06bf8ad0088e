/- Regions that draw their order: (1) calls that only make memory, one walk in the order of the text; (2) loads ahead of a call whose fresh result is read in the same statement. -/
import Derived.WalkKit
import Derived.Deep.QuietTactic
import Derived.BigQuiet
import Derived.OrdersHeld
import Derived.Deep.RegionHeld
import Derived.Deep.Draws
namespace Go.Proofs.Ytmmeoabmjbclcaa
open Go.RowKit

theorem hide {p : Prop} (h : p) : Hid p := h
theorem unhide {p : Prop} (h : Hid p) : p := h

theorem below_drewN {B : Nat} {a w : World} (h : Below B a w) (n : Nat) : Below B a (w.drewN n) := ⟨h.os, h.tape, h.output, h.size, h.block⟩

/-- A world in which all that was there is as it was. -/
def Later (w0 : World) : Type := { w' : World // Below w0.heap.size w0 w' }
def Later.w {w0 : World} (n : Later w0) : World := n.1
theorem Later.below {w0 : World} (n : Later w0) : Below w0.heap.size w0 n.w := n.2
def Later.mk {w0 w' : World} (h : Below w0.heap.size w0 w') : Later w0 := ⟨w', h⟩
instance (w0 : World) : Nonempty (Later w0) := ⟨⟨w0, Below.refl _ _⟩⟩
theorem Later.cell {w0 : World} (n : Later w0) (b o : Nat) (h : b < w0.heap.size) : n.w.cell? ⟨b, o, none⟩ = w0.cell? ⟨b, o, none⟩ := n.below.cell (p := ⟨b, o, none⟩) h
theorem Later.cellA {w0 : World} (n : Later w0) (p : Addr) (h : p.block < w0.heap.size) : n.w.cell? p = w0.cell? p := n.below.cell (p := p) h
theorem Later.frozen {w0 : World} (n : Later w0) (b o : Nat) (h : b < w0.heap.size) : n.w.frozen? ⟨b, o, none⟩ = w0.frozen? ⟨b, o, none⟩ := n.below.frozen (p := ⟨b, o, none⟩) h
attribute [go_sem] Later.cell Later.cellA Later.frozen

abbrev LaterC (w0 : World) : World → Prop := fun w' => ∃ n : Later w0, w' = n.w

section
variable {P : Program} {ops : Array Oper} {Q : Exit → Act → World → Prop} {md : Region.Mode}

/-- (1) Every operation yields one value in every later world, and leaves a later world. -/
theorem wp_region_later {id : Nat} {a : Act} {w : World} {l : List Oper} (hm : P.follows .mixedOrders = true) (hB : Region.lexB .any l.toArray = true)
    (h : wpQuiet P l.toArray (fun w' => ∃ n : Later w, w' = n.w) (fun a' => ∀ w', (∃ n : Later w, w' = n.w) → Q .normal a' w') l a) : (Code.region id l.toArray true).wp P Q a w :=
  wp_region_quiet (C := fun w' => ∃ n : Later w, w' = n.w) hm hB ⟨⟨_, (Below.refl _ w).drew⟩, rfl⟩ (by simpa using h)

/-- A callee's contract, met in a later world. -/
theorem calls_later {f : FuncId} {args : Array Value} {w : World} {n : Later w} {v : Value}
    (h : Calls P f args n.w fun e w' => e = .returned v ∧ Below n.w.heap.size n.w w') : Calls P f args n.w fun e w'' => e = .returned v ∧ ∃ m : Later w, w'' = m.w :=
  h.mono fun _ _ ⟨he, hb⟩ => ⟨he, ⟨_, n.below.trans (hb.mono n.below.size)⟩, rfl⟩
theorem calls_later_same {f : FuncId} {args : Array Value} {w : World} {n : Later w} {v : Value}
    (h : Calls P f args n.w fun e w' => e = .returned v ∧ n.w = w') : Calls P f args n.w fun e w'' => e = .returned v ∧ ∃ m : Later w, w'' = m.w :=
  h.mono fun _ _ ⟨he, hb⟩ => ⟨he, n, hb.symm⟩

/-- An operation that, if it yields, yields a value, and is no call of a Go function. -/
def mild (o : Oper) : Bool :=
  match o.op with
  | .move _ | .assign _ | .pick .. | .build .. | .load .. | .binOp .. | .unOp .. | .convert .. | .slice .. | .fieldAddr .. | .field .. | .indexAddr .. | .index .. | .nilCheck _ => true
  | .call c => match c.callee with
    | .builtin .len | .builtin .min | .builtin .max => true
    | _ => false
  | _ => false

theorem value_of_bind {s : Sem Value} {w w' : World} {n : Next} (h : (do pure (.value (← s)) : Sem Next).run P w = .ok n w') : ∃ v, n = .value v := by
  simp only [Sem.run_bind, Sem.run_pure] at h
  cases hr : s.run P w with
  | ok v w1 => rw [hr] at h; simp [Result.andThen] at h; exact ⟨v, h.1.symm⟩
  | halt x w1 => rw [hr] at h; simp [Result.andThen] at h

theorem mild_value {o : Oper} (hm : mild o = true) (ρ : Operand → Value) {w w' : World} {n : Next} (h : (execOp ρ o).run P w = .ok n w') : (∃ v, n = .value v) := by
  obtain ⟨dst, op, type, pos, after, guard⟩ := o
  unfold execOp at h
  cases op <;> simp only [mild] at hm <;> simp only at h
  case move x => simp at h; exact ⟨_, h.1.symm⟩
  case assign x => simp at h; exact ⟨_, h.1.symm⟩
  case pick c a b =>
    simp only [Sem.run_bind, Sem.run_pure] at h
    cases hr : (asBool (ρ c)).run P w with
    | ok v w1 => rw [hr] at h; simp [Result.andThen] at h; exact ⟨_, h.1.symm⟩
    | halt x w1 => rw [hr] at h; simp [Result.andThen] at h
  case nilCheck x =>
    split at h
    · simp [runtimePanic] at h
    · simp [runtimePanic] at h
    · simp [runtimePanic] at h
    · split at h
      · simp [runtimePanic] at h
      · simp only [Sem.run_bind] at h
        revert h
        cases (program).run P w with
        | halt x w1 => simp [Result.andThen]
        | ok p w1 =>
          simp only [Result.andThen]
          rename_i t w0 _
          cases ((nilAhead (p.types.size + Made.depth) t w0 _).run P w1) with
          | halt x w2 => simp
          | ok q w2 =>
            simp only
            split
            · simp [unsupported]
            · intro h; simp at h; exact ⟨_, h.1.symm⟩
      · simp at h; exact ⟨_, h.1.symm⟩
    · simp at h; exact ⟨_, h.1.symm⟩
  case call c =>
    cases hc : c.callee with
    | builtin b =>
      simp only [hc] at hm
      cases b <;> simp only at hm <;> first | (simp [resolve, hc, invoke, builtin] at h; exact value_of_bind (by simpa using h)) | (simp at hm; done)
    | value f => simp [hc] at hm
    | invoke r m => simp [hc] at hm
  all_goals first | exact value_of_bind h | (simp at hm; done)

/-- Operations number 'is', one behind the other, each of which may come up and is waited for or looked away from by all others. -/
def phaseB (md : Region.Mode) (ops : Array Oper) : List Nat → Array Bool → Bool
  | [], _ => true
  | i :: is, listed => (Region.ready md ops listed).contains i && Region.free md ops listed i && ((ops[i]?).map mild).getD false && phaseB md ops is (listed.setIfInBounds i true)
def listAll : List Nat → Array Bool → Array Bool
  | [], listed => listed
  | i :: is, listed => listAll is (listed.setIfInBounds i true)

/-- (2) Readers first: what they yield holds in every later world. -/
theorem wpAnyH_phase {w0 : World} (hs : Region.noSelect ops = true) (hQ : ∀ c a d v w, Q (.panic c) (Act.put a d v) w → Q (.panic c) a w) : ∀ (is : List Nat) (l : List Oper) (fuel : Nat) (listed listed' : Array Bool) (a : Act) (w : World),
    phaseB md ops is listed = true → is.filterMap (fun i => ops[i]?) = l → listAll is listed = listed' → (∃ n : Later w0, w = n.w) →
    wpQuiet P ops (fun w' => ∃ n : Later w0, w' = n.w) (fun a' => wpAnyH P md ops Q (fun w' => ∃ n : Later w0, w' = n.w) fuel listed' a' w) l a →
    wpAnyH P md ops Q (fun w' => ∃ n : Later w0, w' = n.w) (is.length + fuel) listed a w
  | [], l, fuel, listed, listed', a, w, _, hl, hL, _, h => by
    simp at hl
    subst hl
    simp only [listAll] at hL
    subst hL
    simpa [wpQuiet] using h
  | i :: is, l, fuel, listed, listed', a, w, hB, hl, hL, hw, h => by
    simp only [phaseB, Bool.and_eq_true] at hB
    obtain ⟨⟨⟨hr, hf⟩, hm⟩, hB'⟩ := hB
    cases ho : ops[i]? with
    | none => simp [ho] at hm
    | some o =>
      simp only [ho, Option.map_some, Option.getD_some] at hm
      simp only [List.filterMap_cons, ho] at hl
      subst hl
      have hst : qOp P ops (fun w' => ∃ n : Later w0, w' = n.w) i (wpQuiet P ops (fun w' => ∃ n : Later w0, w' = n.w) (fun a' => wpAnyH P md ops Q (fun w' => ∃ n : Later w0, w' = n.w) fuel listed' a' w) (is.filterMap (fun i => ops[i]?))) a := by
        unfold qOp; simp only [ho]; exact h
      obtain ⟨v, hy, hK⟩ := yieldsIn_of_qOp ho hst
      have hy' : YieldsIf P ops (fun w' => ∃ n : Later w0, w' = n.w) o v a := by
        rcases hy with ⟨h1, h2⟩ | h1
        · refine .inl ⟨h1, fun w1 hw1 => ?_⟩
          have h3 := h2 w1 hw1
          unfold Oper.quietAt at h3
          cases hrun : (execOp a.eval o).run P w1 with
          | halt x w2 => rw [hrun] at h3; exact h3.elim
          | ok n w2 =>
            obtain ⟨u, rfl⟩ := mild_value hm a.eval hrun
            rw [hrun] at h3
            obtain ⟨e1, e2⟩ := h3
            rw [e1, e2]
        · exact .inr h1
      have := wpAnyH_take (fuel := is.length + fuel) ho hs hf hr (fun c a w => hQ c a _ _ w) hy' hw
        (wpAnyH_phase hs hQ is _ fuel _ _ _ w hB' rfl hL hw hK)
      rw [show (i :: is).length + fuel = is.length + fuel + 1 from by simp; omega]
      exact this

theorem wpAnyH_take_all {w0 : World} (is : List Nat) (fuel : Nat) {n : Nat} {l : List Oper} {listed listed' : Array Bool} {a : Act} {w : World} (hn : is.length + fuel = n) (hs : Region.noSelect ops = true) (hQ : ∀ c a d v w, Q (.panic c) (Act.put a d v) w → Q (.panic c) a w)
    (hB : phaseB md ops is listed = true) (hl : is.filterMap (fun i => ops[i]?) = l) (hL : listAll is listed = listed') (hw : ∃ n : Later w0, w = n.w)
    (h : wpQuiet P ops (fun w' => ∃ n : Later w0, w' = n.w) (fun a' => wpAnyH P md ops Q (fun w' => ∃ n : Later w0, w' = n.w) fuel listed' a' w) l a) :
    wpAnyH P md ops Q (fun w' => ∃ n : Later w0, w' = n.w) n listed a w := by
  subst hn
  exact wpAnyH_phase hs hQ is l fuel listed listed' a w hB hl hL hw h

theorem wpAnyH_mono {S S' : World → Prop} (hS : ∀ w, S' w → S w) : ∀ (fuel : Nat) (listed : Array Bool) (a : Act) (w : World), wpAnyH P md ops Q S' fuel listed a w → wpAnyH P md ops Q S fuel listed a w
  | 0, _, _, _, h => h
  | fuel + 1, _, _, _, h => ⟨h.1, fun i hi => wpOp_mono (fun _ _ h' => ⟨hS _ h'.1, wpAnyH_mono hS fuel _ _ _ h'.2⟩) (h.2 i hi)⟩

/-- The one operation that may come up now: behind it the later worlds are counted from there on. -/
theorem wpAnyH_only {w0 : World} (i : Nat) {o : Oper} {fuel : Nat} {listed listed' : Array Bool} {a : Act} {w : World} (hr : Region.ready md ops listed = [i]) (ho : ops[i]? = some o) (hL : listed.setIfInBounds i true = listed') (hg : o.guard = none) (hw : ∃ n : Later w0, w = n.w)
    (h : ∀ K : Act → World → Prop, (∀ a w', (Below w.heap.size w w' ∧ wpAnyH P md ops Q (fun w2 => ∃ n : Later w', w2 = n.w) fuel listed' a w') → K a w') → Oper.wp P o a w K Q) :
    wpAnyH P md ops Q (fun w' => ∃ n : Later w0, w' = n.w) (fuel + 1) listed a w := by
  refine wpAnyH_all hr (by simp) fun j hj => ?_
  simp only [List.mem_singleton] at hj
  subst hj
  obtain ⟨n0, rfl⟩ := hw
  refine wpOp_step ho (fun K' hK => ?_)
  rw [if_pos (by simp [Region.wanted, hg])]
  refine h K' (fun a' w' ⟨hb', hW⟩ => ?_)
  have hb : Below w0.heap.size w0 w' := n0.below.trans (hb'.mono n0.below.size)
  refine hK _ _ ⟨⟨⟨w', hb⟩, rfl⟩, ?_⟩
  rw [hL]
  exact wpAnyH_mono (fun w2 ⟨n, hn⟩ => ⟨⟨w2, hb.trans (by rw [hn]; exact n.below.mono hb.size)⟩, rfl⟩) _ _ _ _ hW

theorem wpAnyH_start {id : Nat} {a : Act} {w : World} {l : List Oper} {n : Nat} {listed : Array Bool} (hm : P.follows .mixedOrders = true) (hn : l.length = n) (hL : Array.replicate n false = listed)
    (h : wpAnyH P .any l.toArray Q (fun w' => ∃ n : Later w, w' = n.w) n listed a w.drew) : (Code.region id l.toArray true).wp P Q a w := by
  refine wp_region_held (S := fun w' => ∃ n : Later w, w' = n.w) hm ?_
  subst hL hn
  simpa using h

theorem later_drew (w : World) : ∃ n : Later w, w.drew = n.w := ⟨⟨_, (Below.refl _ w).drew⟩, rfl⟩
theorem later_refl (w : World) : ∃ n : Later w, w = n.w := ⟨⟨_, Below.refl _ w⟩, rfl⟩
end
end Go.Proofs.Ytmmeoabmjbclcaa

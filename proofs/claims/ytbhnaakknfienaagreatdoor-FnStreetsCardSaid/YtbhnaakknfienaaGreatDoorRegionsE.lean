/- Regions that draw their order: phases of readers among which stand extracts of a call's results. -/
import Derived.Test.YtbhnaakknfienaaGreatDoorRegionsS
namespace Go.Proofs.YtbhnaakknfienaaGreatDoor
open Go.RowKit

section
variable {P : Program} {ops : Array Oper} {Q : Exit → Act → World → Prop} {md : Region.Mode} {S : World → Prop}
/-- An operation that, if it yields, yields a value, and is no call of a Go function; an extract of a call's results too. -/
def mildE (o : Oper) : Bool := mild o || (match o.op with | .extract .. => true | _ => false)
theorem mildE_value {o : Oper} (hm : mildE o = true) (ρ : Operand → Value) {w w' : World} {n : Next} (h : (execOp ρ o).run P w = .ok n w') : (∃ v, n = .value v) := by
  rw [mildE, Bool.or_eq_true] at hm
  rcases hm with hm | hm
  · exact mild_value hm ρ h
  · obtain ⟨dst, op, type, pos, after, guard⟩ := o
    unfold execOp at h
    cases op <;> simp only at hm <;> simp only at h
    all_goals first | exact value_of_bind h | (simp at hm; done)
def phaseE (md : Region.Mode) (ops : Array Oper) : List Nat → Array Bool → Bool
  | [], _ => true
  | i :: is, listed => (Region.ready md ops listed).contains i && Region.free md ops listed i && ((ops[i]?).map mildE).getD false && phaseE md ops is (listed.setIfInBounds i true)

theorem wpAnyS_phaseE (hs : Region.noSelect ops = true) (hQ : ∀ c a d v w, Q (.panic c) (Act.put a d v) w → Q (.panic c) a w) : ∀ (is : List Nat) (l : List Oper) (fuel : Nat) (listed listed' : Array Bool) (a : Act) (w : World),
    phaseE md ops is listed = true → is.filterMap (fun i => ops[i]?) = l → listAll is listed = listed' → S w →
    wpQuiet P ops S (fun a' => wpAnyH P md ops Q S fuel listed' a' w) l a →
    wpAnyH P md ops Q S (is.length + fuel) listed a w
  | [], l, fuel, listed, listed', a, w, _, hl, hL, _, h => by
    simp at hl
    subst hl
    simp only [listAll] at hL
    subst hL
    simpa [wpQuiet] using h
  | i :: is, l, fuel, listed, listed', a, w, hB, hl, hL, hw, h => by
    simp only [phaseE, Bool.and_eq_true] at hB
    obtain ⟨⟨⟨hr, hf⟩, hm⟩, hB'⟩ := hB
    cases ho : ops[i]? with
    | none => simp [ho] at hm
    | some o =>
      simp only [ho, Option.map_some, Option.getD_some] at hm
      simp only [List.filterMap_cons, ho] at hl
      subst hl
      have hst : qOp P ops S i (wpQuiet P ops S (fun a' => wpAnyH P md ops Q S fuel listed' a' w) (is.filterMap (fun i => ops[i]?))) a := by
        unfold qOp; simp only [ho]; exact h
      obtain ⟨v, hy, hK⟩ := yieldsIn_of_qOp ho hst
      have hy' : YieldsIf P ops S o v a := by
        rcases hy with ⟨h1, h2⟩ | h1
        · refine .inl ⟨h1, fun w1 hw1 => ?_⟩
          have h3 := h2 w1 hw1
          unfold Oper.quietAt at h3
          cases hrun : (execOp a.eval o).run P w1 with
          | halt x w2 => rw [hrun] at h3; exact h3.elim
          | ok n w2 =>
            obtain ⟨u, rfl⟩ := mildE_value hm a.eval hrun
            rw [hrun] at h3
            obtain ⟨e1, e2⟩ := h3
            rw [e1, e2]
        · exact .inr h1
      have := wpAnyH_take (fuel := is.length + fuel) ho hs hf hr (fun c a w => hQ c a _ _ w) hy' hw
        (wpAnyS_phaseE hs hQ is _ fuel _ _ _ w hB' rfl hL hw hK)
      rw [show (i :: is).length + fuel = is.length + fuel + 1 from by simp; omega]
      exact this

theorem wpAnyS_take_allE (is : List Nat) (fuel : Nat) {n : Nat} {l : List Oper} {listed listed' : Array Bool} {a : Act} {w : World} (hn : is.length + fuel = n) (hs : Region.noSelect ops = true) (hQ : ∀ c a d v w, Q (.panic c) (Act.put a d v) w → Q (.panic c) a w)
    (hB : phaseE md ops is listed = true) (hl : is.filterMap (fun i => ops[i]?) = l) (hL : listAll is listed = listed') (hw : S w)
    (h : wpQuiet P ops S (fun a' => wpAnyH P md ops Q S fuel listed' a' w) l a) :
    wpAnyH P md ops Q S n listed a w := by
  subst hn
  exact wpAnyS_phaseE hs hQ is l fuel listed listed' a w hB hl hL hw h

end
end Go.Proofs.YtbhnaakknfienaaGreatDoor

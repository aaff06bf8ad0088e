/- The frame of a law's row that lists package-level variables, where the proof leans on the world's shape besides: a call that returns true and turns nothing that was there proves the row. -/
import Derived.Test.YtmoelgbbgepckaaDoorFrame
import Derived.LaidLaws
import Derived.Lay
import Derived.LaidMore
import Derived.ChangeVars
import Derived.JoinedOf
import Derived.JoinedAt
import Derived.SevenTiedAt
namespace Go.Proofs.YtmoelgbbgepckaaDoor
open Go.ChangeShapes Go.WideShapes Go.ChangeAt Go.RowKit

theorem law_lift_shaped {H : Type} {enc : TypeId × Value → H} {C : Checked} {os : Os} {laid : List (String × DataW Unit)} (own : ownKnob C.prog.godebug = none) (started : os.Started) {s : ChangeSpec} {f : FuncId} {fn : Func} {tb : TypeId}
    (hvars : s.vars = []) (noInit : C.prog.inits.idxOf? f = none) (hfn : C.prog.funcs[f]? = some fn) (hres : fn.resultTypes = #[tb]) (hb : C.prog.underlying tb = some .bool)
    (hl : laidOutB C.prog = true) (hts : fn.params.toList.all (fun t => C.prog.readableRec t && decide (t < C.prog.types.size)) = true)
    (hs : ∀ ds : List (DataW H), ds.length = fn.params.toList.length → s.fn H ds = { results := [.lit (.bool true)], args := ds })
    (witness : ∃ (w : World) (tape : Tape) (i : Input), w.os = os ∧ (w.forCall tape i).Shaped C.prog ∧ i.vars = [] ∧ Input.okWide C.prog (w.forCall tape i) .any w.heap.size f i ∧
      ((s.pre enc C.prog fn [] false (w.forCall tape i).memory i.args ∧ laidMetH C.prog laid (w.forCall tape i).memory) ∧ sizedMet enc C.prog fn (OpenSpec.ofChange s) false (w.forCall tape i).memory i.args) ∧ Assume.holds {} C.prog (lone (Frame.enter C.prog f i.args .normal) [] (w.forCall tape i)))
    (walk : ∀ (W : World) (base : Nat) (args : Array Value) (ds : List (DataW H)) (p : List MemPlace),
      (∀ (j : Nat) t v, fn.params[j]? = some t → args[j]? = some v → Value.okWide C.prog W .any base t v) →
      DataW.TrodAll enc C.prog W 0 (fun _ => true) true fn.params.toList args.toList ds p →
      (DataW.weightsEach C.prog fn.params.toList ds).all (· ≤ reachBytes) = true → laidMetH C.prog laid W → W.ShapedOpen C.prog →
      Calls C.prog f args W fun e W' => e = .returned (.bool true) ∧ Below W.heap.size W W') :
    ReturnsInHanded {} C os f .any (fun w args => (s.pre enc C.prog fn [] false w args ∧ laidMetH C.prog laid w) ∧ sizedMet enc C.prog fn (OpenSpec.ofChange s) false w args) (s.post enc C.prog fn false true false false) := by
  refine returnsInHanded_of_calls own started noInit witness ?_
  intro w tape i _ hsh _ hok hpre _
  obtain ⟨_, _, _, fn', hfn', _, _, _, _, hval⟩ := hok
  have e : fn' = fn := Option.some.inj (hfn'.symm.trans hfn)
  subst e
  obtain ⟨⟨⟨ds, gs, before, hW, hc⟩, hL⟩, hz⟩ := hpre
  replace hz : (DataW.weightsEach C.prog (fn'.params.toList ++ s.plain.varTypes C.prog) (ds ++ gs)).all (· ≤ reachBytes) = true := hz.weights hW
  replace hW := DataW.Whole.of_heap (w' := w.forCall tape i) (by rfl) hW
  replace hL : laidMetH C.prog laid (w.forCall tape i) := hL.of_heap (by rfl)
  generalize w.forCall tape i = W at *
  generalize i.args = args at *
  have hW' := hW
  obtain ⟨p, q, hA, hV, rfl, hfz, hnd⟩ := hW
  have hvt : s.plain.varTypes C.prog = [] := by simp [DataSpec.varTypes, ChangeSpec.plain, hvars]
  rw [hvt] at hz
  rw [hvars] at hV
  obtain ⟨rfl, rfl⟩ := trodVars_none hV
  simp only [List.append_nil] at hz
  obtain ⟨_, hdl⟩ := trodAll_length hA
  refine (walk W w.heap.size args ds p hval hA hz hL hsh).mono fun e W' ⟨he, bel⟩ => ?_
  subst he
  refine ChangeSpec.post_blind ?_
  refine ⟨ds, [], p ++ [], [], p, [], hW', ?_, ?_, ?_, bel.frame _, fun h => by cases h⟩
  · rw [List.append_nil, hs ds hdl, hres]
    exact trodAll_mk1 (shut_bool hb _)
  · rw [List.append_nil, hs ds hdl]
    refine below_trodAll hl bel hts hA (fun x hx => hW'.lt x ?_)
    simpa using hx
  · rw [List.append_nil, hs ds hdl, hvars]
    rfl
end Go.Proofs.YtmoelgbbgepckaaDoor

/- The law FnExactParseNet: its statement, for every input: the program's ParseNet returns what the reference's returns, leaves its arguments as they were, and hands back memory of its own. The package-level variables that it lists read as the program's text lays them; the card ties them to that text. No other condition. -/
import Derived.Test.YtmoelgbbgepckaaDoorLawBase
import Derived.Test.YtmoelgbbgepckaaDoorPyEnvN
import Derived.Test.YtmoelgbbgepckaaDoorCards
import Derived.Test.YtmoelgbbgepckaaDoorTie
import Derived.Test.YtmoelgbbgepckaaDoorPyLWFnExactParseNet
namespace Go.Proofs.YtmoelgbbgepckaaDoor
open Go.ChangeShapes Go.WideShapes Go.ChangeAt Go.RowKit
/-- The door's own heap meets the condition. -/
theorem FnExactParseNet_door (os : Os) (args : Array Value) : laidMetH Tryd.prog Rows.fnExactParseNetRow.laid ((World.laidAll Tryd.prog os Rows.fnExactParseNetRow.laid).forCall (fun _ _ => 0) ⟨#[], args, []⟩).memory :=
  by rw [MakeChecks.laidMetH_plain _ _ _ (by kernel_rfl)]; exact laidMet_laidAll _ (by kernel_rfl) (by kernel_rfl)
set_option maxRecDepth 100000 in
theorem FnExactParseNet_lift (os : Os) (started : os.Started) (H : Type) (enc : TypeId × Value → H) :
    ReturnsInHanded {} Tryd.checked os 7 .any (fun w args => (Rows.fnExactParseNetSpec.pre enc Tryd.prog Tryd.f7 [] false w args ∧ laidMetH Tryd.prog Rows.fnExactParseNetRow.laid w) ∧ sizedMet enc Tryd.prog Tryd.f7 (OpenSpec.ofChange Rows.fnExactParseNetSpec) false w args) (Rows.fnExactParseNetSpec.post enc Tryd.prog Tryd.f7 false true false false) := by
  refine law_lift_shaped (C := Tryd.checked) (laid := Rows.fnExactParseNetRow.laid) law_own started rfl (by kernel_rfl) Tryd.func7 rfl (tb := 4) Tryd.underlying4 law_laidOut (by kernel_rfl) (fun ds h => by
    have h2 : ds.length = 1 := h
    match ds, h2 with | [_], _ => rfl)
    (ChangeSpec.witness_shaped (enc := enc) (C := Tryd.checked) (os := os) (X := fun w _ => laidMetH Tryd.prog Rows.fnExactParseNetRow.laid w) false (World.laidAll Tryd.prog os Rows.fnExactParseNetRow.laid) #[.string ByteArray.empty] 8 (World.laidAll_os _ _ _) (World.shaped_of_ZipB (by kernel_rfl) (by kernel_rfl)) (by kernel_rfl) (by kernel_rfl) (by kernel_rfl) (FnExactParseNet_door os _)) ?_
  intro W base args ds p hval0 hA0 hz hL0 hsh0
  have hval : ∀ (j : Nat) t v, Tryd.f7.params[j]? = some t → args[j]? = some v → Value.okWide Tryd.prog W .any base t v := hval0
  have hA : DataW.TrodAll enc Tryd.prog W 0 (fun _ => true) true Tryd.f7.params.toList args.toList ds p := hA0
  clear hval0 hA0
  rw [Tryd.params7] at hA hval
  obtain ⟨v0, vs0, d0, ds0, p0, q0, hargs, rfl, rfl, h0, r0⟩ := trodAll_cons hA
  obtain ⟨rfl, rfl, rfl⟩ := trodAll_nil r0
  obtain rfl : args = #[v0] := by cases args; simp_all
  obtain ⟨a0, rfl, rfl, rfl, w0⟩ := Go.ChangeMaps.open_string Tryd.underlying9 (hval 0 9 v0 rfl rfl) h0
  exact FnExactParseNet_walk a0 W w0 (env_n hL0 hsh0)

/-- The statement. -/
theorem FnExactParseNet_row : Rows.FnExactParseNetSaid :=
  OpenClaim.holds_of_wide 7 Tryd.f7 rfl rfl rfl rfl rfl rfl rfl ⟨rfl, rfl, rfl, rfl, rfl⟩ rfl rfl rfl rfl rfl (by kernel_rfl) Tryd.func7 (by kernel_rfl)
    (of_decide_eq_true (by kernel_rfl)) (by unfold Func.isWrapper; rw [if_neg (of_decide_eq_false (by kernel_rfl))]; exact ⟨rfl, rfl⟩)
    (fun os started H enc _ => FnExactParseNet_lift os started H enc)

/-- The card. -/
theorem FnExactParseNet_holds : Rows.FnExactParseNetCardSaid :=
  Claim7.holds_tied_plain_at .later [] [.data, .data, .data, .data, .sentinel, .sentinel, .listed, .data, .pinned] true (true, "dac7e3cd6b67b31a5a03b5dc01870ff891bfd5ef07e5d03ee0c265703fd90fe8") true
    FnExactParseNet_row (fun _ h => by cases h) (by kernel_rfl) (fun _ h => by cases h) fnExactParseNet_row_tie rfl ⟨rfl, rfl⟩ (by kernel_rfl) rfl
    (fun f fn hf hfn => by
      obtain rfl : f = 7 := Option.some.inj ((show Tryd.prog.funcNamed "loop.example/g01020/laws.FnExactParseNet" = some 7 by kernel_rfl).symm.trans hf) |>.symm
      obtain rfl : fn = Tryd.f7 := (Option.some.inj (Tryd.func7.symm.trans hfn)).symm
      exact ⟨by kernel_rfl, fun j t ht => by
        rw [Tryd.params7] at ht
        cases j with
        | zero =>
          obtain rfl : t = 9 := by simpa using ht.symm
          exact (show Tryd.prog.wantsStandIn 9 = false by kernel_rfl)
        | succ j =>
          simp at ht⟩)
    (by kernel_rfl)
#print axioms FnExactParseNet_holds
end Go.Proofs.YtmoelgbbgepckaaDoor

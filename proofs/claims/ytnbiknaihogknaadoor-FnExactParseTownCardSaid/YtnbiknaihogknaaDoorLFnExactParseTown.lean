/- The law FnExactParseTown: its statement, for every input: the program's ParseTown returns what the reference's returns, leaves its arguments as they were, and hands back memory of its own. The package-level variables that it lists read as the program's text lays them; the card ties them to that text. No other condition. -/
import Derived.Test.YtnbiknaihogknaaDoorLawBase
import Derived.Test.YtnbiknaihogknaaDoorPxEnvC
import Derived.Test.YtnbiknaihogknaaDoorCards
import Derived.Test.YtnbiknaihogknaaDoorTie
import Derived.Test.YtnbiknaihogknaaDoorPxLWFnExactParseTown
namespace Go.Proofs.YtnbiknaihogknaaDoor
open Go.ChangeShapes Go.WideShapes Go.ChangeAt Go.RowKit
/-- The door's own heap meets the condition. -/
theorem FnExactParseTown_door (os : Os) (args : Array Value) : laidMetH Tryd.prog Rows.fnExactParseTownRow.laid ((World.doorLaid Tryd.prog 86 os).forCall (fun _ _ => 0) ⟨#[], args, []⟩).memory :=
  laidMetH_of_parts3 (fuel := 8) (laidMet_of_run' 8 (by kernel_rfl) (by kernel_rfl)) (by kernel_rfl) (by kernel_rfl)
set_option maxRecDepth 100000 in
theorem FnExactParseTown_lift (os : Os) (started : os.Started) (H : Type) (enc : TypeId × Value → H) :
    ReturnsInHanded {} Tryd.checked os 3 .any (fun w args => (Rows.fnExactParseTownSpec.pre enc Tryd.prog Tryd.f3 [] false w args ∧ laidMetH Tryd.prog Rows.fnExactParseTownRow.laid w) ∧ sizedMet enc Tryd.prog Tryd.f3 (OpenSpec.ofChange Rows.fnExactParseTownSpec) false w args) (Rows.fnExactParseTownSpec.post enc Tryd.prog Tryd.f3 false true false false) := by
  refine law_lift_shaped (C := Tryd.checked) (laid := Rows.fnExactParseTownRow.laid) law_own started rfl (by kernel_rfl) Tryd.func3 rfl (tb := 4) Tryd.underlying4 law_laidOut (by kernel_rfl) (fun ds h => by
    have h2 : ds.length = 1 := h
    match ds, h2 with | [_], _ => rfl)
    (ChangeSpec.witness_shaped (enc := enc) (C := Tryd.checked) (os := os) (X := fun w _ => laidMetH Tryd.prog Rows.fnExactParseTownRow.laid w) false (World.doorLaid Tryd.prog 86 os) #[.string ByteArray.empty] 8 rfl (World.shaped_of_RefB (by kernel_rfl) (by kernel_rfl)) (by kernel_rfl) (by kernel_rfl) (by kernel_rfl) (FnExactParseTown_door os _)) ?_
  intro W base args ds p hval0 hA0 hz hL0 hsh0
  have hval : ∀ (j : Nat) t v, Tryd.f3.params[j]? = some t → args[j]? = some v → Value.okWide Tryd.prog W .any base t v := hval0
  have hA : DataW.TrodAll enc Tryd.prog W 0 (fun _ => true) true Tryd.f3.params.toList args.toList ds p := hA0
  clear hval0 hA0
  rw [Tryd.params3] at hA hval
  obtain ⟨v0, vs0, d0, ds0, p0, q0, hargs, rfl, rfl, h0, r0⟩ := trodAll_cons hA
  obtain ⟨rfl, rfl, rfl⟩ := trodAll_nil r0
  obtain rfl : args = #[v0] := by cases args; simp_all
  obtain ⟨a0, rfl, rfl, rfl, w0⟩ := Go.ChangeMaps.open_string Tryd.underlying9 (hval 0 9 v0 rfl rfl) h0
  exact FnExactParseTown_walk a0 W w0 (env_c hL0 hsh0)

/-- The statement. -/
theorem FnExactParseTown_row : Rows.FnExactParseTownSaid :=
  OpenClaim.holds_of_wide 3 Tryd.f3 rfl rfl rfl rfl rfl rfl rfl ⟨rfl, rfl, rfl, rfl, rfl⟩ rfl rfl rfl rfl rfl (by kernel_rfl) Tryd.func3 (by kernel_rfl)
    (of_decide_eq_true (by kernel_rfl)) (by unfold Func.isWrapper; rw [if_neg (of_decide_eq_false (by kernel_rfl))]; exact ⟨rfl, rfl⟩)
    (fun os started H enc _ => FnExactParseTown_lift os started H enc)

/-- The card. -/
theorem FnExactParseTown_holds : Rows.FnExactParseTownCardSaid :=
  Claim7.holds_tied_plain_at .later [] [.data, .data, .data, .sentinel, .sentinel, .listed, .data] true (true, "02692b55b58e716de4def63232871a447e48b70b29329ba85c642a6893a6823e") true
    FnExactParseTown_row (fun _ h => by cases h) (by kernel_rfl) (fun _ h => by cases h) fnExactParseTown_row_tie rfl ⟨rfl, rfl⟩ (by kernel_rfl) rfl
    (fun f fn hf hfn => by
      obtain rfl : f = 3 := Option.some.inj ((show Tryd.prog.funcNamed "loop.example/g01020/laws.FnExactParseTown" = some 3 by kernel_rfl).symm.trans hf) |>.symm
      obtain rfl : fn = Tryd.f3 := (Option.some.inj (Tryd.func3.symm.trans hfn)).symm
      exact ⟨by kernel_rfl, fun j t ht => by
        rw [Tryd.params3] at ht
        cases j with
        | zero =>
          obtain rfl : t = 9 := by simpa using ht.symm
          exact (show Tryd.prog.wantsStandIn 9 = false by kernel_rfl)
        | succ j =>
          simp at ht⟩)
    (by kernel_rfl)
#print axioms FnExactParseTown_holds
end Go.Proofs.YtnbiknaihogknaaDoor

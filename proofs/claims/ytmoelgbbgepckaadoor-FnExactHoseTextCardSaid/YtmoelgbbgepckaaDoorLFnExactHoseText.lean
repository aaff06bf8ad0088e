/- The law FnExactHoseText: its statement, for every input: the program's HoseText returns what the reference's returns, leaves its arguments as they were, and hands back memory of its own. The package-level variables that it lists read as the program's text lays them; the card ties them to that text. No other condition. -/
import Derived.Test.YtmoelgbbgepckaaDoorLawBase
import Derived.Test.YtmoelgbbgepckaaDoorLawTab
import Derived.Test.YtmoelgbbgepckaaDoorCards
import Derived.Test.YtmoelgbbgepckaaDoorTie
import Derived.Test.YtmoelgbbgepckaaDoorLWFnExactHoseText
namespace Go.Proofs.YtmoelgbbgepckaaDoor
open Go.ChangeShapes Go.WideShapes Go.ChangeAt Go.RowKit
/-- The door's own heap meets the condition. -/
theorem FnExactHoseText_door (os : Os) (args : Array Value) : laidMetH Tryd.prog Rows.fnExactHoseTextRow.laid ((World.doorLaid Tryd.prog 96 os).forCall (fun _ _ => 0) ⟨#[], args, []⟩).memory :=
  laidMetH_of_parts3 (fuel := 8) (laidMet_of_run' 8 (by kernel_rfl) (by kernel_rfl)) (by kernel_rfl) (by kernel_rfl)
set_option maxRecDepth 100000 in
theorem FnExactHoseText_lift (os : Os) (started : os.Started) (H : Type) (enc : TypeId × Value → H) :
    ReturnsInHanded {} Tryd.checked os 3 .any (fun w args => (Rows.fnExactHoseTextSpec.pre enc Tryd.prog Tryd.f3 [] false w args ∧ laidMetH Tryd.prog Rows.fnExactHoseTextRow.laid w) ∧ sizedMet enc Tryd.prog Tryd.f3 (OpenSpec.ofChange Rows.fnExactHoseTextSpec) false w args) (Rows.fnExactHoseTextSpec.post enc Tryd.prog Tryd.f3 false true false false) := by
  refine law_lift_laid (C := Tryd.checked) (laid := Rows.fnExactHoseTextRow.laid) law_own started rfl (by kernel_rfl) Tryd.func3 rfl (tb := 4) Tryd.underlying4 law_laidOut (by kernel_rfl) (fun ds h => by
    have h2 : ds.length = 1 := h
    match ds, h2 with | [_], _ => rfl)
    (ChangeSpec.witness_shaped (enc := enc) (C := Tryd.checked) (os := os) (X := fun w _ => laidMetH Tryd.prog Rows.fnExactHoseTextRow.laid w) false (World.doorLaid Tryd.prog 96 os) #[.slice none 0 0] 8 rfl (World.shaped_of_RefB (by kernel_rfl) (by kernel_rfl)) (by kernel_rfl) (by kernel_rfl) (by kernel_rfl) (FnExactHoseText_door os _)) ?_
  intro W base args ds p hval0 hA0 hz hL0
  have hval : ∀ (j : Nat) t v, Tryd.f3.params[j]? = some t → args[j]? = some v → Value.okWide Tryd.prog W .any base t v := hval0
  have hA : DataW.TrodAll enc Tryd.prog W 0 (fun _ => true) true Tryd.f3.params.toList args.toList ds p := hA0
  clear hval0 hA0
  rw [Tryd.params3] at hA hval
  obtain ⟨v0, vs0, d0, ds0, p0, q0, hargs, rfl, rfl, h0, r0⟩ := trodAll_cons hA
  obtain ⟨rfl, rfl, rfl⟩ := trodAll_nil r0
  obtain rfl : args = #[v0] := by cases args; simp_all
  obtain ⟨A0, n0, c0, rows0, rfl, hl0, hnc0, hc0, hq0, hr0, hz0, _⟩ := open_rows 2 (fun cs => ∃ x : Int×Int, hcells x = cs ∧ (True)) Tryd.underlying22 (by kernel_rfl) (fun fuel cs x hx => by
    obtain ⟨l, f⟩ := open_scalars Tryd.underlying85 (by kernel_rfl) (by kernel_rfl) (by kernel_rfl) hx
    obtain ⟨_, e0, s0⟩ := f 0 _ rfl
    obtain ⟨x0, rfl, w0⟩ := s0.int Tryd.underlying3
    obtain ⟨_, e1, s1⟩ := f 1 _ rfl
    obtain ⟨x1, rfl, w1⟩ := s1.int Tryd.underlying3
    refine ⟨(x0, x1), ?_, trivial⟩
    match cs, l with | [_, _], _ => simp_all [hcells]) (hval 0 22 v0 rfl rfl) h0
  obtain ⟨l0, rfl⟩ := rows_map (fun x : { x : Int×Int // True } => hcells x.1) rows0 (fun r hr => by obtain ⟨_, x, hx, ho⟩ := hq0 r hr; exact ⟨⟨x, ho⟩, hx⟩)
  have hr0' : Rd W A0 ((l0.map (·.1)).flatMap hcells) := by rw [List.flatMap_map, ← flatten_map]; exact hr0
  have hs0 : ∀ x ∈ l0.map (·.1), True := fun x hx => by obtain ⟨y, _, rfl⟩ := List.mem_map.1 hx; exact y.2
  have hl0' : n0 = (l0.map (·.1)).length := by rw [← hl0]; simp
  exact FnExactHoseText_walk A0 n0 c0 (l0.map (·.1)) W hl0' hnc0 hc0 hr0' (law_tab hL0)

/-- The statement. -/
theorem FnExactHoseText_row : Rows.FnExactHoseTextSaid :=
  OpenClaim.holds_of_wide 3 Tryd.f3 rfl rfl rfl rfl rfl rfl rfl ⟨rfl, rfl, rfl, rfl, rfl⟩ rfl rfl rfl rfl rfl (by kernel_rfl) Tryd.func3 (by kernel_rfl)
    (of_decide_eq_true (by kernel_rfl)) (by unfold Func.isWrapper; rw [if_neg (of_decide_eq_false (by kernel_rfl))]; exact ⟨rfl, rfl⟩)
    (fun os started H enc _ => FnExactHoseText_lift os started H enc)

/-- The card. -/
theorem FnExactHoseText_holds : Rows.FnExactHoseTextCardSaid :=
  Claim7.holds_tied_plain_at .later [] [.data, .data, .data] true (true, "dac7e3cd6b67b31a5a03b5dc01870ff891bfd5ef07e5d03ee0c265703fd90fe8") true
    FnExactHoseText_row (fun _ h => by cases h) (by kernel_rfl) (fun _ h => by cases h) fnExactHoseText_row_tie rfl ⟨rfl, rfl⟩ (by kernel_rfl) rfl
    (fun f fn hf hfn => by
      obtain rfl : f = 3 := Option.some.inj ((show Tryd.prog.funcNamed "loop.example/g01020/laws.FnExactHoseText" = some 3 by kernel_rfl).symm.trans hf) |>.symm
      obtain rfl : fn = Tryd.f3 := (Option.some.inj (Tryd.func3.symm.trans hfn)).symm
      exact ⟨by kernel_rfl, fun j t ht => by
        rw [Tryd.params3] at ht
        cases j with
        | zero =>
          obtain rfl : t = 22 := by simpa using ht.symm
          exact (show Tryd.prog.wantsStandIn 22 = false by kernel_rfl)
        | succ j =>
          simp at ht⟩)
    (by kernel_rfl)
#print axioms FnExactHoseText_holds
end Go.Proofs.YtmoelgbbgepckaaDoor

/- The law FnExactNetText: its statement, for every input: the program's NetText returns what the reference's returns, leaves its arguments as they were, and hands back memory of its own. The package-level variables that it lists read as the program's text lays them; the card ties them to that text. No other condition. -/
import Derived.Test.YtmoelgbbgepckaaDoorLawBase
import Derived.Test.YtmoelgbbgepckaaDoorLawTab
import Derived.Test.YtmoelgbbgepckaaDoorCards
import Derived.Test.YtmoelgbbgepckaaDoorTie
import Derived.Test.YtmoelgbbgepckaaDoorOpenT
import Derived.Test.YtmoelgbbgepckaaDoorLWFnExactNetText
namespace Go.Proofs.YtmoelgbbgepckaaDoor
open Go.ChangeShapes Go.WideShapes Go.ChangeAt Go.RowKit
/-- The door's own heap meets the condition. -/
theorem FnExactNetText_door (os : Os) (args : Array Value) : laidMetH Tryd.prog Rows.fnExactNetTextRow.laid ((World.doorLaid Tryd.prog 96 os).forCall (fun _ _ => 0) ⟨#[], args, []⟩).memory :=
  laidMetH_of_parts3 (fuel := 8) (laidMet_of_run' 8 (by kernel_rfl) (by kernel_rfl)) (by kernel_rfl) (by kernel_rfl)
set_option maxRecDepth 100000 in
theorem FnExactNetText_lift (os : Os) (started : os.Started) (H : Type) (enc : TypeId × Value → H) :
    ReturnsInHanded {} Tryd.checked os 6 .any (fun w args => (Rows.fnExactNetTextSpec.pre enc Tryd.prog Tryd.f6 [] false w args ∧ laidMetH Tryd.prog Rows.fnExactNetTextRow.laid w) ∧ sizedMet enc Tryd.prog Tryd.f6 (OpenSpec.ofChange Rows.fnExactNetTextSpec) false w args) (Rows.fnExactNetTextSpec.post enc Tryd.prog Tryd.f6 false true false false) := by
  refine law_lift_laid (C := Tryd.checked) (laid := Rows.fnExactNetTextRow.laid) law_own started rfl (by kernel_rfl) Tryd.func6 rfl (tb := 4) Tryd.underlying4 law_laidOut (by kernel_rfl) (fun ds h => by
    have h2 : ds.length = 1 := h
    match ds, h2 with | [_], _ => rfl)
    (ChangeSpec.witness_shaped (enc := enc) (C := Tryd.checked) (os := os) (X := fun w _ => laidMetH Tryd.prog Rows.fnExactNetTextRow.laid w) false (World.doorLaid Tryd.prog 96 os) #[.agg #[.slice none 0 0, .slice none 0 0]] 8 rfl (World.shaped_of_RefB (by kernel_rfl) (by kernel_rfl)) (by kernel_rfl) (by kernel_rfl) (by kernel_rfl) (FnExactNetText_door os _)) ?_
  intro W base args ds p hval0 hA0 hz hL0
  have hval : ∀ (j : Nat) t v, Tryd.f6.params[j]? = some t → args[j]? = some v → Value.okWide Tryd.prog W .any base t v := hval0
  have hA : DataW.TrodAll enc Tryd.prog W 0 (fun _ => true) true Tryd.f6.params.toList args.toList ds p := hA0
  clear hval0 hA0
  rw [Tryd.params6] at hA hval
  obtain ⟨v0, vs0, d0, ds0, p0, q0, hargs, rfl, rfl, h0, r0⟩ := trodAll_cons hA
  obtain ⟨rfl, rfl, rfl⟩ := trodAll_nil r0
  obtain rfl : args = #[v0] := by cases args; simp_all
  obtain ⟨cs0, rfl, l0, f0⟩ := open_fields Tryd.underlying51 (by kernel_rfl) (by kernel_rfl) (hval 0 51 v0 rfl rfl) h0
  obtain ⟨u0_0, fu0_0, du0_0, pu0_0, e0_0, s0_0⟩ := f0 0 _ rfl
  obtain ⟨A0_0, n0_0, c0_0, rows0_0, rfl, hl0_0, hnc0_0, hc0_0, hq0_0, hr0_0, hz0_0, _⟩ := open_rows_at 2 (fun cs => ∃ x : Int×Int, mcells x = cs ∧ (True)) Tryd.underlying48 (by kernel_rfl) (fun fuel cs x hx => by
    obtain ⟨l, f⟩ := open_scalars Tryd.underlying141 (by kernel_rfl) (by kernel_rfl) (by kernel_rfl) hx
    obtain ⟨_, e0, s0⟩ := f 0 _ rfl
    obtain ⟨x0, rfl, w0⟩ := s0.int Tryd.underlying3
    obtain ⟨_, e1, s1⟩ := f 1 _ rfl
    obtain ⟨x1, rfl, w1⟩ := s1.int Tryd.underlying3
    refine ⟨(x0, x1), ?_, trivial⟩
    match cs, l with | [_, _], _ => simp_all [mcells]) s0_0
  obtain ⟨l0_0, rfl⟩ := rows_map (fun x : { x : Int×Int // True } => mcells x.1) rows0_0 (fun r hr => by obtain ⟨_, x, hx, ho⟩ := hq0_0 r hr; exact ⟨⟨x, ho⟩, hx⟩)
  have hr0_0' : Rd W A0_0 ((l0_0.map (·.1)).flatMap mcells) := by rw [List.flatMap_map, ← flatten_map]; exact hr0_0
  have hs0_0 : ∀ x ∈ l0_0.map (·.1), True := fun x hx => by obtain ⟨y, _, rfl⟩ := List.mem_map.1 hx; exact y.2
  have hl0_0' : n0_0 = (l0_0.map (·.1)).length := by rw [← hl0_0]; simp
  obtain ⟨u0_1, fu0_1, du0_1, pu0_1, e0_1, s0_1⟩ := f0 1 _ rfl
  obtain ⟨A0_1, n0_1, c0_1, rows0_1, rfl, hl0_1, hnc0_1, hc0_1, hq0_1, hr0_1, hz0_1, _⟩ := open_rows_at 2 (fun cs => ∃ x : Int×Int, mcells x = cs ∧ (True)) Tryd.underlying49 (by kernel_rfl) (fun fuel cs x hx => by
    obtain ⟨l, f⟩ := open_scalars Tryd.underlying143 (by kernel_rfl) (by kernel_rfl) (by kernel_rfl) hx
    obtain ⟨_, e0, s0⟩ := f 0 _ rfl
    obtain ⟨x0, rfl, w0⟩ := s0.int Tryd.underlying3
    obtain ⟨_, e1, s1⟩ := f 1 _ rfl
    obtain ⟨x1, rfl, w1⟩ := s1.int Tryd.underlying3
    refine ⟨(x0, x1), ?_, trivial⟩
    match cs, l with | [_, _], _ => simp_all [mcells]) s0_1
  obtain ⟨l0_1, rfl⟩ := rows_map (fun x : { x : Int×Int // True } => mcells x.1) rows0_1 (fun r hr => by obtain ⟨_, x, hx, ho⟩ := hq0_1 r hr; exact ⟨⟨x, ho⟩, hx⟩)
  have hr0_1' : Rd W A0_1 ((l0_1.map (·.1)).flatMap mcells) := by rw [List.flatMap_map, ← flatten_map]; exact hr0_1
  have hs0_1 : ∀ x ∈ l0_1.map (·.1), True := fun x hx => by obtain ⟨y, _, rfl⟩ := List.mem_map.1 hx; exact y.2
  have hl0_1' : n0_1 = (l0_1.map (·.1)).length := by rw [← hl0_1]; simp
  obtain rfl : cs0 = [.slice A0_0 n0_0 c0_0, .slice A0_1 n0_1 c0_1] := by match cs0, l0 with | [_, _], _ => simp_all
  exact FnExactNetText_walk A0_0 n0_0 c0_0 (l0_0.map (·.1)) A0_1 n0_1 c0_1 (l0_1.map (·.1)) W hl0_0' hnc0_0 hc0_0 hr0_0' hl0_1' hnc0_1 hc0_1 hr0_1' (law_tab hL0)

/-- The statement. -/
theorem FnExactNetText_row : Rows.FnExactNetTextSaid :=
  OpenClaim.holds_of_wide 6 Tryd.f6 rfl rfl rfl rfl rfl rfl rfl ⟨rfl, rfl, rfl, rfl, rfl⟩ rfl rfl rfl rfl rfl (by kernel_rfl) Tryd.func6 (by kernel_rfl)
    (of_decide_eq_true (by kernel_rfl)) (by unfold Func.isWrapper; rw [if_neg (of_decide_eq_false (by kernel_rfl))]; exact ⟨rfl, rfl⟩)
    (fun os started H enc _ => FnExactNetText_lift os started H enc)

/-- The card. -/
theorem FnExactNetText_holds : Rows.FnExactNetTextCardSaid :=
  Claim7.holds_tied_plain_at .later [] [.data, .data, .data] true (true, "dac7e3cd6b67b31a5a03b5dc01870ff891bfd5ef07e5d03ee0c265703fd90fe8") true
    FnExactNetText_row (fun _ h => by cases h) (by kernel_rfl) (fun _ h => by cases h) fnExactNetText_row_tie rfl ⟨rfl, rfl⟩ (by kernel_rfl) rfl
    (fun f fn hf hfn => by
      obtain rfl : f = 6 := Option.some.inj ((show Tryd.prog.funcNamed "loop.example/g01020/laws.FnExactNetText" = some 6 by kernel_rfl).symm.trans hf) |>.symm
      obtain rfl : fn = Tryd.f6 := (Option.some.inj (Tryd.func6.symm.trans hfn)).symm
      exact ⟨by kernel_rfl, fun j t ht => by
        rw [Tryd.params6] at ht
        cases j with
        | zero =>
          obtain rfl : t = 51 := by simpa using ht.symm
          exact (show Tryd.prog.wantsStandIn 51 = false by kernel_rfl)
        | succ j =>
          simp at ht⟩)
    (by kernel_rfl)
#print axioms FnExactNetText_holds
end Go.Proofs.YtmoelgbbgepckaaDoor

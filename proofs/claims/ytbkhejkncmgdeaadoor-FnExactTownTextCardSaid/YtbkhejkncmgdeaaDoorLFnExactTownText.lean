/- The law FnExactTownText: its statement, for every input: the program's TownText returns what the reference's returns, leaves its arguments as they were, and hands back memory of its own. The package-level variables that it lists read as the program's text lays them; the card ties them to that text. No other condition. -/
import Derived.Test.YtbkhejkncmgdeaaDoorLawBase
import Derived.Test.YtbkhejkncmgdeaaDoorLawTab
import Derived.Test.YtbkhejkncmgdeaaDoorCards
import Derived.Test.YtbkhejkncmgdeaaDoorTie
import Derived.Test.YtbkhejkncmgdeaaDoorOpenT
import Derived.Test.YtbkhejkncmgdeaaDoorLWFnExactTownText
namespace Go.Proofs.YtbkhejkncmgdeaaDoor
open Go.ChangeShapes Go.WideShapes Go.ChangeAt Go.RowKit
/-- The door's own heap meets the condition. -/
theorem FnExactTownText_door (os : Os) (args : Array Value) : laidMetH Tryd.prog Rows.fnExactTownTextRow.laid ((World.doorLaid Tryd.prog 86 os).forCall (fun _ _ => 0) ⟨#[], args, []⟩).memory :=
  laidMetH_of_parts3 (fuel := 8) (laidMet_of_run' 8 (by kernel_rfl) (by kernel_rfl)) (by kernel_rfl) (by kernel_rfl)
set_option maxRecDepth 100000 in
theorem FnExactTownText_lift (os : Os) (started : os.Started) (H : Type) (enc : TypeId × Value → H) :
    ReturnsInHanded {} Tryd.checked os 3 .any (fun w args => (Rows.fnExactTownTextSpec.pre enc Tryd.prog Tryd.f3 [] false w args ∧ laidMetH Tryd.prog Rows.fnExactTownTextRow.laid w) ∧ sizedMet enc Tryd.prog Tryd.f3 (OpenSpec.ofChange Rows.fnExactTownTextSpec) false w args) (Rows.fnExactTownTextSpec.post enc Tryd.prog Tryd.f3 false true false false) := by
  refine law_lift_laid (C := Tryd.checked) (laid := Rows.fnExactTownTextRow.laid) law_own started rfl (by kernel_rfl) Tryd.func3 rfl (tb := 4) Tryd.underlying4 law_laidOut (by kernel_rfl) (fun ds h => by
    have h2 : ds.length = 1 := h
    match ds, h2 with | [_], _ => rfl)
    (ChangeSpec.witness_shaped (enc := enc) (C := Tryd.checked) (os := os) (X := fun w _ => laidMetH Tryd.prog Rows.fnExactTownTextRow.laid w) false (World.doorLaid Tryd.prog 86 os) #[.agg #[.int .i64 0, .slice none 0 0]] 8 rfl (World.shaped_of_RefB (by kernel_rfl) (by kernel_rfl)) (by kernel_rfl) (by kernel_rfl) (by kernel_rfl) (FnExactTownText_door os _)) ?_
  intro W base args ds p hval0 hA0 hz hL0
  have hval : ∀ (j : Nat) t v, Tryd.f3.params[j]? = some t → args[j]? = some v → Value.okWide Tryd.prog W .any base t v := hval0
  have hA : DataW.TrodAll enc Tryd.prog W 0 (fun _ => true) true Tryd.f3.params.toList args.toList ds p := hA0
  clear hval0 hA0
  rw [Tryd.params3] at hA hval
  obtain ⟨v0, vs0, d0, ds0, p0, q0, hargs, rfl, rfl, h0, r0⟩ := trodAll_cons hA
  obtain ⟨rfl, rfl, rfl⟩ := trodAll_nil r0
  obtain rfl : args = #[v0] := by cases args; simp_all
  obtain ⟨cs0, rfl, l0, f0⟩ := open_fields Tryd.underlying24 (by kernel_rfl) (by kernel_rfl) (hval 0 24 v0 rfl rfl) h0
  obtain ⟨u0_0, fu0_0, du0_0, pu0_0, e0_0, s0_0⟩ := f0 0 _ rfl
  obtain ⟨a0_0, eu0_0, _, w0_0⟩ := DataW.trod_int Tryd.underlying3 s0_0
  simp only [List.cons.injEq, and_true] at eu0_0
  subst eu0_0
  obtain ⟨u0_1, fu0_1, du0_1, pu0_1, e0_1, s0_1⟩ := f0 1 _ rfl
  obtain ⟨A0_1, n0_1, c0_1, rows0_1, rfl, hl0_1, hnc0_1, hc0_1, hq0_1, hr0_1, hz0_1, _⟩ := open_rows_at 3 (fun cs => ∃ x : Int×Int×Int, tcells x = cs ∧ (True)) Tryd.underlying22 (by kernel_rfl) (fun fuel cs x hx => by
    obtain ⟨l, f⟩ := open_scalars Tryd.underlying58 (by kernel_rfl) (by kernel_rfl) (by kernel_rfl) hx
    obtain ⟨_, e0, s0⟩ := f 0 _ rfl
    obtain ⟨x0, rfl, w0⟩ := s0.int Tryd.underlying3
    obtain ⟨_, e1, s1⟩ := f 1 _ rfl
    obtain ⟨x1, rfl, w1⟩ := s1.int Tryd.underlying3
    obtain ⟨_, e2, s2⟩ := f 2 _ rfl
    obtain ⟨x2, rfl, w2⟩ := s2.int Tryd.underlying3
    refine ⟨(x0, x1, x2), ?_, trivial⟩
    match cs, l with | [_, _, _], _ => simp_all [tcells]) s0_1
  obtain ⟨l0_1, rfl⟩ := rows_map (fun x : { x : Int×Int×Int // True } => tcells x.1) rows0_1 (fun r hr => by obtain ⟨_, x, hx, ho⟩ := hq0_1 r hr; exact ⟨⟨x, ho⟩, hx⟩)
  have hr0_1' : Rd W A0_1 ((l0_1.map (·.1)).flatMap tcells) := by rw [List.flatMap_map, ← flatten_map]; exact hr0_1
  have hs0_1 : ∀ x ∈ l0_1.map (·.1), True := fun x hx => by obtain ⟨y, _, rfl⟩ := List.mem_map.1 hx; exact y.2
  have hl0_1' : n0_1 = (l0_1.map (·.1)).length := by rw [← hl0_1]; simp
  obtain rfl : cs0 = [.int .i64 a0_0, .slice A0_1 n0_1 c0_1] := by match cs0, l0 with | [_, _], _ => simp_all
  exact FnExactTownText_walk a0_0 A0_1 n0_1 c0_1 (l0_1.map (·.1)) W w0_0 hl0_1' hnc0_1 hc0_1 hr0_1' (law_tab hL0)

/-- The statement. -/
theorem FnExactTownText_row : Rows.FnExactTownTextSaid :=
  OpenClaim.holds_of_wide 3 Tryd.f3 rfl rfl rfl rfl rfl rfl rfl ⟨rfl, rfl, rfl, rfl, rfl⟩ rfl rfl rfl rfl rfl (by kernel_rfl) Tryd.func3 (by kernel_rfl)
    (of_decide_eq_true (by kernel_rfl)) (by unfold Func.isWrapper; rw [if_neg (of_decide_eq_false (by kernel_rfl))]; exact ⟨rfl, rfl⟩)
    (fun os started H enc _ => FnExactTownText_lift os started H enc)

/-- The card. -/
theorem FnExactTownText_holds : Rows.FnExactTownTextCardSaid :=
  Claim7.holds_tied_plain_at .later [] [.data, .data, .data] true (true, "76c4b048383f17ab74294ea0149ec45687a6fd52a8660be0b9ca0c49965ecba6") true
    FnExactTownText_row (fun _ h => by cases h) (by kernel_rfl) (fun _ h => by cases h) fnExactTownText_row_tie rfl ⟨rfl, rfl⟩ (by kernel_rfl) rfl
    (fun f fn hf hfn => by
      obtain rfl : f = 3 := Option.some.inj ((show Tryd.prog.funcNamed "loop.example/g01020/laws.FnExactTownText" = some 3 by kernel_rfl).symm.trans hf) |>.symm
      obtain rfl : fn = Tryd.f3 := (Option.some.inj (Tryd.func3.symm.trans hfn)).symm
      exact ⟨by kernel_rfl, fun j t ht => by
        rw [Tryd.params3] at ht
        cases j with
        | zero =>
          obtain rfl : t = 24 := by simpa using ht.symm
          exact (show Tryd.prog.wantsStandIn 24 = false by kernel_rfl)
        | succ j =>
          simp at ht⟩)
    (by kernel_rfl)
#print axioms FnExactTownText_holds
end Go.Proofs.YtbkhejkncmgdeaaDoor

/- The law FnExactRepeatedCalls: its statement, for every input, without a condition: the program's RepeatedCalls returns what the reference's returns, leaves its arguments as they were, and hands back memory of its own. No condition. -/
import Derived.Test.YtmmeoabmjbclcaaLawBase
import Derived.Test.YtmmeoabmjbclcaaLawF
namespace Go.Proofs.Ytmmeoabmjbclcaa
open Go.ChangeShapes Go.WideShapes Go.RowKit
set_option maxRecDepth 100000 in
theorem FnExactRepeatedCalls_lift (os : Os) (started : os.Started) (H : Type) (enc : TypeId × Value → H) :
    ReturnsInHanded {} Try.checked os 4 .any (Rows.fnExactRepeatedCallsSpec.pre6 enc Try.prog Try.f4 Rows.fnExactRepeatedCallsRow.domain false) (Rows.fnExactRepeatedCallsSpec.post enc Try.prog Try.f4 false true false false) := by
  refine law_lift (C := Try.checked) law_own started rfl (by kernel_rfl) Try.func4 rfl (tb := 4) Try.underlying4 law_laidOut (by kernel_rfl) (fun ds h => by
    have h2 : ds.length = 2 := h
    match ds, h2 with | [_, _], _ => rfl)
    (ChangeSpec.witness6 (enc := enc) (C := Try.checked) false ⟨#[], #[.slice none 0 0, .int .i64 0], []⟩ 8 (by kernel_rfl) (by kernel_rfl) (by kernel_rfl) (by kernel_rfl)) ?_
  intro W base args ds p hval0 hA0 hz
  have hval : ∀ (j : Nat) t v, Try.f4.params[j]? = some t → args[j]? = some v → Value.okWide Try.prog W .any base t v := hval0
  have hA : DataW.TrodAll enc Try.prog W 0 (fun _ => true) true Try.f4.params.toList args.toList ds p := hA0
  clear hval0 hA0
  rw [Try.params4] at hA hval
  obtain ⟨v0, vs0, d0, ds0, p0, q0, hargs, rfl, rfl, h0, r0⟩ := trodAll_cons hA
  obtain ⟨v1, vs1, d1, ds1, p1, q1, rfl, rfl, rfl, h1, r1⟩ := trodAll_cons r0
  obtain ⟨rfl, rfl, rfl⟩ := trodAll_nil r1
  obtain rfl : args = #[v0, v1] := by cases args; simp_all
  obtain ⟨A0, n0, c0, rows0, rfl, hl0, hnc0, hc0, hq0, hr0, hz0, _⟩ := open_rows 5 (fun cs => ∃ x : Int×Int×Int×Int×Int, ccells x = cs ∧ (True)) Try.underlying22 (by kernel_rfl) (fun fuel cs x hx => by
    obtain ⟨l, f⟩ := open_scalars Try.underlying43 (by kernel_rfl) (by kernel_rfl) (by kernel_rfl) hx
    obtain ⟨_, e0, s0⟩ := f 0 _ rfl
    obtain ⟨x0, rfl, w0⟩ := s0.int Try.underlying3
    obtain ⟨_, e1, s1⟩ := f 1 _ rfl
    obtain ⟨x1, rfl, w1⟩ := s1.int Try.underlying3
    obtain ⟨_, e2, s2⟩ := f 2 _ rfl
    obtain ⟨x2, rfl, w2⟩ := s2.int Try.underlying3
    obtain ⟨_, e3, s3⟩ := f 3 _ rfl
    obtain ⟨x3, rfl, w3⟩ := s3.int Try.underlying3
    obtain ⟨_, e4, s4⟩ := f 4 _ rfl
    obtain ⟨x4, rfl, w4⟩ := s4.int Try.underlying3
    refine ⟨(x0, x1, x2, x3, x4), ?_, trivial⟩
    match cs, l with | [_, _, _, _, _], _ => simp_all [ccells]) (hval 0 22 v0 rfl rfl) h0
  obtain ⟨l0, rfl⟩ := rows_map (fun x : { x : Int×Int×Int×Int×Int // True } => ccells x.1) rows0 (fun r hr => by obtain ⟨_, x, hx, ho⟩ := hq0 r hr; exact ⟨⟨x, ho⟩, hx⟩)
  have hr0' : Rd W A0 ((l0.map (·.1)).flatMap ccells) := by rw [List.flatMap_map, ← flatten_map]; exact hr0
  have hs0 : ∀ x ∈ l0.map (·.1), True := fun x hx => by obtain ⟨y, _, rfl⟩ := List.mem_map.1 hx; exact y.2
  have hl0' : n0 = (l0.map (·.1)).length := by rw [← hl0]; simp
  obtain ⟨a1, rfl, rfl, rfl, w1⟩ := open_int Try.underlying3 (hval 1 3 v1 rfl rfl) h1
  exact FnExactRepeatedCalls_walk A0 n0 c0 (l0.map (·.1)) a1 W hl0' hnc0 hc0 hr0' w1

/-- The statement. -/
theorem FnExactRepeatedCalls_holds : Rows.FnExactRepeatedCallsSaid :=
  OpenClaim.holds_of_wide 4 Try.f4 rfl rfl rfl rfl rfl rfl rfl ⟨rfl, rfl, rfl, rfl, rfl⟩ rfl rfl rfl rfl rfl (by kernel_rfl) Try.func4 (by kernel_rfl)
    (of_decide_eq_true (by kernel_rfl)) (by unfold Func.isWrapper; rw [if_neg (of_decide_eq_false (by kernel_rfl))]; exact ⟨rfl, rfl⟩)
    (fun os started H enc _ => FnExactRepeatedCalls_lift os started H enc)
#print axioms FnExactRepeatedCalls_holds
end Go.Proofs.Ytmmeoabmjbclcaa

/- The law FnExactCallersOf: its statement, for every input, without a condition: the program's CallersOf returns what the reference's returns, leaves its arguments as they were, and hands back memory of its own. No condition. -/
import Derived.Test.YtmmeoabmjbclcaaLawBase
import Derived.Test.YtmmeoabmjbclcaaLawG
namespace Go.Proofs.Ytmmeoabmjbclcaa
open Go.ChangeShapes Go.WideShapes Go.RowKit
set_option maxRecDepth 100000 in
theorem FnExactCallersOf_lift (os : Os) (started : os.Started) (H : Type) (enc : TypeId × Value → H) :
    ReturnsInHanded {} Try.checked os 3 .any (Rows.fnExactCallersOfSpec.pre6 enc Try.prog Try.f3 Rows.fnExactCallersOfRow.domain false) (Rows.fnExactCallersOfSpec.post enc Try.prog Try.f3 false true false false) := by
  refine law_lift (C := Try.checked) law_own started rfl (by kernel_rfl) Try.func3 rfl (tb := 4) Try.underlying4 law_laidOut (by kernel_rfl) (fun ds h => by
    have h2 : ds.length = 2 := h
    match ds, h2 with | [_, _], _ => rfl)
    (ChangeSpec.witness6 (enc := enc) (C := Try.checked) false ⟨#[], #[.slice none 0 0, .slice none 0 0], []⟩ 8 (by kernel_rfl) (by kernel_rfl) (by kernel_rfl) (by kernel_rfl)) ?_
  intro W base args ds p hval0 hA0 hz
  have hval : ∀ (j : Nat) t v, Try.f3.params[j]? = some t → args[j]? = some v → Value.okWide Try.prog W .any base t v := hval0
  have hA : DataW.TrodAll enc Try.prog W 0 (fun _ => true) true Try.f3.params.toList args.toList ds p := hA0
  clear hval0 hA0
  rw [Try.params3] at hA hval
  obtain ⟨v0, vs0, d0, ds0, p0, q0, hargs, rfl, rfl, h0, r0⟩ := trodAll_cons hA
  obtain ⟨v1, vs1, d1, ds1, p1, q1, rfl, rfl, rfl, h1, r1⟩ := trodAll_cons r0
  obtain ⟨rfl, rfl, rfl⟩ := trodAll_nil r1
  obtain rfl : args = #[v0, v1] := by cases args; simp_all
  obtain ⟨A0, n0, c0, rows0, rfl, hl0, hnc0, hc0, hq0, hr0, hz0, _⟩ := open_rows 5 (fun cs => ∃ x : Int×Int×Int×Int×Int, ccells x = cs ∧ (True)) Try.underlying22 (by kernel_rfl) (fun fuel cs x hx => by
    obtain ⟨l, f⟩ := open_scalars Try.underlying43 (by kernel_rfl) (by kernel_rfl) (by kernel_rfl) hx
    obtain ⟨_, e0, s0⟩ := f 0 _ rfl
    obtain ⟨x0, rfl, w0⟩ := s0.int Try.underlying3
    obtain ⟨_, e1, s1⟩ := f 1 _ rfl
    obtain ⟨x1, rfl, w1⟩ := s1.int Try.underlying3
    obtain ⟨_, e2, s2⟩ := f 2 _ rfl
    obtain ⟨x2, rfl, w2⟩ := s2.int Try.underlying3
    obtain ⟨_, e3, s3⟩ := f 3 _ rfl
    obtain ⟨x3, rfl, w3⟩ := s3.int Try.underlying3
    obtain ⟨_, e4, s4⟩ := f 4 _ rfl
    obtain ⟨x4, rfl, w4⟩ := s4.int Try.underlying3
    refine ⟨(x0, x1, x2, x3, x4), ?_, trivial⟩
    match cs, l with | [_, _, _, _, _], _ => simp_all [ccells]) (hval 0 22 v0 rfl rfl) h0
  obtain ⟨l0, rfl⟩ := rows_map (fun x : { x : Int×Int×Int×Int×Int // True } => ccells x.1) rows0 (fun r hr => by obtain ⟨_, x, hx, ho⟩ := hq0 r hr; exact ⟨⟨x, ho⟩, hx⟩)
  have hr0' : Rd W A0 ((l0.map (·.1)).flatMap ccells) := by rw [List.flatMap_map, ← flatten_map]; exact hr0
  have hs0 : ∀ x ∈ l0.map (·.1), True := fun x hx => by obtain ⟨y, _, rfl⟩ := List.mem_map.1 hx; exact y.2
  have hl0' : n0 = (l0.map (·.1)).length := by rw [← hl0]; simp
  obtain ⟨A1, n1, c1, rows1, rfl, hl1, hnc1, hc1, hq1, hr1, hz1, hd1⟩ := open_rows 1 (fun cs => ∃ x : { x : Int // (Lit.int .i64 x).wf = true }, [Value.int .i64 x.1] = cs) Try.underlying23 (by kernel_rfl) (fun fuel cs x hx => by obtain ⟨n, rfl, _, hw⟩ := DataW.trod_int Try.underlying3 hx; exact ⟨⟨n, hw⟩, rfl⟩) (hval 1 23 v1 rfl rfl) h1
  obtain ⟨l1, rfl⟩ := rows_map (fun x : { x : Int // (Lit.int .i64 x).wf = true } => [Value.int .i64 x.1]) rows1 (fun r hr => (hq1 r hr).2)
  have hr1' : Rd W A1 ((l1.map (·.1)).map (Value.int .i64)) := by rw [List.map_map, show l1.map ((Value.int .i64) ∘ (·.1)) = (l1.map (fun x => [Value.int .i64 x.1])).flatten from (flat_ones _ _).symm]; exact hr1
  have hs1 : ∀ x ∈ l1.map (·.1), (Lit.int .i64 x).wf = true := fun x hx => by obtain ⟨y, _, rfl⟩ := List.mem_map.1 hx; exact y.2
  have hl1' : n1 = (l1.map (·.1)).length := by rw [← hl1]; simp
  exact FnExactCallersOf_walk A0 n0 c0 (l0.map (·.1)) A1 n1 c1 (l1.map (·.1)) W hl0' hnc0 hc0 hr0' hl1' hnc1 hc1 hr1' hs1

/-- The statement. -/
theorem FnExactCallersOf_holds : Rows.FnExactCallersOfSaid :=
  OpenClaim.holds_of_wide 3 Try.f3 rfl rfl rfl rfl rfl rfl rfl ⟨rfl, rfl, rfl, rfl, rfl⟩ rfl rfl rfl rfl rfl (by kernel_rfl) Try.func3 (by kernel_rfl)
    (of_decide_eq_true (by kernel_rfl)) (by unfold Func.isWrapper; rw [if_neg (of_decide_eq_false (by kernel_rfl))]; exact ⟨rfl, rfl⟩)
    (fun os started H enc _ => FnExactCallersOf_lift os started H enc)
#print axioms FnExactCallersOf_holds
end Go.Proofs.Ytmmeoabmjbclcaa

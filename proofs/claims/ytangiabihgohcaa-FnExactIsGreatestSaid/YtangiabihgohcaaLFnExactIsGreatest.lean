/- The law FnExactIsGreatest: its statement, for every input, without a condition: the program's IsGreatest returns what the reference's returns, leaves its arguments as they were, and hands back memory of its own. No condition. -/
import Derived.Test.YtangiabihgohcaaLawBase
import Derived.Test.YtangiabihgohcaaOpenT
import Derived.Test.YtangiabihgohcaaLWFnExactIsGreatest
namespace Go.Proofs.Ytangiabihgohcaa
open Go.ChangeShapes Go.WideShapes Go.RowKit
set_option maxRecDepth 100000 in
theorem FnExactIsGreatest_lift (os : Os) (started : os.Started) (H : Type) (enc : TypeId × Value → H) :
    ReturnsInHanded {} Try.checked os 9 .any (Rows.fnExactIsGreatestSpec.pre6 enc Try.prog Try.f9 Rows.fnExactIsGreatestRow.domain false) (Rows.fnExactIsGreatestSpec.post enc Try.prog Try.f9 false true false false) := by
  refine law_lift (C := Try.checked) law_own started rfl (by kernel_rfl) Try.func9 rfl (tb := 4) Try.underlying4 law_laidOut (by kernel_rfl) (fun ds h => by
    have h2 : ds.length = 3 := h
    match ds, h2 with | [_, _, _], _ => rfl)
    (ChangeSpec.witness6 (enc := enc) (C := Try.checked) false ⟨#[], #[.agg #[.slice none 0 0, .slice none 0 0], .slice none 0 0, .slice none 0 0], []⟩ 8 (by kernel_rfl) (by kernel_rfl) (by kernel_rfl) (by kernel_rfl)) ?_
  intro W base args ds p hval0 hA0 hz
  have hval : ∀ (j : Nat) t v, Try.f9.params[j]? = some t → args[j]? = some v → Value.okWide Try.prog W .any base t v := hval0
  have hA : DataW.TrodAll enc Try.prog W 0 (fun _ => true) true Try.f9.params.toList args.toList ds p := hA0
  clear hval0 hA0
  rw [Try.params9] at hA hval
  obtain ⟨v0, vs0, d0, ds0, p0, q0, hargs, rfl, rfl, h0, r0⟩ := trodAll_cons hA
  obtain ⟨v1, vs1, d1, ds1, p1, q1, rfl, rfl, rfl, h1, r1⟩ := trodAll_cons r0
  obtain ⟨v2, vs2, d2, ds2, p2, q2, rfl, rfl, rfl, h2, r2⟩ := trodAll_cons r1
  obtain ⟨rfl, rfl, rfl⟩ := trodAll_nil r2
  obtain rfl : args = #[v0, v1, v2] := by cases args; simp_all
  obtain ⟨cs0, rfl, l0, f0⟩ := open_fields Try.underlying25 (by kernel_rfl) (by kernel_rfl) (hval 0 25 v0 rfl rfl) h0
  obtain ⟨u0_0, fu0_0, du0_0, pu0_0, e0_0, s0_0⟩ := f0 0 _ rfl
  obtain ⟨A0_0, n0_0, c0_0, rows0_0, rfl, hl0_0, hnc0_0, hc0_0, hq0_0, hr0_0, hz0_0, _⟩ := open_rows_at 2 (fun cs => ∃ x : Int×Int, mcells x = cs ∧ (True)) Try.underlying22 (by kernel_rfl) (fun fuel cs x hx => by
    obtain ⟨l, f⟩ := open_scalars Try.underlying90 (by kernel_rfl) (by kernel_rfl) (by kernel_rfl) hx
    obtain ⟨_, e0, s0⟩ := f 0 _ rfl
    obtain ⟨x0, rfl, w0⟩ := s0.int Try.underlying3
    obtain ⟨_, e1, s1⟩ := f 1 _ rfl
    obtain ⟨x1, rfl, w1⟩ := s1.int Try.underlying3
    refine ⟨(x0, x1), ?_, trivial⟩
    match cs, l with | [_, _], _ => simp_all [mcells]) s0_0
  obtain ⟨l0_0, rfl⟩ := rows_map (fun x : { x : Int×Int // True } => mcells x.1) rows0_0 (fun r hr => by obtain ⟨_, x, hx, ho⟩ := hq0_0 r hr; exact ⟨⟨x, ho⟩, hx⟩)
  have hr0_0' : Rd W A0_0 ((l0_0.map (·.1)).flatMap mcells) := by rw [List.flatMap_map, ← flatten_map]; exact hr0_0
  have hs0_0 : ∀ x ∈ l0_0.map (·.1), True := fun x hx => by obtain ⟨y, _, rfl⟩ := List.mem_map.1 hx; exact y.2
  have hl0_0' : n0_0 = (l0_0.map (·.1)).length := by rw [← hl0_0]; simp
  obtain ⟨u0_1, fu0_1, du0_1, pu0_1, e0_1, s0_1⟩ := f0 1 _ rfl
  obtain ⟨A0_1, n0_1, c0_1, rows0_1, rfl, hl0_1, hnc0_1, hc0_1, hq0_1, hr0_1, hz0_1, _⟩ := open_rows_at 2 (fun cs => ∃ x : Int×Int, mcells x = cs ∧ (True)) Try.underlying23 (by kernel_rfl) (fun fuel cs x hx => by
    obtain ⟨l, f⟩ := open_scalars Try.underlying92 (by kernel_rfl) (by kernel_rfl) (by kernel_rfl) hx
    obtain ⟨_, e0, s0⟩ := f 0 _ rfl
    obtain ⟨x0, rfl, w0⟩ := s0.int Try.underlying3
    obtain ⟨_, e1, s1⟩ := f 1 _ rfl
    obtain ⟨x1, rfl, w1⟩ := s1.int Try.underlying3
    refine ⟨(x0, x1), ?_, trivial⟩
    match cs, l with | [_, _], _ => simp_all [mcells]) s0_1
  obtain ⟨l0_1, rfl⟩ := rows_map (fun x : { x : Int×Int // True } => mcells x.1) rows0_1 (fun r hr => by obtain ⟨_, x, hx, ho⟩ := hq0_1 r hr; exact ⟨⟨x, ho⟩, hx⟩)
  have hr0_1' : Rd W A0_1 ((l0_1.map (·.1)).flatMap mcells) := by rw [List.flatMap_map, ← flatten_map]; exact hr0_1
  have hs0_1 : ∀ x ∈ l0_1.map (·.1), True := fun x hx => by obtain ⟨y, _, rfl⟩ := List.mem_map.1 hx; exact y.2
  have hl0_1' : n0_1 = (l0_1.map (·.1)).length := by rw [← hl0_1]; simp
  obtain rfl : cs0 = [.slice A0_0 n0_0 c0_0, .slice A0_1 n0_1 c0_1] := by match cs0, l0 with | [_, _], _ => simp_all
  obtain ⟨A1, n1, c1, rows1, rfl, hl1, hnc1, hc1, hq1, hr1, hz1, hd1⟩ := open_rows 1 (fun cs => ∃ x : { x : Int // (Lit.int .i64 x).wf = true }, [Value.int .i64 x.1] = cs) Try.underlying35 (by kernel_rfl) (fun fuel cs x hx => by obtain ⟨n, rfl, _, hw⟩ := DataW.trod_int Try.underlying3 hx; exact ⟨⟨n, hw⟩, rfl⟩) (hval 1 35 v1 rfl rfl) h1
  obtain ⟨l1, rfl⟩ := rows_map (fun x : { x : Int // (Lit.int .i64 x).wf = true } => [Value.int .i64 x.1]) rows1 (fun r hr => (hq1 r hr).2)
  have hr1' : Rd W A1 ((l1.map (·.1)).map (Value.int .i64)) := by rw [List.map_map, show l1.map ((Value.int .i64) ∘ (·.1)) = (l1.map (fun x => [Value.int .i64 x.1])).flatten from (flat_ones _ _).symm]; exact hr1
  have hs1 : ∀ x ∈ l1.map (·.1), (Lit.int .i64 x).wf = true := fun x hx => by obtain ⟨y, _, rfl⟩ := List.mem_map.1 hx; exact y.2
  have hl1' : n1 = (l1.map (·.1)).length := by rw [← hl1]; simp
  obtain ⟨A2, n2, c2, rows2, rfl, hl2, hnc2, hc2, hq2, hr2, hz2, hd2⟩ := open_rows 1 (fun cs => ∃ x : { x : Int // (Lit.int .i64 x).wf = true }, [Value.int .i64 x.1] = cs) Try.underlying35 (by kernel_rfl) (fun fuel cs x hx => by obtain ⟨n, rfl, _, hw⟩ := DataW.trod_int Try.underlying3 hx; exact ⟨⟨n, hw⟩, rfl⟩) (hval 2 35 v2 rfl rfl) h2
  obtain ⟨l2, rfl⟩ := rows_map (fun x : { x : Int // (Lit.int .i64 x).wf = true } => [Value.int .i64 x.1]) rows2 (fun r hr => (hq2 r hr).2)
  have hr2' : Rd W A2 ((l2.map (·.1)).map (Value.int .i64)) := by rw [List.map_map, show l2.map ((Value.int .i64) ∘ (·.1)) = (l2.map (fun x => [Value.int .i64 x.1])).flatten from (flat_ones _ _).symm]; exact hr2
  have hs2 : ∀ x ∈ l2.map (·.1), (Lit.int .i64 x).wf = true := fun x hx => by obtain ⟨y, _, rfl⟩ := List.mem_map.1 hx; exact y.2
  have hl2' : n2 = (l2.map (·.1)).length := by rw [← hl2]; simp
  exact FnExactIsGreatest_walk A0_0 n0_0 c0_0 (l0_0.map (·.1)) A0_1 n0_1 c0_1 (l0_1.map (·.1)) A1 n1 c1 (l1.map (·.1)) A2 n2 c2 (l2.map (·.1)) W hl0_0' hnc0_0 hc0_0 hr0_0' hl0_1' hnc0_1 hc0_1 hr0_1' hl1' hnc1 hc1 hr1' hs1 hl2' hnc2 hc2 hr2' hs2

/-- The statement. -/
theorem FnExactIsGreatest_holds : Rows.FnExactIsGreatestSaid :=
  OpenClaim.holds_of_wide 9 Try.f9 rfl rfl rfl rfl rfl rfl rfl ⟨rfl, rfl, rfl, rfl, rfl⟩ rfl rfl rfl rfl rfl (by kernel_rfl) Try.func9 (by kernel_rfl)
    (of_decide_eq_true (by kernel_rfl)) (by unfold Func.isWrapper; rw [if_neg (of_decide_eq_false (by kernel_rfl))]; exact ⟨rfl, rfl⟩)
    (fun os started H enc _ => FnExactIsGreatest_lift os started H enc)
#print axioms FnExactIsGreatest_holds
end Go.Proofs.Ytangiabihgohcaa

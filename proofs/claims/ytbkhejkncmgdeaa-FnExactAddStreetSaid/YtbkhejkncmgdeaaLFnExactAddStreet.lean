/- The law FnExactAddStreet: its statement, for every input, without a condition: the program's AddStreet returns what the reference's returns, leaves its arguments as they were, and hands back memory of its own. No condition. -/
import Derived.Test.YtbkhejkncmgdeaaLawBase
import Derived.Test.YtbkhejkncmgdeaaOpenT
import Derived.Test.YtbkhejkncmgdeaaLWFnExactAddStreet
namespace Go.Proofs.Ytbkhejkncmgdeaa
open Go.ChangeShapes Go.WideShapes Go.RowKit
set_option maxRecDepth 100000 in
theorem FnExactAddStreet_lift (os : Os) (started : os.Started) (H : Type) (enc : TypeId × Value → H) :
    ReturnsInHanded {} Try.checked os 3 .any (Rows.fnExactAddStreetSpec.pre6 enc Try.prog Try.f3 Rows.fnExactAddStreetRow.domain false) (Rows.fnExactAddStreetSpec.post enc Try.prog Try.f3 false true false false) := by
  refine law_lift (C := Try.checked) law_own started rfl (by kernel_rfl) Try.func3 rfl (tb := 4) Try.underlying4 law_laidOut (by kernel_rfl) (fun ds h => by
    have h2 : ds.length = 2 := h
    match ds, h2 with | [_, _], _ => rfl)
    (ChangeSpec.witness6 (enc := enc) (C := Try.checked) false ⟨#[], #[.agg #[.int .i64 0, .slice none 0 0], .agg #[.int .i64 0, .int .i64 0, .int .i64 0]], []⟩ 8 (by kernel_rfl) (by kernel_rfl) (by kernel_rfl) (by kernel_rfl)) ?_
  intro W base args ds p hval0 hA0 hz
  have hval : ∀ (j : Nat) t v, Try.f3.params[j]? = some t → args[j]? = some v → Value.okWide Try.prog W .any base t v := hval0
  have hA : DataW.TrodAll enc Try.prog W 0 (fun _ => true) true Try.f3.params.toList args.toList ds p := hA0
  clear hval0 hA0
  rw [Try.params3] at hA hval
  obtain ⟨v0, vs0, d0, ds0, p0, q0, hargs, rfl, rfl, h0, r0⟩ := trodAll_cons hA
  obtain ⟨v1, vs1, d1, ds1, p1, q1, rfl, rfl, rfl, h1, r1⟩ := trodAll_cons r0
  obtain ⟨rfl, rfl, rfl⟩ := trodAll_nil r1
  obtain rfl : args = #[v0, v1] := by cases args; simp_all
  obtain ⟨cs0, rfl, l0, f0⟩ := open_fields Try.underlying24 (by kernel_rfl) (by kernel_rfl) (hval 0 24 v0 rfl rfl) h0
  obtain ⟨u0_0, fu0_0, du0_0, pu0_0, e0_0, s0_0⟩ := f0 0 _ rfl
  obtain ⟨a0_0, eu0_0, _, w0_0⟩ := DataW.trod_int Try.underlying3 s0_0
  simp only [List.cons.injEq, and_true] at eu0_0
  subst eu0_0
  obtain ⟨u0_1, fu0_1, du0_1, pu0_1, e0_1, s0_1⟩ := f0 1 _ rfl
  obtain ⟨A0_1, n0_1, c0_1, rows0_1, rfl, hl0_1, hnc0_1, hc0_1, hq0_1, hr0_1, hz0_1, _⟩ := open_rows_at 3 (fun cs => ∃ x : Int×Int×Int, tcells x = cs ∧ (True)) Try.underlying22 (by kernel_rfl) (fun fuel cs x hx => by
    obtain ⟨l, f⟩ := open_scalars Try.underlying26 (by kernel_rfl) (by kernel_rfl) (by kernel_rfl) hx
    obtain ⟨_, e0, s0⟩ := f 0 _ rfl
    obtain ⟨x0, rfl, w0⟩ := s0.int Try.underlying3
    obtain ⟨_, e1, s1⟩ := f 1 _ rfl
    obtain ⟨x1, rfl, w1⟩ := s1.int Try.underlying3
    obtain ⟨_, e2, s2⟩ := f 2 _ rfl
    obtain ⟨x2, rfl, w2⟩ := s2.int Try.underlying3
    refine ⟨(x0, x1, x2), ?_, trivial⟩
    match cs, l with | [_, _, _], _ => simp_all [tcells]) s0_1
  obtain ⟨l0_1, rfl⟩ := rows_map (fun x : { x : Int×Int×Int // True } => tcells x.1) rows0_1 (fun r hr => by obtain ⟨_, x, hx, ho⟩ := hq0_1 r hr; exact ⟨⟨x, ho⟩, hx⟩)
  have hr0_1' : Rd W A0_1 ((l0_1.map (·.1)).flatMap tcells) := by rw [List.flatMap_map, ← flatten_map]; exact hr0_1
  have hs0_1 : ∀ x ∈ l0_1.map (·.1), True := fun x hx => by obtain ⟨y, _, rfl⟩ := List.mem_map.1 hx; exact y.2
  have hl0_1' : n0_1 = (l0_1.map (·.1)).length := by rw [← hl0_1]; simp
  obtain rfl : cs0 = [.int .i64 a0_0, .slice A0_1 n0_1 c0_1] := by match cs0, l0 with | [_, _], _ => simp_all
  obtain ⟨cs1, rfl, l1, f1⟩ := open_struct Try.underlying26 (by kernel_rfl) (by kernel_rfl) (by kernel_rfl) (hval 1 26 v1 rfl rfl) h1
  obtain ⟨_, e1_0, s1_0⟩ := f1 0 _ rfl
  obtain ⟨a1_0, rfl, w1_0⟩ := s1_0.int Try.underlying3
  obtain ⟨_, e1_1, s1_1⟩ := f1 1 _ rfl
  obtain ⟨a1_1, rfl, w1_1⟩ := s1_1.int Try.underlying3
  obtain ⟨_, e1_2, s1_2⟩ := f1 2 _ rfl
  obtain ⟨a1_2, rfl, w1_2⟩ := s1_2.int Try.underlying3
  obtain rfl : cs1 = [.int .i64 a1_0, .int .i64 a1_1, .int .i64 a1_2] := by match cs1, l1 with | [_, _, _], _ => simp_all
  exact FnExactAddStreet_walk a0_0 A0_1 n0_1 c0_1 (l0_1.map (·.1)) a1_0 a1_1 a1_2 W w0_0 hl0_1' hnc0_1 hc0_1 hr0_1'

/-- The statement. -/
theorem FnExactAddStreet_holds : Rows.FnExactAddStreetSaid :=
  OpenClaim.holds_of_wide 3 Try.f3 rfl rfl rfl rfl rfl rfl rfl ⟨rfl, rfl, rfl, rfl, rfl⟩ rfl rfl rfl rfl rfl (by kernel_rfl) Try.func3 (by kernel_rfl)
    (of_decide_eq_true (by kernel_rfl)) (by unfold Func.isWrapper; rw [if_neg (of_decide_eq_false (by kernel_rfl))]; exact ⟨rfl, rfl⟩)
    (fun os started H enc _ => FnExactAddStreet_lift os started H enc)
#print axioms FnExactAddStreet_holds
end Go.Proofs.Ytbkhejkncmgdeaa

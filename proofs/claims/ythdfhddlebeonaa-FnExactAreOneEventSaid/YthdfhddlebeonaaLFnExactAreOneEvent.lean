/- The law FnExactAreOneEvent: its statement, for every input, without a condition: the program's AreOneEvent returns what the reference's returns, leaves its arguments as they were, and hands back memory of its own. No condition. -/
import Derived.Test.YthdfhddlebeonaaLawBase
import Derived.Test.YthdfhddlebeonaaLawC
namespace Go.Proofs.Ythdfhddlebeonaa
open Go.ChangeShapes Go.WideShapes Go.RowKit
set_option maxRecDepth 100000 in
theorem FnExactAreOneEvent_lift (os : Os) (started : os.Started) (H : Type) (enc : TypeId × Value → H) :
    ReturnsInHanded {} Try.checked os 4 .any (Rows.fnExactAreOneEventSpec.pre6 enc Try.prog Try.f4 Rows.fnExactAreOneEventRow.domain false) (Rows.fnExactAreOneEventSpec.post enc Try.prog Try.f4 false true false false) := by
  refine law_lift (C := Try.checked) law_own started rfl (by kernel_rfl) Try.func4 rfl (tb := 4) Try.underlying4 law_laidOut (by kernel_rfl) (fun ds h => by
    have h2 : ds.length = 4 := h
    match ds, h2 with | [_, _, _, _], _ => rfl)
    (ChangeSpec.witness6 (enc := enc) (C := Try.checked) false ⟨#[], #[.agg #[.int .i64 0, .int .i64 0, .int .i64 0, .int .i64 0, .int .i64 0], .agg #[.int .i64 0, .int .i64 0, .int .i64 0, .int .i64 0, .int .i64 0], .int .i64 0, .int .i64 0], []⟩ 8 (by kernel_rfl) (by kernel_rfl) (by kernel_rfl) (by kernel_rfl)) ?_
  intro W base args ds p hval0 hA0 hz
  have hval : ∀ (j : Nat) t v, Try.f4.params[j]? = some t → args[j]? = some v → Value.okWide Try.prog W .any base t v := hval0
  have hA : DataW.TrodAll enc Try.prog W 0 (fun _ => true) true Try.f4.params.toList args.toList ds p := hA0
  clear hval0 hA0
  rw [Try.params4] at hA hval
  obtain ⟨v0, vs0, d0, ds0, p0, q0, hargs, rfl, rfl, h0, r0⟩ := trodAll_cons hA
  obtain ⟨v1, vs1, d1, ds1, p1, q1, rfl, rfl, rfl, h1, r1⟩ := trodAll_cons r0
  obtain ⟨v2, vs2, d2, ds2, p2, q2, rfl, rfl, rfl, h2, r2⟩ := trodAll_cons r1
  obtain ⟨v3, vs3, d3, ds3, p3, q3, rfl, rfl, rfl, h3, r3⟩ := trodAll_cons r2
  obtain ⟨rfl, rfl, rfl⟩ := trodAll_nil r3
  obtain rfl : args = #[v0, v1, v2, v3] := by cases args; simp_all
  obtain ⟨cs0, rfl, l0, f0⟩ := open_struct Try.underlying23 (by kernel_rfl) (by kernel_rfl) (by kernel_rfl) (hval 0 23 v0 rfl rfl) h0
  obtain ⟨_, e0_0, s0_0⟩ := f0 0 _ rfl
  obtain ⟨a0_0, rfl, w0_0⟩ := s0_0.int Try.underlying3
  obtain ⟨_, e0_1, s0_1⟩ := f0 1 _ rfl
  obtain ⟨a0_1, rfl, w0_1⟩ := s0_1.int Try.underlying3
  obtain ⟨_, e0_2, s0_2⟩ := f0 2 _ rfl
  obtain ⟨a0_2, rfl, w0_2⟩ := s0_2.int Try.underlying3
  obtain ⟨_, e0_3, s0_3⟩ := f0 3 _ rfl
  obtain ⟨a0_3, rfl, w0_3⟩ := s0_3.int Try.underlying3
  obtain ⟨_, e0_4, s0_4⟩ := f0 4 _ rfl
  obtain ⟨a0_4, rfl, w0_4⟩ := s0_4.int Try.underlying3
  obtain rfl : cs0 = [.int .i64 a0_0, .int .i64 a0_1, .int .i64 a0_2, .int .i64 a0_3, .int .i64 a0_4] := by match cs0, l0 with | [_, _, _, _, _], _ => simp_all
  obtain ⟨cs1, rfl, l1, f1⟩ := open_struct Try.underlying23 (by kernel_rfl) (by kernel_rfl) (by kernel_rfl) (hval 1 23 v1 rfl rfl) h1
  obtain ⟨_, e1_0, s1_0⟩ := f1 0 _ rfl
  obtain ⟨a1_0, rfl, w1_0⟩ := s1_0.int Try.underlying3
  obtain ⟨_, e1_1, s1_1⟩ := f1 1 _ rfl
  obtain ⟨a1_1, rfl, w1_1⟩ := s1_1.int Try.underlying3
  obtain ⟨_, e1_2, s1_2⟩ := f1 2 _ rfl
  obtain ⟨a1_2, rfl, w1_2⟩ := s1_2.int Try.underlying3
  obtain ⟨_, e1_3, s1_3⟩ := f1 3 _ rfl
  obtain ⟨a1_3, rfl, w1_3⟩ := s1_3.int Try.underlying3
  obtain ⟨_, e1_4, s1_4⟩ := f1 4 _ rfl
  obtain ⟨a1_4, rfl, w1_4⟩ := s1_4.int Try.underlying3
  obtain rfl : cs1 = [.int .i64 a1_0, .int .i64 a1_1, .int .i64 a1_2, .int .i64 a1_3, .int .i64 a1_4] := by match cs1, l1 with | [_, _, _, _, _], _ => simp_all
  obtain ⟨a2, rfl, rfl, rfl, w2⟩ := open_int Try.underlying3 (hval 2 3 v2 rfl rfl) h2
  obtain ⟨a3, rfl, rfl, rfl, w3⟩ := open_int Try.underlying3 (hval 3 3 v3 rfl rfl) h3
  exact FnExactAreOneEvent_walk a0_0 a0_1 a0_2 a0_3 a0_4 a1_0 a1_1 a1_2 a1_3 a1_4 a2 a3 W w2 w3

/-- The statement. -/
theorem FnExactAreOneEvent_holds : Rows.FnExactAreOneEventSaid :=
  OpenClaim.holds_of_wide 4 Try.f4 rfl rfl rfl rfl rfl rfl rfl ⟨rfl, rfl, rfl, rfl, rfl⟩ rfl rfl rfl rfl rfl (by kernel_rfl) Try.func4 (by kernel_rfl)
    (of_decide_eq_true (by kernel_rfl)) (by unfold Func.isWrapper; rw [if_neg (of_decide_eq_false (by kernel_rfl))]; exact ⟨rfl, rfl⟩)
    (fun os started H enc _ => FnExactAreOneEvent_lift os started H enc)
#print axioms FnExactAreOneEvent_holds
end Go.Proofs.Ythdfhddlebeonaa

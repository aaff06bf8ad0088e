/- The law FnExactIsStretch: its statement, for every input, without a condition: the program's IsStretch returns what the reference's returns, leaves its arguments as they were, and hands back memory of its own. No condition. -/
import Derived.Test.YthdfhddlebeonaaLawBase
import Derived.Test.YthdfhddlebeonaaLawE
namespace Go.Proofs.Ythdfhddlebeonaa
open Go.ChangeShapes Go.WideShapes Go.RowKit
set_option maxRecDepth 100000 in
theorem FnExactIsStretch_lift (os : Os) (started : os.Started) (H : Type) (enc : TypeId × Value → H) :
    ReturnsInHanded {} Try.checked os 9 .any (Rows.fnExactIsStretchSpec.pre6 enc Try.prog Try.f9 Rows.fnExactIsStretchRow.domain false) (Rows.fnExactIsStretchSpec.post enc Try.prog Try.f9 false true false false) := by
  refine law_lift (C := Try.checked) law_own started rfl (by kernel_rfl) Try.func9 rfl (tb := 4) Try.underlying4 law_laidOut (by kernel_rfl) (fun ds h => by
    have h2 : ds.length = 1 := h
    match ds, h2 with | [_], _ => rfl)
    (ChangeSpec.witness6 (enc := enc) (C := Try.checked) false ⟨#[], #[.agg #[.string ByteArray.empty, .int .i64 0, .int .i64 0, .int .i64 0, .int .i64 0]], []⟩ 8 (by kernel_rfl) (by kernel_rfl) (by kernel_rfl) (by kernel_rfl)) ?_
  intro W base args ds p hval0 hA0 hz
  have hval : ∀ (j : Nat) t v, Try.f9.params[j]? = some t → args[j]? = some v → Value.okWide Try.prog W .any base t v := hval0
  have hA : DataW.TrodAll enc Try.prog W 0 (fun _ => true) true Try.f9.params.toList args.toList ds p := hA0
  clear hval0 hA0
  rw [Try.params9] at hA hval
  obtain ⟨v0, vs0, d0, ds0, p0, q0, hargs, rfl, rfl, h0, r0⟩ := trodAll_cons hA
  obtain ⟨rfl, rfl, rfl⟩ := trodAll_nil r0
  obtain rfl : args = #[v0] := by cases args; simp_all
  obtain ⟨cs0, rfl, l0, f0⟩ := open_struct Try.underlying52 (by kernel_rfl) (by kernel_rfl) (by kernel_rfl) (hval 0 52 v0 rfl rfl) h0
  obtain ⟨_, e0_0, s0_0⟩ := f0 0 _ rfl
  obtain ⟨a0_0, rfl, w0_0⟩ := s0_0.str Try.underlying9
  obtain ⟨_, e0_1, s0_1⟩ := f0 1 _ rfl
  obtain ⟨a0_1, rfl, w0_1⟩ := s0_1.int Try.underlying3
  obtain ⟨_, e0_2, s0_2⟩ := f0 2 _ rfl
  obtain ⟨a0_2, rfl, w0_2⟩ := s0_2.int Try.underlying3
  obtain ⟨_, e0_3, s0_3⟩ := f0 3 _ rfl
  obtain ⟨a0_3, rfl, w0_3⟩ := s0_3.int Try.underlying3
  obtain ⟨_, e0_4, s0_4⟩ := f0 4 _ rfl
  obtain ⟨a0_4, rfl, w0_4⟩ := s0_4.int Try.underlying3
  obtain rfl : cs0 = [.string a0_0, .int .i64 a0_1, .int .i64 a0_2, .int .i64 a0_3, .int .i64 a0_4] := by match cs0, l0 with | [_, _, _, _, _], _ => simp_all
  exact FnExactIsStretch_walk a0_0 a0_1 a0_2 a0_3 a0_4 W w0_0

/-- The statement. -/
theorem FnExactIsStretch_holds : Rows.FnExactIsStretchSaid :=
  OpenClaim.holds_of_wide 9 Try.f9 rfl rfl rfl rfl rfl rfl rfl ⟨rfl, rfl, rfl, rfl, rfl⟩ rfl rfl rfl rfl rfl (by kernel_rfl) Try.func9 (by kernel_rfl)
    (of_decide_eq_true (by kernel_rfl)) (by unfold Func.isWrapper; rw [if_neg (of_decide_eq_false (by kernel_rfl))]; exact ⟨rfl, rfl⟩)
    (fun os started H enc _ => FnExactIsStretch_lift os started H enc)
#print axioms FnExactIsStretch_holds
end Go.Proofs.Ythdfhddlebeonaa

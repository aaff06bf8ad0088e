/- The law FnExactLongestHose: its statement, for every input, without a condition: the program's LongestHose returns what the reference's returns, leaves its arguments as they were, and hands back memory of its own. No condition. -/
import Derived.Test.YtilgejanooifoaaLawBase
import Derived.Test.YtilgejanooifoaaLawA
namespace Go.Proofs.Ytilgejanooifoaa
open Go.ChangeShapes Go.WideShapes Go.RowKit
set_option maxRecDepth 100000 in
theorem FnExactLongestHose_lift (os : Os) (started : os.Started) (H : Type) (enc : TypeId × Value → H) :
    ReturnsInHanded {} Try.checked os 8 .any (Rows.fnExactLongestHoseSpec.pre6 enc Try.prog Try.f8 Rows.fnExactLongestHoseRow.domain false) (Rows.fnExactLongestHoseSpec.post enc Try.prog Try.f8 false true false false) := by
  refine law_lift (C := Try.checked) law_own started rfl (by kernel_rfl) Try.func8 rfl (tb := 4) Try.underlying4 law_laidOut (by kernel_rfl) (fun ds h => by
    have h2 : ds.length = 3 := h
    match ds, h2 with | [_, _, _], _ => rfl)
    (ChangeSpec.witness6 (enc := enc) (C := Try.checked) false ⟨#[], #[.int .i64 0, .int .i64 0, .int .i64 0], []⟩ 8 (by kernel_rfl) (by kernel_rfl) (by kernel_rfl) (by kernel_rfl)) ?_
  intro W base args ds p hval0 hA0 hz
  have hval : ∀ (j : Nat) t v, Try.f8.params[j]? = some t → args[j]? = some v → Value.okWide Try.prog W .any base t v := hval0
  have hA : DataW.TrodAll enc Try.prog W 0 (fun _ => true) true Try.f8.params.toList args.toList ds p := hA0
  clear hval0 hA0
  rw [Try.params8] at hA hval
  obtain ⟨v0, vs0, d0, ds0, p0, q0, hargs, rfl, rfl, h0, r0⟩ := trodAll_cons hA
  obtain ⟨v1, vs1, d1, ds1, p1, q1, rfl, rfl, rfl, h1, r1⟩ := trodAll_cons r0
  obtain ⟨v2, vs2, d2, ds2, p2, q2, rfl, rfl, rfl, h2, r2⟩ := trodAll_cons r1
  obtain ⟨rfl, rfl, rfl⟩ := trodAll_nil r2
  obtain rfl : args = #[v0, v1, v2] := by cases args; simp_all
  obtain ⟨a0, rfl, rfl, rfl, w0⟩ := open_int Try.underlying3 (hval 0 3 v0 rfl rfl) h0
  obtain ⟨a1, rfl, rfl, rfl, w1⟩ := open_int Try.underlying3 (hval 1 3 v1 rfl rfl) h1
  obtain ⟨a2, rfl, rfl, rfl, w2⟩ := open_int Try.underlying3 (hval 2 3 v2 rfl rfl) h2
  exact FnExactLongestHose_walk a0 a1 a2 W w0 w1 w2

/-- The statement. -/
theorem FnExactLongestHose_holds : Rows.FnExactLongestHoseSaid :=
  OpenClaim.holds_of_wide 8 Try.f8 rfl rfl rfl rfl rfl rfl rfl ⟨rfl, rfl, rfl, rfl, rfl⟩ rfl rfl rfl rfl rfl (by kernel_rfl) Try.func8 (by kernel_rfl)
    (of_decide_eq_true (by kernel_rfl)) (by unfold Func.isWrapper; rw [if_neg (of_decide_eq_false (by kernel_rfl))]; exact ⟨rfl, rfl⟩)
    (fun os started H enc _ => FnExactLongestHose_lift os started H enc)
#print axioms FnExactLongestHose_holds
end Go.Proofs.Ytilgejanooifoaa

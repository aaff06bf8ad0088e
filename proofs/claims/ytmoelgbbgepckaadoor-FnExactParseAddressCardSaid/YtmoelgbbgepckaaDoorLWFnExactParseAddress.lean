/- The law FnExactParseAddress: what the law's call returns. -/
import Derived.Test.YtmoelgbbgepckaaDoorAdP
namespace Go.Proofs.YtmoelgbbgepckaaDoor
open Go.RowKit
set_option linter.unusedVariables false

set_option maxRecDepth 100000 in
set_option maxHeartbeats 4000000 in
theorem FnExactParseAddress_walk (s : ByteArray) (w : World) (hs : s.size ≤ maxLen) (he : TxtEnv w) :
    Calls Tryd.prog 8 #[.string s] w fun e w' => e = .returned (.bool true) ∧ Below w.heap.size w w' := by
  unfold maxLen at hs
  by_cases hz : s.size ≤ 1048576
  · have Q1 := hide (specParseAddress_any s w hz)
    have Q2 := hide (fun W (hb : Below w.heap.size w W) => implParseAddress_any s W hz (he.below hb))
    rw [ad_eq s] at Q2
    clear he
    have hz' : (s.size : Int) ≤ 1048576 := by omega
    cases ho : adS s with
    | none =>
      rw [ho] at Q1 Q2
      simp only [adT] at Q1 Q2
      clear ho
      go_enter Tryd.func8, Tryd.ntmps8
      go_wp2_with fail
      refine Q1.out.mono ?_
      rintro e w1 ⟨rfl, hq⟩
      have HB1 := hide hq
      clear hq
      go_wp2_with fail
      refine (Q2.out _ HB1.out).mono ?_
      rintro e w2 ⟨rfl, hq⟩
      have HB2 := hide (below_step HB1.out hq)
      clear hq
      go_wp2
      go_ret
      exact ⟨rfl, HB2.out⟩
    | some x =>
      obtain ⟨a, v⟩ := x
      rw [ho] at Q1 Q2
      simp only [adT] at Q1 Q2
      clear ho
      go_enter Tryd.func8, Tryd.ntmps8
      go_wp2_with fail
      refine Q1.out.mono ?_
      rintro e w1 ⟨rfl, hq⟩
      have HB1 := hide hq
      clear hq
      go_wp2_with fail
      refine (Q2.out _ HB1.out).mono ?_
      rintro e w2 ⟨rfl, hq⟩
      have HB2 := hide (below_step HB1.out hq)
      clear hq
      go_wp2
      go_ret
      exact ⟨rfl, HB2.out⟩
  · have hz' : (1048576 : Int) < (s.size : Int) := by omega
    clear he
    go_enter Tryd.func8, Tryd.ntmps8
    go_wp2
    go_ret
    exact ⟨rfl, Below.refl _ _⟩
end Go.Proofs.YtmoelgbbgepckaaDoor

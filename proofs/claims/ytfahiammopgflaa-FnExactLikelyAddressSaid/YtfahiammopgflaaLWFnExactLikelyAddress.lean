/- The law FnExactLikelyAddress: what the law's call returns. -/
import Derived.Test.YtfahiammopgflaaSimJ
import Derived.Test.YtfahiammopgflaaConvStretch
import Derived.Test.YtfahiammopgflaaLawE0
namespace Go.Proofs.Ytfahiammopgflaa
open Go.RowKit
set_option linter.unusedVariables false

set_option maxHeartbeats 2000000 in
theorem FnExactLikelyAddress_walk (A : Option Addr) (n c : Nat) (hs : List (ByteArray × Int × Int × Int × Int)) (s : ByteArray) (h : Int) (w : World) (hn : n = hs.length) (hnc : n ≤ c) (hc : c ≤ maxLen) (hr : Rd w A (hs.flatMap scells)) (hq : ∀ x ∈ hs, x.1.size ≤ maxLen) (hz : s.size ≤ maxLen) (_ : (Lit.int .i64 h).wf = true) :
    Calls Try.prog 4 #[.slice A n c, .string s, .int .i64 h] w fun e w' => e = .returned (.bool true) ∧ Below w.heap.size w w' := by
  have Hn := hide hn
  have HR := hide hr
  have HQ := hide hq
  clear hn hr hq
  go_enter Try.func4, Try.ntmps4
  go_wp2_with fail
  · go_ret
    exact ⟨rfl, (by repeat (first | exact Below.refl _ _ | refine below_step ?_ (by assumption) | refine below_step ?_ (Later.below _) | refine below_alloc ?_ _ | refine Below.drew ?_ | refine Below.setCell ?_ (by first | (simp; done) | (simp; omega)) _))⟩
  go_wp2_with fail
  refine (szStretchS_any A n c _ hs _ Hn.out (by omega) HQ.out HR.out (by omega) (by omega)).mono ?_
  rintro e w0 ⟨⟨u, rfl, hu0, hu1, hu2⟩, hb0⟩
  have HU := hide hu2
  clear hu2
  by_cases hneg : u < 0
  · go_wp2
    go_ret
    exact ⟨rfl, hb0⟩
  · have hm : n ≤ 1048576 := HU.out (by omega)
    go_wp2_with fail
    refine (toStretchS_any A n c hs _ Hn.out hm (HR.out.below hb0)).mono ?_
    rintro e w1 ⟨rfl, hr1, hb1⟩
    have HR1 := hide hr1.rd
    have HW1 := hide (below_step hb0 hb1)
    clear hr1
    go_wp2_with fail
    refine (specLikelyAddress_any _ n n hs s h _ Hn.out hm HQ.out HR1.out (by assumption)).mono ?_
    rintro e w2 ⟨rfl, hb2⟩
    have HW2 := hide (below_step HW1.out hb2)
    go_wp2_with fail
    refine (toStretchS_any A n c hs _ Hn.out hm (HR.out.below HW2.out)).mono ?_
    rintro e w3 ⟨rfl, hr3, hb3⟩
    have HR3 := hide hr3.rd
    clear hr3
    go_wp2_with fail
    refine (implLikelyAddress_any _ n n hs s h _ Hn.out hm HQ.out HR3.out (by assumption)).mono ?_
    rintro e w4 ⟨rfl, hb4⟩
    have HW4 := hide (below_step (below_step HW2.out hb3) hb4)
    go_wp2_with fail
    refine (toStretchS_any A n c hs _ Hn.out hm (HR.out.below HW4.out)).mono ?_
    rintro e w5 ⟨rfl, hr5, hb5⟩
    have HR5 := hide hr5.rd
    have HR35 := hide ((HR3.out.below hb4).below hb5)
    clear hr5
    go_wp2_with fail
    refine (eqStretchS_same _ _ n n n hs _ Hn.out hm HR35.out HR5.out).mono ?_
    rintro e w6 ⟨rfl, hb6⟩
    have HW6 := below_step (below_step HW4.out hb5) hb6
    go_wp2
    go_ret
    exact ⟨rfl, HW6⟩
end Go.Proofs.Ytfahiammopgflaa

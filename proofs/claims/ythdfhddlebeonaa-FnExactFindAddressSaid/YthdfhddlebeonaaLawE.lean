/- Laws over stretches: what the law's call returns. -/
import Derived.Test.YthdfhddlebeonaaStrF
import Derived.Test.YthdfhddlebeonaaConvStretch
import Derived.Test.YthdfhddlebeonaaLawE0
namespace Go.Proofs.Ythdfhddlebeonaa
open Go.RowKit
set_option linter.unusedVariables false

set_option maxHeartbeats 4000000 in
theorem FnExactIsStretch_walk (s : ByteArray) (x1 x2 x3 x4 : Int) (w : World) (hs : s.size ≤ maxLen) :
    Calls Try.prog 9 #[.agg #[.string s, .int .i64 x1, .int .i64 x2, .int .i64 x3, .int .i64 x4]] w fun e w' => e = .returned (.bool true) ∧ Below w.heap.size w w' := by
  go_enter Try.func9, Try.ntmps9
  go_wp2_with fail
  refine (szStretch_any s x1 x2 x3 x4 _ _ hs (by omega) (by omega)).mono ?_
  rintro e w1 ⟨⟨u, rfl, hu0, hu1, hu2⟩, hb1⟩
  obtain ⟨n1, rfl⟩ := later_of hb1
  clear hu2 hb1
  by_cases hneg : u < 0
  · go_wp2
    go_ret
    exact ⟨rfl, (by repeat (first | exact Below.refl _ _ | refine below_step ?_ (by assumption) | refine below_step ?_ (Later.below _) | refine below_alloc ?_ _ | refine Below.drew ?_ | refine Below.setCell ?_ (by first | (simp; done) | (simp; omega)) _))⟩
  · go_wp2_with (first | (go_at_call 38; ((with_reducible refine (toStretch_any _ _ _ _ _ _).mono ?_); rintro e w1 ⟨rfl, hb1⟩); (first | (obtain ⟨n1, rfl⟩ := later_up n1 hb1) | (obtain ⟨n1, rfl⟩ := later_of hb1)); clear hb1) | (go_at_call 37; ((with_reducible refine (specIsStretch_any _ _ _ _ _ _ hs).mono ?_); rintro e w1 ⟨rfl, hb1⟩); (first | (obtain ⟨n1, rfl⟩ := later_up n1 hb1) | (obtain ⟨n1, rfl⟩ := later_of hb1)); clear hb1) | (go_at_call 39; ((with_reducible refine (implIsStretch_any _ _ _ _ _ _ hs).mono ?_); rintro e w1 ⟨rfl, hb1⟩); (first | (obtain ⟨n1, rfl⟩ := later_up n1 hb1) | (obtain ⟨n1, rfl⟩ := later_of hb1)); clear hb1))
    go_ret
    exact ⟨rfl, (by repeat (first | exact Below.refl _ _ | refine below_step ?_ (by assumption) | refine below_step ?_ (Later.below _) | refine below_alloc ?_ _ | refine Below.drew ?_ | refine Below.setCell ?_ (by first | (simp; done) | (simp; omega)) _))⟩

set_option maxHeartbeats 2000000 in
theorem FnExactAreStretches_walk (A : Option Addr) (n c : Nat) (hs : List (ByteArray × Int × Int × Int × Int))  (w : World) (hn : n = hs.length) (hnc : n ≤ c) (hc : c ≤ maxLen) (hr : Rd w A (hs.flatMap scells)) (hq : ∀ x ∈ hs, x.1.size ≤ maxLen)  :
    Calls Try.prog 10 #[.slice A n c] w fun e w' => e = .returned (.bool true) ∧ Below w.heap.size w w' := by
  have Hn := hide hn
  have HR := hide hr
  have HQ := hide hq
  clear hn hr hq
  go_enter Try.func10, Try.ntmps10
  go_wp2_with fail
  refine (szStretchS_any A n c _ hs _ Hn.out (by omega) HQ.out HR.out (by omega) (by omega)).mono ?_
  rintro e w0 ⟨⟨u, rfl, hu0, hu1, hu2⟩, hb0⟩
  have HU := hide hu2
  clear hu2
  by_cases hneg : u < 0
  · go_wp2
    go_ret
    exact ⟨rfl, hb0⟩
  · have hm : n ≤ 1048576 := HU.out (by omega)
    go_wp2_with fail
    refine (toStretchS_any A n c hs _ Hn.out hm (HR.out.below hb0)).mono ?_
    rintro e w1 ⟨rfl, hr1, hb1⟩
    have HR1 := hide hr1.rd
    have HW1 := hide (below_step hb0 hb1)
    clear hr1
    go_wp2_with fail
    refine (specAreStretches_any _ n n hs  _ Hn.out hm HQ.out HR1.out ).mono ?_
    rintro e w2 ⟨rfl, hb2⟩
    have HW2 := hide (below_step HW1.out hb2)
    go_wp2_with fail
    refine (toStretchS_any A n c hs _ Hn.out hm (HR.out.below HW2.out)).mono ?_
    rintro e w3 ⟨rfl, hr3, hb3⟩
    have HR3 := hide hr3.rd
    clear hr3
    go_wp2_with fail
    refine (implAreStretches_any _ n n hs  _ Hn.out hm HQ.out HR3.out ).mono ?_
    rintro e w4 ⟨rfl, hb4⟩
    have HW4 := hide (below_step (below_step HW2.out hb3) hb4)
    go_wp2_with fail
    refine (toStretchS_any A n c hs _ Hn.out hm (HR.out.below HW4.out)).mono ?_
    rintro e w5 ⟨rfl, hr5, hb5⟩
    have HR5 := hide hr5.rd
    have HR35 := hide ((HR3.out.below hb4).below hb5)
    clear hr5
    go_wp2_with fail
    refine (eqStretchS_same _ _ n n n hs _ Hn.out hm HR35.out HR5.out).mono ?_
    rintro e w6 ⟨rfl, hb6⟩
    have HW6 := below_step (below_step HW4.out hb5) hb6
    go_wp2
    go_ret
    exact ⟨rfl, HW6⟩
set_option maxHeartbeats 2000000 in
theorem FnExactHousesOf_walk (A : Option Addr) (n c : Nat) (hs : List (ByteArray × Int × Int × Int × Int)) (s : ByteArray) (w : World) (hn : n = hs.length) (hnc : n ≤ c) (hc : c ≤ maxLen) (hr : Rd w A (hs.flatMap scells)) (hq : ∀ x ∈ hs, x.1.size ≤ maxLen) (hz : s.size ≤ maxLen) :
    Calls Try.prog 11 #[.slice A n c, .string s] w fun e w' => e = .returned (.bool true) ∧ Below w.heap.size w w' := by
  have Hn := hide hn
  have HR := hide hr
  have HQ := hide hq
  clear hn hr hq
  go_enter Try.func11, Try.ntmps11
  go_wp2_with fail
  · go_ret
    exact ⟨rfl, (by repeat (first | exact Below.refl _ _ | refine below_step ?_ (by assumption) | refine below_step ?_ (Later.below _) | refine below_alloc ?_ _ | refine Below.drew ?_ | refine Below.setCell ?_ (by first | (simp; done) | (simp; omega)) _))⟩
  go_wp2_with fail
  refine (szStretchS_any A n c _ hs _ Hn.out (by omega) HQ.out HR.out (by omega) (by omega)).mono ?_
  rintro e w0 ⟨⟨u, rfl, hu0, hu1, hu2⟩, hb0⟩
  have HU := hide hu2
  clear hu2
  by_cases hneg : u < 0
  · go_wp2
    go_ret
    exact ⟨rfl, hb0⟩
  · have hm : n ≤ 1048576 := HU.out (by omega)
    go_wp2_with fail
    refine (toStretchS_any A n c hs _ Hn.out hm (HR.out.below hb0)).mono ?_
    rintro e w1 ⟨rfl, hr1, hb1⟩
    have HR1 := hide hr1.rd
    have HW1 := hide (below_step hb0 hb1)
    clear hr1
    go_wp2_with fail
    refine (specHousesOf_any _ n n hs s _ Hn.out hm HQ.out HR1.out (by assumption)).mono ?_
    rintro e w2 ⟨rfl, hb2⟩
    have HW2 := hide (below_step HW1.out hb2)
    go_wp2_with fail
    refine (toStretchS_any A n c hs _ Hn.out hm (HR.out.below HW2.out)).mono ?_
    rintro e w3 ⟨rfl, hr3, hb3⟩
    have HR3 := hide hr3.rd
    clear hr3
    go_wp2_with fail
    refine (implHousesOf_any _ n n hs s _ Hn.out hm HQ.out HR3.out (by assumption)).mono ?_
    rintro e w4 ⟨rfl, hb4⟩
    have HW4 := hide (below_step (below_step HW2.out hb3) hb4)
    go_wp2_with fail
    refine (toStretchS_any A n c hs _ Hn.out hm (HR.out.below HW4.out)).mono ?_
    rintro e w5 ⟨rfl, hr5, hb5⟩
    have HR5 := hide hr5.rd
    have HR35 := hide ((HR3.out.below hb4).below hb5)
    clear hr5
    go_wp2_with fail
    refine (eqStretchS_same _ _ n n n hs _ Hn.out hm HR35.out HR5.out).mono ?_
    rintro e w6 ⟨rfl, hb6⟩
    have HW6 := below_step (below_step HW4.out hb5) hb6
    go_wp2
    go_ret
    exact ⟨rfl, HW6⟩
set_option maxHeartbeats 2000000 in
theorem FnExactHighestRisk_walk (A : Option Addr) (n c : Nat) (hs : List (ByteArray × Int × Int × Int × Int)) (nd : Int) (w : World) (hn : n = hs.length) (hnc : n ≤ c) (hc : c ≤ maxLen) (hr : Rd w A (hs.flatMap scells)) (hq : ∀ x ∈ hs, x.1.size ≤ maxLen) (_ : (Lit.int .i64 nd).wf = true) :
    Calls Try.prog 12 #[.slice A n c, .int .i64 nd] w fun e w' => e = .returned (.bool true) ∧ Below w.heap.size w w' := by
  have Hn := hide hn
  have HR := hide hr
  have HQ := hide hq
  clear hn hr hq
  go_enter Try.func12, Try.ntmps12
  go_wp2_with fail
  refine (szStretchS_any A n c _ hs _ Hn.out (by omega) HQ.out HR.out (by omega) (by omega)).mono ?_
  rintro e w0 ⟨⟨u, rfl, hu0, hu1, hu2⟩, hb0⟩
  have HU := hide hu2
  clear hu2
  by_cases hneg : u < 0
  · go_wp2
    go_ret
    exact ⟨rfl, hb0⟩
  · have hm : n ≤ 1048576 := HU.out (by omega)
    go_wp2_with fail
    refine (toStretchS_any A n c hs _ Hn.out hm (HR.out.below hb0)).mono ?_
    rintro e w1 ⟨rfl, hr1, hb1⟩
    have HR1 := hide hr1.rd
    have HW1 := hide (below_step hb0 hb1)
    clear hr1
    go_wp2_with fail
    refine (specHighestRisk_any _ n n hs nd _ Hn.out hm HQ.out HR1.out ).mono ?_
    rintro e w2 ⟨rfl, hb2⟩
    have HW2 := hide (below_step HW1.out hb2)
    go_wp2_with fail
    refine (toStretchS_any A n c hs _ Hn.out hm (HR.out.below HW2.out)).mono ?_
    rintro e w3 ⟨rfl, hr3, hb3⟩
    have HR3 := hide hr3.rd
    clear hr3
    go_wp2_with fail
    refine (implHighestRisk_any _ n n hs nd _ Hn.out hm HQ.out HR3.out ).mono ?_
    rintro e w4 ⟨rfl, hb4⟩
    have HW4 := hide (below_step (below_step HW2.out hb3) hb4)
    go_wp2_with fail
    refine (toStretchS_any A n c hs _ Hn.out hm (HR.out.below HW4.out)).mono ?_
    rintro e w5 ⟨rfl, hr5, hb5⟩
    have HR5 := hide hr5.rd
    have HR35 := hide ((HR3.out.below hb4).below hb5)
    clear hr5
    go_wp2_with fail
    refine (eqStretchS_same _ _ n n n hs _ Hn.out hm HR35.out HR5.out).mono ?_
    rintro e w6 ⟨rfl, hb6⟩
    have HW6 := below_step (below_step HW4.out hb5) hb6
    go_wp2
    go_ret
    exact ⟨rfl, HW6⟩
set_option maxHeartbeats 2000000 in
theorem FnExactFindAddress_walk (A : Option Addr) (n c : Nat) (hs : List (ByteArray × Int × Int × Int × Int)) (s : ByteArray) (h : Int) (w : World) (hn : n = hs.length) (hnc : n ≤ c) (hc : c ≤ maxLen) (hr : Rd w A (hs.flatMap scells)) (hq : ∀ x ∈ hs, x.1.size ≤ maxLen) (hz : s.size ≤ maxLen) (_ : (Lit.int .i64 h).wf = true) :
    Calls Try.prog 13 #[.slice A n c, .string s, .int .i64 h] w fun e w' => e = .returned (.bool true) ∧ Below w.heap.size w w' := by
  have Hn := hide hn
  have HR := hide hr
  have HQ := hide hq
  clear hn hr hq
  go_enter Try.func13, Try.ntmps13
  go_wp2_with fail
  · go_ret
    exact ⟨rfl, (by repeat (first | exact Below.refl _ _ | refine below_step ?_ (by assumption) | refine below_step ?_ (Later.below _) | refine below_alloc ?_ _ | refine Below.drew ?_ | refine Below.setCell ?_ (by first | (simp; done) | (simp; omega)) _))⟩
  go_wp2_with fail
  refine (szStretchS_any A n c _ hs _ Hn.out (by omega) HQ.out HR.out (by omega) (by omega)).mono ?_
  rintro e w0 ⟨⟨u, rfl, hu0, hu1, hu2⟩, hb0⟩
  have HU := hide hu2
  clear hu2
  by_cases hneg : u < 0
  · go_wp2
    go_ret
    exact ⟨rfl, hb0⟩
  · have hm : n ≤ 1048576 := HU.out (by omega)
    go_wp2_with fail
    refine (toStretchS_any A n c hs _ Hn.out hm (HR.out.below hb0)).mono ?_
    rintro e w1 ⟨rfl, hr1, hb1⟩
    have HR1 := hide hr1.rd
    have HW1 := hide (below_step hb0 hb1)
    clear hr1
    go_wp2_with fail
    refine (specFindAddress_any _ n n hs s h _ Hn.out hm HQ.out HR1.out (by assumption)).mono ?_
    rintro e w2 ⟨rfl, hb2⟩
    have HW2 := hide (below_step HW1.out hb2)
    go_wp2_with fail
    refine (toStretchS_any A n c hs _ Hn.out hm (HR.out.below HW2.out)).mono ?_
    rintro e w3 ⟨rfl, hr3, hb3⟩
    have HR3 := hide hr3.rd
    clear hr3
    go_wp2_with fail
    refine (implFindAddress_any _ n n hs s h _ Hn.out hm HQ.out HR3.out (by assumption)).mono ?_
    rintro e w4 ⟨rfl, hb4⟩
    have HW4 := hide (below_step (below_step HW2.out hb3) hb4)
    go_wp2_with fail
    refine (toStretchS_any A n c hs _ Hn.out hm (HR.out.below HW4.out)).mono ?_
    rintro e w5 ⟨rfl, hr5, hb5⟩
    have HR5 := hide hr5.rd
    have HR35 := hide ((HR3.out.below hb4).below hb5)
    clear hr5
    go_wp2_with fail
    refine (eqStretchS_same _ _ n n n hs _ Hn.out hm HR35.out HR5.out).mono ?_
    rintro e w6 ⟨rfl, hb6⟩
    have HW6 := below_step (below_step HW4.out hb5) hb6
    go_wp2
    go_ret
    exact ⟨rfl, HW6⟩
end Go.Proofs.Ythdfhddlebeonaa

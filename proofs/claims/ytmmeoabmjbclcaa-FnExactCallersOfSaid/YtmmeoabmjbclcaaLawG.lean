/- The law over callers: what the law's call returns. -/
import Derived.Test.YtmmeoabmjbclcaaCallH
import Derived.Test.YtmmeoabmjbclcaaConvCall
import Derived.Test.YtmmeoabmjbclcaaLawC
namespace Go.Proofs.Ytmmeoabmjbclcaa
open Go.RowKit
set_option linter.unusedVariables false

set_option maxHeartbeats 4000000 in
theorem FnExactCallersOf_walk (A : Option Addr) (n c : Nat) (hs : List (Int × Int × Int × Int × Int)) (A' : Option Addr) (m c' : Nat) (idx : List Int) (w : World) (hn : n = hs.length) (hnc : n ≤ c) (hc : c ≤ maxLen) (hr : Rd w A (hs.flatMap ccells)) (hn' : m = idx.length) (hnc' : m ≤ c') (hc' : c' ≤ maxLen) (hr' : Rd w A' (idx.map (Value.int .i64))) (_ : ∀ x ∈ idx, (Lit.int .i64 x).wf = true) :
    Calls Try.prog 3 #[.slice A n c, .slice A' m c'] w fun e w' => e = .returned (.bool true) ∧ Below w.heap.size w w' := by
  have Hn := hide hn
  have HR := hide hr
  have Hn' := hide hn'
  have HR' := hide hr'
  have hml : m ≤ maxLen := Nat.le_trans hnc' hc'
  unfold maxLen at hml
  clear hn hr hn' hr' hnc' hc'
  by_cases hm' : 1048576 < m
  · go_enter Try.func3, Try.ntmps3
    go_wp2
    go_ret
    exact ⟨rfl, Below.refl _ _⟩
  have hm2 : m ≤ 1048576 := by omega
  by_cases hm : n ≤ 1048576
  · have sz := fun w => szCallS_any A n c 1048576 w (by omega) (by omega) (by omega)
    rw [szCall_pos hm] at sz
    clear hnc hc
    go_enter Try.func3, Try.ntmps3
    go_wp2_with (go_at_call 5; ((with_reducible refine (sz _).mono ?_); rintro e w' ⟨rfl, rfl⟩))
    refine (toCallS_any A n c hs _ Hn.out hm HR.out).mono ?_
    rintro e w1 ⟨rfl, hr1, hb1⟩
    have HR1 := hide hr1.rd
    have HW1 := hide hb1
    clear hr1
    go_wp2_with fail
    refine (toIntS_any A' m c' idx _ Hn'.out hm2 (HR'.out.below HW1.out)).mono ?_
    rintro e w2 ⟨rfl, hr2, hb2⟩
    have HS2 := hide hr2.rd
    have HR2 := hide (HR1.out.below hb2)
    have HW2 := hide (below_step HW1.out hb2)
    clear hr2
    go_wp2_with fail
    refine (specCallersOf_any _ n n hs _ m m idx _ Hn.out Hn'.out hm2 hm HR2.out HS2.out).mono ?_
    rintro e w3 ⟨rfl, hb3⟩
    have HW3 := hide (below_step HW2.out hb3)
    go_wp2_with fail
    refine (toCallS_any A n c hs _ Hn.out hm (HR.out.below HW3.out)).mono ?_
    rintro e w4 ⟨rfl, hr4, hb4⟩
    have HC4 := hide hr4.rd
    have HW4 := hide (below_step HW3.out hb4)
    clear hr4
    go_wp2_with fail
    refine (toIntS_any A' m c' idx _ Hn'.out hm2 (HR'.out.below HW4.out)).mono ?_
    rintro e w5 ⟨rfl, hr5, hb5⟩
    have HI5 := hide hr5.rd
    have HC5 := hide (HC4.out.below hb5)
    have HW5 := hide (below_step HW4.out hb5)
    clear hr5
    go_wp2_with fail
    refine (implCallersOf_any _ n n hs _ m m idx _ Hn.out Hn'.out hm2 hm HC5.out HI5.out).mono ?_
    rintro e w6 ⟨rfl, hb6⟩
    have HI6 := hide (HI5.out.below hb6)
    have HC6 := hide (HC5.out.below hb6)
    have HW6 := hide (below_step HW5.out hb6)
    go_wp2_with fail
    refine (toCallS_any A n c hs _ Hn.out hm (HR.out.below HW6.out)).mono ?_
    rintro e w7 ⟨rfl, hr7, hb7⟩
    have HD7 := hide hr7.rd
    have HI7 := hide (HI6.out.below hb7)
    have HC7 := hide (HC6.out.below hb7)
    have HW7 := hide (below_step HW6.out hb7)
    clear hr7
    go_wp2_with fail
    refine (eqCallS_same _ _ n n n hs _ Hn.out hm HC7.out HD7.out).mono ?_
    rintro e w8 ⟨rfl, hb8⟩
    have HI8 := hide (HI7.out.below hb8)
    have HW8 := hide (below_step HW7.out hb8)
    go_wp2_with fail
    refine (toIntS_any A' m c' idx _ Hn'.out hm2 (HR'.out.below HW8.out)).mono ?_
    rintro e w9 ⟨rfl, hr9, hb9⟩
    have HD9 := hide hr9.rd
    have HI9 := hide (HI8.out.below hb9)
    have HW9 := hide (below_step HW8.out hb9)
    clear hr9
    go_wp2_with fail
    refine (eqIntS_same _ _ m m m idx _ Hn'.out hm2 HI9.out HD9.out).mono ?_
    rintro e w10 ⟨rfl, hb10⟩
    have HW10 := below_step HW9.out hb10
    go_wp2
    go_ret
    exact ⟨rfl, HW10⟩
  · have sz := fun w => szCallS_any A n c 1048576 w (by omega) (by omega) (by omega)
    rw [szCall_neg (by omega)] at sz
    clear hnc hc
    go_enter Try.func3, Try.ntmps3
    go_wp2_with (go_at_call 5; ((with_reducible refine (sz _).mono ?_); rintro e w' ⟨rfl, rfl⟩))
    go_ret
    exact ⟨rfl, Below.refl _ _⟩
end Go.Proofs.Ytmmeoabmjbclcaa

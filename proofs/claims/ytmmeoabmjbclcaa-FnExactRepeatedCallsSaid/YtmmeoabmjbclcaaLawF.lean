/- The law over repeated calls: what the law's call returns. -/
import Derived.Test.YtmmeoabmjbclcaaCallS
import Derived.Test.YtmmeoabmjbclcaaConvCall
import Derived.Test.YtmmeoabmjbclcaaMarkCall
import Derived.Test.YtmmeoabmjbclcaaLawC
namespace Go.Proofs.Ytmmeoabmjbclcaa
open Go.RowKit
set_option linter.unusedVariables false

set_option maxHeartbeats 4000000 in
theorem FnExactRepeatedCalls_walk (A : Option Addr) (n c : Nat) (hs : List (Int × Int × Int × Int × Int)) (t : Int) (w : World) (hn : n = hs.length) (hnc : n ≤ c) (hc : c ≤ maxLen) (hr : Rd w A (hs.flatMap ccells)) (_ : (Lit.int .i64 t).wf = true) :
    Calls Try.prog 4 #[.slice A n c, .int .i64 t] w fun e w' => e = .returned (.bool true) ∧ Below w.heap.size w w' := by
  have Hn := hide hn
  have HR := hide hr
  clear hn hr
  by_cases hm : n ≤ 1048576
  · have sz := fun w => szCallS_any A n c 1048576 w (by omega) (by omega) (by omega)
    rw [szCall_pos hm] at sz
    clear hnc hc
    have hrl : (repL hs t).length ≤ 1048576 := Nat.le_trans (repL_length hs t) (by have := Hn.out; omega)
    have HRL := hide hrl
    clear hrl
    go_enter Try.func4, Try.ntmps4
    go_wp2_with (go_at_call 5; ((with_reducible refine (sz _).mono ?_); rintro e w' ⟨rfl, rfl⟩))
    refine (toCallS_any A n c hs _ Hn.out hm HR.out).mono ?_
    rintro e w1 ⟨rfl, hr1, hb1⟩
    have HR1 := hide hr1.rd
    have HW1 := hide hb1
    clear hr1
    go_wp2_with fail
    refine (specRepeatedCalls_any _ n n hs t _ Hn.out hm (Nat.le_refl _) HR1.out).mono ?_
    rintro e w2 ⟨⟨v1, rfl, ho1⟩, hb2⟩
    have HW2 := hide (below_step HW1.out hb2)
    have HO1 := hide ho1
    clear ho1
    go_wp2_with fail
    refine (toCallS_any A n c hs _ Hn.out hm (HR.out.below HW2.out)).mono ?_
    rintro e w3 ⟨rfl, hr3, hb3⟩
    have HC3 := hide hr3
    have HW3 := hide (below_step HW2.out hb3)
    have HO13 := hide (own_below HO1.out hb3)
    clear hr3
    go_wp2_with fail
    refine (implRepeatedCalls_any _ n n hs t _ Hn.out hm (Nat.le_refl _) HC3.out.rd).mono ?_
    rintro e w4 ⟨⟨v2, rfl, ho2⟩, hb4⟩
    have HW4 := hide (below_step HW3.out hb4)
    have HO14 := hide (own_below HO13.out hb4)
    have HC4 := hide (HC3.out.below hb4)
    have HO24 := hide ho2
    clear ho2
    obtain ⟨A1, k1, hv1, hrd1, -, -, -, hblk1⟩ := own_open HO1.out
    obtain ⟨A2, k2, hv2, hrd2, -, -, -, hblk2⟩ := own_open HO24.out
    subst hv1
    subst hv2
    have hlt1 := fun k hk => (HO1.out.lt k hk).2
    have HL1 := hide hlt1
    have hg3 : w2.heap.size < w3.heap.size := HC3.out.1
    have HG3 := hide hg3
    clear hrd1 hrd2 hblk1 hblk2 hlt1 hg3
    go_wp2_with fail
    refine (eqIntS_same A2 A1 _ k2 k1 (repL hs t) _ rfl HRL.out (own_rd HO24.out) (own_rd HO14.out)).mono ?_
    rintro e w5 ⟨rfl, hb5⟩
    have HW5 := hide (below_step HW4.out hb5)
    have HO15 := hide (own_below HO14.out hb5)
    have HO25 := hide (own_below HO24.out hb5)
    have HC5 := hide (HC4.out.below hb5)
    go_wp2_with fail
    refine (toCallS_any A n c hs _ Hn.out hm (HR.out.below HW5.out)).mono ?_
    rintro e w6 ⟨rfl, hr6, hb6⟩
    have HC6 := hide (HC5.out.below hb6)
    have HD6 := hide hr6.rd
    have HO16 := hide (own_below HO15.out hb6)
    have HO26 := hide (own_below HO25.out hb6)
    have HW6 := hide (below_step HW5.out hb6)
    clear hr6
    go_wp2_with fail
    refine (eqCallS_same _ _ n n n hs _ Hn.out hm HC6.out.rd HD6.out).mono ?_
    rintro e w7 ⟨rfl, hb7⟩
    have HC7 := hide (HC6.out.below hb7)
    have HO17 := hide (own_below HO16.out hb7)
    have HO27 := hide (own_below HO26.out hb7)
    have HW7 := hide (below_step HW6.out hb7)
    go_wp2_with fail
    refine (markCallS_any w2.heap.size n n _ 1 _ HC7.out (by rw [flat_length ccells 5 (fun _ => rfl)]; have := Hn.out; omega) hm (by omega) (by omega)).mono ?_
    rintro e w8 ⟨rfl, -, hg8⟩
    have HO18 := hide (own_near HO17.out HL1.out hg8 (fun k hk => by injection hk with hk; omega))
    have HO28 := hide (own_far HO27.out hg8 HG3.out)
    have HW8 := hide (HW7.out.grown hg8 HW7.out.size (fun k hk => by injection hk with hk; have := HW2.out.size; omega))
    clear hg8
    go_wp2_with fail
    refine (eqIntS_same A2 A1 _ k2 k1 (repL hs t) _ rfl HRL.out (own_rd HO28.out) (own_rd HO18.out)).mono ?_
    rintro e w9 ⟨rfl, hb9⟩
    have HW9 := hide (below_step HW8.out hb9)
    have HO19 := hide (own_below HO18.out hb9)
    have HO29 := hide (own_below HO28.out hb9)
    go_wp2_with fail
    refine (markIntS_any _ _ _ _ 1 _ HO29.out HRL.out (by omega) (by omega)).mono ?_
    rintro e w10 ⟨rfl, ho10, hg10⟩
    have HO2A := hide ho10
    have HO1A := hide (own_near HO19.out HL1.out hg10 (fun k hk => Nat.le_trans (Nat.le_of_lt HG3.out) (HO29.out.lt k hk).1))
    have HWA := hide (HW9.out.grown hg10 HW9.out.size (fun k hk => Nat.le_trans HW3.out.size (HO29.out.lt k hk).1))
    clear ho10 hg10
    go_wp2_with fail
    refine (heldIntS_any A2 _ k2 1 _ (own_rd HO2A.out) HRL.out (by omega) (by omega)).mono ?_
    rintro e w10' ⟨rfl, rfl⟩
    go_wp2_with fail
    refine (toCallS_any A n c hs _ Hn.out hm (HR.out.below HWA.out)).mono ?_
    rintro e w11 ⟨rfl, hr11, hb11⟩
    have HD11 := hide hr11.rd
    have HO1B := hide (own_below HO1A.out hb11)
    have HO2B := hide (own_below HO2A.out hb11)
    have HWB := hide (below_step HWA.out hb11)
    clear hr11
    go_wp2_with fail
    refine (implRepeatedCalls_any _ n n hs t _ Hn.out hm (Nat.le_refl _) HD11.out).mono ?_
    rintro e w12 ⟨⟨v3, rfl, ho3⟩, hb12⟩
    have HWC := hide (below_step HWB.out hb12)
    have HO1C := hide (own_below HO1B.out hb12)
    have HO2C := hide (own_below HO2B.out hb12)
    obtain ⟨A3, k3, rfl, hrd3, -, -, -, -⟩ := own_open ho3
    have HR3 := hide hrd3
    clear ho3 hrd3
    go_wp2_with fail
    refine (eqIntS_same A3 A1 _ k3 k1 (repL hs t) _ rfl HRL.out HR3.out (own_rd HO1C.out)).mono ?_
    rintro e w13 ⟨rfl, hb13⟩
    have HWD := hide (below_step HWC.out hb13)
    have HO2D := hide (own_below HO2C.out hb13)
    go_wp2_with fail
    refine (heldIntS_any A2 _ k2 1 _ (own_rd HO2D.out) HRL.out (by omega) (by omega)).mono ?_
    rintro e w14 ⟨rfl, rfl⟩
    go_wp2
    go_ret
    exact ⟨rfl, HWD.out⟩
  · have sz := fun w => szCallS_any A n c 1048576 w (by omega) (by omega) (by omega)
    rw [szCall_neg (by omega)] at sz
    clear hnc hc
    go_enter Try.func4, Try.ntmps4
    go_wp2_with (go_at_call 5; ((with_reducible refine (sz _).mono ?_); rintro e w' ⟨rfl, rfl⟩))
    go_ret
    exact ⟨rfl, Below.refl _ _⟩
end Go.Proofs.Ytmmeoabmjbclcaa

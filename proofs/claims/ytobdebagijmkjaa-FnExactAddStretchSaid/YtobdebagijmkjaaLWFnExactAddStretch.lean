/- The law FnExactAddStretch: what the law's call returns. -/
import Derived.Test.YtobdebagijmkjaaAsA
import Derived.Test.YtobdebagijmkjaaRegionsE
import Derived.Test.YtobdebagijmkjaaRowStretch
import Derived.Test.YtobdebagijmkjaaMarkStretch
import Derived.Test.YtobdebagijmkjaaConvStretch
import Derived.Test.YtobdebagijmkjaaLawE0
namespace Go.Proofs.Ytobdebagijmkjaa
open Go.RowKit
set_option linter.unusedVariables false

theorem asO_length (l : List StrT) (s : StrT) : ((asO l s).getD []).length ≤ 30 := by
  unfold asO
  split
  · split
    · rename_i h
      exact strsB_le h
    · simp
  · simp

set_option maxHeartbeats 8000000 in
theorem FnExactAddStretch_walk (A : Option Addr) (n c : Nat) (hs : List (ByteArray × Int × Int × Int × Int)) (s0 : ByteArray) (s1 s2 s3 s4 : Int) (w : World) (hn : n = hs.length) (hnc : n ≤ c) (hc : c ≤ maxLen) (hr : Rd w A (hs.flatMap scells)) (hq : ∀ x ∈ hs, x.1.size ≤ maxLen) (hz : s0.size ≤ maxLen) :
    Calls Try.prog 4 #[.slice A n c, .agg #[.string s0, .int .i64 s1, .int .i64 s2, .int .i64 s3, .int .i64 s4]] w fun e w' => e = .returned (.bool true) ∧ Below w.heap.size w w' := by
  have Hn := hide hn
  have HR := hide hr
  have HQ := hide hq
  have HZ := hide hz
  have HSB := hide (Row.new w #[.string s0, .int .i64 s1, .int .i64 s2, .int .i64 s3, .int .i64 s4] 32)
  have HB0 := hide (below_alloc (Below.refl w.heap.size w) (.cells #[.string s0, .int .i64 s1, .int .i64 s2, .int .i64 s3, .int .i64 s4] 32))
  have HRL := hide (show ((asO hs (s0, s1, s2, s3, s4)).getD []).length ≤ 1048576 from Nat.le_trans (asO_length hs (s0, s1, s2, s3, s4)) (by omega))
  clear hn hr hq
  go_enter Try.func4, Try.ntmps4
  go_wp2_with fail
  refine (szStretchS_any A n c _ hs _ Hn.out (by omega) HQ.out (HR.out.below HB0.out) (by omega) (by omega)).mono ?_
  rintro e w0 ⟨⟨u, rfl, hu0, hu1, hu2⟩, hb0⟩
  have HU := hide hu2
  have HSX := hide (HSB.out.below hb0)
  have HW0 := hide hb0
  replace HR := hide (HR.out.below HB0.out)
  clear hu2 hb0
  generalize w.alloc (.cells #[.string s0, .int .i64 s1, .int .i64 s2, .int .i64 s3, .int .i64 s4] 32) = W0 at *
  by_cases hneg : u < 0
  · go_wp2
    go_ret
    exact ⟨rfl, below_step HB0.out HW0.out⟩
  · have hm : n ≤ 1048576 := HU.out (by omega)
    have q0 := HSX.out.2.1 0 _ rfl
    have q1 := HSX.out.2.1 1 _ rfl
    have q2 := HSX.out.2.1 2 _ rfl
    have q3 := HSX.out.2.1 3 _ rfl
    have q4 := HSX.out.2.1 4 _ rfl
    go_wp2_with fail
    refine (szStretch_any s0 s1 s2 s3 s4 u _ HZ.out (by omega) (by omega)).mono ?_
    rintro e w1 ⟨⟨u', rfl, hv0, hv1, hv2⟩, hb1⟩
    have HW1 := hide (below_step HW0.out hb1)
    have HSY := hide (HSX.out.below hb1)
    clear hv2 hb1 q0 q1 q2 q3 q4
    by_cases hneg' : u' < 0
    · go_wp2
      go_ret
      exact ⟨rfl, below_step HB0.out HW1.out⟩
    · skip
      have q0 := (HSB.out.below HW1.out).2.1 0 _ rfl
      have q1 := (HSB.out.below HW1.out).2.1 1 _ rfl
      have q2 := (HSB.out.below HW1.out).2.1 2 _ rfl
      have q3 := (HSB.out.below HW1.out).2.1 3 _ rfl
      have q4 := (HSB.out.below HW1.out).2.1 4 _ rfl
      have qz := (HSB.out.below HW1.out).1
      go_wp2_with fail
      refine wpAnyS_start (fun w' => ∃ n : Later w1, w' = n.w) (n := 10) (by kernel_rfl) rfl rfl ?_
      refine wpAnyS_take_allE [0, 2] 8 rfl (by kernel_rfl) (by intro c a d v w h; cases d <;> exact h) (by kernel_rfl) (by simp; rfl) rfl (later_drew _) ?_
      repeat (go_big_quiet_step (fail))
      refine wpQuiet_nil ?_
      clear q0 q1 q2 q3 q4 qz
      have HL0 : Hid (Below w1.heap.size w1 w1.drew) := hide (Below.refl _ _).drew
      generalize w1.drew = U0 at *
      refine wpAnyS_only 1 (by kernel_rfl) (by simp; rfl) rfl rfl (fun K hK => ?_)
      go_wp2_with fail
      refine (toStretchS_any A n c hs U0 Hn.out hm (HR.out.below (below_step HW1.out HL0.out))).mono ?_
      rintro e U1 ⟨rfl, hr1, hb1⟩
      have HLa := hide (below_step HL0.out hb1)
      have HRa := hide hr1.rd
      clear hr1 hb1 HL0
      generalize U0.heap.size = UB at *
      go_wp2_with fail
      refine ⟨later_of HLa.out, ?_⟩
      refine wpAnyS_only 3 (by kernel_rfl) (by simp; rfl) rfl rfl (fun K hK => ?_)
      go_wp2_with fail
      refine (toStretch_any s0 s1 s2 s3 s4 _).mono ?_
      rintro e U2 ⟨rfl, hb⟩
      have HLb := hide (below_step HLa.out hb)
      have HRb := hide (HRa.out.below hb)
      clear hb HLa HRa
      go_wp2_with fail
      refine ⟨later_of HLb.out, ?_⟩
      refine wpAnyS_only 4 (by kernel_rfl) (by simp; rfl) rfl rfl (fun K hK => ?_)
      go_wp2_with fail
      refine (specAddStretch_any _ n n hs s0 s1 s2 s3 s4 U2 Hn.out (Nat.le_refl _) (by unfold maxLen; omega) hm HQ.out HRb.out HZ.out ⟨_, _, rfl⟩).mono ?_
      rintro e w2 ⟨⟨v1, rfl, ho1⟩, hb2⟩
      have HLc := hide (below_step HLb.out hb2)
      clear hb2 HLb HRb
      go_wp2_with fail
      refine ⟨later_of HLc.out, ?_⟩
      refine wpAnyS_take_allE [5, 6, 7, 8, 9] 0 rfl (by kernel_rfl) (by intro c a d v w h; cases d <;> exact h) (by kernel_rfl) (by simp; rfl) rfl (later_of HLc.out) ?_
      repeat (go_big_quiet_step (fail))
      refine wpQuiet_nil ?_
      refine wpAnyH_done (by kernel_rfl) ?_ _
      have HW2 := hide (below_step HW1.out HLc.out)
      have HO1 := hide ho1
      clear ho1 HLc
      go_wp2_with fail
      refine (toStretchS_any A n c hs _ Hn.out hm (HR.out.below HW2.out)).mono ?_
      rintro e w3 ⟨rfl, hr3, hb3⟩
      have HC3 := hide hr3
      have HW3 := hide (below_step HW2.out hb3)
      have HO13 := hide (own_below HO1.out hb3)
      clear hr3
      have q0 := (HSB.out.below HW3.out).2.1 0 _ rfl
      have q1 := (HSB.out.below HW3.out).2.1 1 _ rfl
      have q2 := (HSB.out.below HW3.out).2.1 2 _ rfl
      have q3 := (HSB.out.below HW3.out).2.1 3 _ rfl
      have q4 := (HSB.out.below HW3.out).2.1 4 _ rfl
      go_wp2_with fail
      refine (toStretch_any s0 s1 s2 s3 s4 _).mono ?_
      rintro e w3' ⟨rfl, hb⟩
      replace HC3 := hide (HC3.out.below hb)
      replace HO13 := hide (own_below HO13.out hb)
      have HGX := hide (show w2.heap.size < w3'.heap.size from HC3.out.1)
      replace HW3 := hide (below_step HW3.out hb)
      clear hb q0 q1 q2 q3 q4
      go_wp2_with fail
      refine (implAddStretch_any _ n n hs s0 s1 s2 s3 s4 _ Hn.out (Nat.le_refl _) (by unfold maxLen; omega) hm HQ.out HC3.out.rd HZ.out).mono ?_
      rintro e w4 ⟨⟨v2, rfl, ho2⟩, hb4⟩
      have HW4 := hide (below_step HW3.out hb4)
      have HO14 := hide (own_below HO13.out hb4)
      have HC4 := hide (HC3.out.below hb4)
      have HO24 := hide ho2
      clear ho2
      obtain ⟨A1, k1, hv1, hrd1, -, -, -, hblk1⟩ := own_open HO1.out
      obtain ⟨A2, k2, hv2, hrd2, -, -, -, hblk2⟩ := own_open HO24.out
      subst hv1
      subst hv2
      have hlt1 := fun k hk => (HO1.out.lt k hk).2
      have HL1 := hide hlt1
      have hg3 : w2.heap.size < w3'.heap.size := HGX.out
      have HG3 := hide hg3
      clear hrd1 hrd2 hblk1 hblk2 hlt1 hg3
      go_wp2_with fail
      refine (eqStretchS_same A2 A1 _ k2 k1 ((asO hs (s0, s1, s2, s3, s4)).getD []) _ rfl HRL.out (own_rd HO24.out) (own_rd HO14.out)).mono ?_
      rintro e w5 ⟨rfl, hb5⟩
      have HW5 := hide (below_step HW4.out hb5)
      have HO15 := hide (own_below HO14.out hb5)
      have HO25 := hide (own_below HO24.out hb5)
      have HC5 := hide (HC4.out.below hb5)
      go_wp2_with fail
      refine (toStretchS_any A n c hs _ Hn.out hm (HR.out.below HW5.out)).mono ?_
      rintro e w6 ⟨rfl, hr6, hb6⟩
      have HC6 := hide (HC5.out.below hb6)
      have HD6 := hide hr6.rd
      have HO16 := hide (own_below HO15.out hb6)
      have HO26 := hide (own_below HO25.out hb6)
      have HW6 := hide (below_step HW5.out hb6)
      clear hr6
      go_wp2_with fail
      refine (eqStretchS_same _ _ n n n hs _ Hn.out hm HC6.out.rd HD6.out).mono ?_
      rintro e w7 ⟨rfl, hb7⟩
      have HC7 := hide (HC6.out.below hb7)
      have HO17 := hide (own_below HO16.out hb7)
      have HO27 := hide (own_below HO26.out hb7)
      have HW7 := hide (below_step HW6.out hb7)
      go_wp2_with fail
      refine (markStretchS_any w2.heap.size n n _ 1 _ HC7.out (by rw [flat_length scells 5 (fun _ => rfl)]; have := Hn.out; omega) hm (by omega) (by omega)).mono ?_
      rintro e w8 ⟨rfl, -, hg8⟩
      have HO18 := hide (own_near HO17.out HL1.out hg8 (fun k hk => by injection hk with hk; omega))
      have HO28 := hide (own_far HO27.out hg8 HG3.out)
      have HW8 := hide (HW7.out.grown hg8 HW7.out.size (fun k hk => by injection hk with hk; have := HW2.out.size; omega))
      clear hg8
      go_wp2_with fail
      refine (eqStretchS_same A2 A1 _ k2 k1 ((asO hs (s0, s1, s2, s3, s4)).getD []) _ rfl HRL.out (own_rd HO28.out) (own_rd HO18.out)).mono ?_
      rintro e w9 ⟨rfl, hb9⟩
      have HW9 := hide (below_step HW8.out hb9)
      have HO19 := hide (own_below HO18.out hb9)
      have HO29 := hide (own_below HO28.out hb9)
      go_wp2_with fail
      refine (markStretchS_own _ _ _ _ 1 _ HO29.out HRL.out (by omega) (by omega)).mono ?_
      rintro e w10 ⟨rfl, ho10, hg10⟩
      have HO2A := hide ho10
      have HO1A := hide (own_near HO19.out HL1.out hg10 (fun k hk => Nat.le_trans (Nat.le_of_lt HG3.out) (HO29.out.lt k hk).1))
      have HWA := hide (HW9.out.grown hg10 HW9.out.size (fun k hk => Nat.le_trans HW3.out.size (HO29.out.lt k hk).1))
      clear ho10 hg10
      go_wp2_with fail
      refine (heldStretchS_any A2 _ k2 1 _ (own_rd HO2A.out) HRL.out (by omega) (by omega)).mono ?_
      rintro e w10' ⟨rfl, hb10'⟩
      replace HO1A := hide (own_below HO1A.out hb10')
      replace HO2A := hide (own_below HO2A.out hb10')
      replace HWA := hide (below_step HWA.out hb10')
      have q0 := (HSB.out.below HWA.out).2.1 0 _ rfl
      have q1 := (HSB.out.below HWA.out).2.1 1 _ rfl
      have q2 := (HSB.out.below HWA.out).2.1 2 _ rfl
      have q3 := (HSB.out.below HWA.out).2.1 3 _ rfl
      have q4 := (HSB.out.below HWA.out).2.1 4 _ rfl
      have qz := (HSB.out.below HWA.out).1
      go_wp2_with fail
      refine wpAnyS_start (fun w' => ∃ n : Later w10', w' = n.w) (n := 10) (by kernel_rfl) rfl rfl ?_
      refine wpAnyS_take_allE [0, 2] 8 rfl (by kernel_rfl) (by intro c a d v w h; cases d <;> exact h) (by kernel_rfl) (by simp; rfl) rfl (later_drew _) ?_
      repeat (go_big_quiet_step (fail))
      refine wpQuiet_nil ?_
      clear q0 q1 q2 q3 q4 qz
      have HL0 : Hid (Below w10'.heap.size w10' w10'.drew) := hide (Below.refl _ _).drew
      generalize w10'.drew = U0 at *
      refine wpAnyS_only 1 (by kernel_rfl) (by simp; rfl) rfl rfl (fun K hK => ?_)
      go_wp2_with fail
      refine (toStretchS_any A n c hs U0 Hn.out hm (HR.out.below (below_step HWA.out HL0.out))).mono ?_
      rintro e U1 ⟨rfl, hr1, hb1⟩
      have HLa := hide (below_step HL0.out hb1)
      have HRa := hide hr1.rd
      clear hr1 hb1 HL0
      generalize U0.heap.size = UB at *
      go_wp2_with fail
      refine ⟨later_of HLa.out, ?_⟩
      refine wpAnyS_only 3 (by kernel_rfl) (by simp; rfl) rfl rfl (fun K hK => ?_)
      go_wp2_with fail
      refine (toStretch_any s0 s1 s2 s3 s4 _).mono ?_
      rintro e U2 ⟨rfl, hb⟩
      have HLb := hide (below_step HLa.out hb)
      have HRb := hide (HRa.out.below hb)
      clear hb HLa HRa
      go_wp2_with fail
      refine ⟨later_of HLb.out, ?_⟩
      refine wpAnyS_only 4 (by kernel_rfl) (by simp; rfl) rfl rfl (fun K hK => ?_)
      go_wp2_with fail
      refine (implAddStretch_any _ n n hs s0 s1 s2 s3 s4 U2 Hn.out (Nat.le_refl _) (by unfold maxLen; omega) hm HQ.out HRb.out HZ.out).mono ?_
      rintro e w12 ⟨⟨v3, rfl, ho3⟩, hb2⟩
      have HLc := hide (below_step HLb.out hb2)
      clear hb2 HLb HRb
      go_wp2_with fail
      refine ⟨later_of HLc.out, ?_⟩
      refine wpAnyS_take_allE [5, 6, 7, 8, 9] 0 rfl (by kernel_rfl) (by intro c a d v w h; cases d <;> exact h) (by kernel_rfl) (by simp; rfl) rfl (later_of HLc.out) ?_
      repeat (go_big_quiet_step (fail))
      refine wpQuiet_nil ?_
      refine wpAnyH_done (by kernel_rfl) ?_ _
      have HWC := hide (below_step HWA.out HLc.out)
      have HO1C := hide (own_below HO1A.out HLc.out)
      have HO2C := hide (own_below HO2A.out HLc.out)
      obtain ⟨A3, k3, rfl, hrd3, -, -, -, -⟩ := own_open ho3
      have HR3 := hide hrd3
      clear ho3 hrd3
      go_wp2_with fail
      refine (eqStretchS_same A3 A1 _ k3 k1 ((asO hs (s0, s1, s2, s3, s4)).getD []) _ rfl HRL.out HR3.out (own_rd HO1C.out)).mono ?_
      rintro e w13 ⟨rfl, hb13⟩
      have HWD := hide (below_step HWC.out hb13)
      have HO2D := hide (own_below HO2C.out hb13)
      go_wp2_with fail
      refine (heldStretchS_any A2 _ k2 1 _ (own_rd HO2D.out) HRL.out (by omega) (by omega)).mono ?_
      rintro e w14 ⟨rfl, hb14⟩
      go_wp2
      go_ret
      exact ⟨rfl, below_step HB0.out (below_step HWD.out hb14)⟩
end Go.Proofs.Ytobdebagijmkjaa

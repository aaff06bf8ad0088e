/- The law FnBranches: what the law's call returns. -/
import Derived.Test.YtcbonkhlpcbckaaFnBrM
import Derived.Test.YtcbonkhlpcbckaaDrawHB
import Derived.Deep.Cut
namespace Go.Proofs.Ytcbonkhlpcbckaa
open Go.RowKit
set_option linter.unusedVariables false

theorem byte_bd {l : List Int} (h : ∀ x ∈ l, (Lit.int .u8 x).wf = true) : ∀ x ∈ l, 0 ≤ x ∧ x ≤ 255 := fun x hx => by
  have := h x hx
  simp [Lit.wf] at this
  have e1 : IntKind.u8.min = 0 := rfl
  have e2 : IntKind.u8.max = 255 := rfl
  omega

set_option maxRecDepth 100000 in
set_option maxHeartbeats 16000000 in
theorem FnBranches_walk (A : Option Addr) (n c : Nat) (code : List Int) (B : Option Addr) (m k : Nat) (more : List Int) (w : World) (hn : n = code.length) (hnc : n ≤ c) (hc : c ≤ maxLen) (hr : Rd w A (code.map (Value.int .u8))) (hs : ∀ x ∈ code, (Lit.int .u8 x).wf = true)
    (hn2 : m = more.length) (hnc2 : m ≤ k) (hc2 : k ≤ maxLen) (hr2 : Rd w B (more.map (Value.int .u8))) (hs2 : ∀ x ∈ more, (Lit.int .u8 x).wf = true) :
    Calls Try.prog 3 #[.slice A n c, .slice B m k] w fun e w' => e = .returned (.bool true) ∧ Below w.heap.size w w' := by
  have H1 := hide (And.intro hn (And.intro (Nat.le_trans hnc hc) (And.intro (byte_bd hs) hr)))
  have H2 := hide (And.intro hn2 (And.intro (Nat.le_trans hnc2 hc2) (And.intro (byte_bd hs2) hr2)))
  have hb1 : n ≤ 9223372036854775807 := by unfold maxLen at hc; omega
  have hb2 : m ≤ 9223372036854775807 := by unfold maxLen at hc2; omega
  clear hn hr hs hn2 hr2 hs2 hnc hc hnc2 hc2
  go_enter Try.func3, Try.ntmps3
  go_wp2_with fail
  · go_ret
    exact ⟨rfl, (by repeat (first | exact Below.refl _ _ | refine below_step ?_ (by assumption) | refine below_step ?_ (Later.below _) | refine below_alloc ?_ _ | refine Below.drew ?_ | refine Below.setCell ?_ (by first | (simp; done) | (simp; omega)) _))⟩
  go_wp2_with fail
  refine (DrawBranchPressure_any A n c code _ H1.out.1 H1.out.2.1 H1.out.2.2.1 H1.out.2.2.2).mono ?_
  rintro e w1 ⟨⟨a, f, rfl, -, -⟩, hb⟩
  have HW1 := hide hb
  clear hb
  go_wp2_with fail
  refine (implBranchPressure_any a f _).mono ?_
  rintro e w' ⟨rfl, rfl⟩
  go_wp2_with fail
  refine (specBranchPressure_any a f _).mono ?_
  rintro e w' ⟨rfl, rfl⟩
  go_wp2_with fail
  refine (DrawBranchFlow_any B m k more _ H2.out.1 H2.out.2.1 H2.out.2.2.1 (H2.out.2.2.2.below HW1.out)).mono ?_
  rintro e w2 ⟨⟨z, t, rfl, -, -⟩, hb⟩
  have HW2 := hide (below_step HW1.out hb)
  clear hb
  go_wp2_with fail
  refine (implBranchFlow_any z t _).mono ?_
  rintro e w' ⟨rfl, rfl⟩
  go_wp2_with fail
  refine (specBranchFlow_any z t _).mono ?_
  rintro e w' ⟨rfl, rfl⟩
  go_wp2_with fail
  refine (DrawPumpPressure_any B m k more _ H2.out.1 H2.out.2.1 H2.out.2.2.1 (H2.out.2.2.2.below HW2.out)).mono ?_
  rintro e w3 ⟨⟨C, q, kc, ls, r, y, u, rfl, hql, hq, hrd, -, -, -⟩, hb⟩
  have HW3 := hide (below_step HW2.out hb)
  have HQ := hide hql
  have HR3 := hide hrd
  clear hb hql hrd
  go_wp2_with fail
  refine (implPumpPressure_any C q kc r y u ls _ HQ.out (by omega) HR3.out).mono ?_
  rintro e w4 ⟨rfl, hb⟩
  have HW4 := hide (below_step HW3.out hb)
  have HR4 := hide (HR3.out.below hb)
  clear hb
  go_wp2_with fail
  refine (specPumpPressure_any C q kc r y u ls _ HQ.out (by omega) HR4.out).mono ?_
  rintro e w5 ⟨rfl, hb⟩
  have HW5 := hide (below_step HW4.out hb)
  have HR5 := hide (HR4.out.below hb)
  clear hb
  go_wp2_with fail
  refine (DrawLongestHose_any B m k more _ H2.out.1 H2.out.2.1 H2.out.2.2.1 (H2.out.2.2.2.below HW5.out)).mono ?_
  rintro e w6 ⟨⟨kd, th, mo, rfl, -, -, -⟩, hb⟩
  have HW6 := hide (below_step HW5.out hb)
  have HR6 := hide (HR5.out.below hb)
  clear hb
  go_wp2_with fail
  refine (implLongestHose_any kd th mo _).mono ?_
  rintro e w7 ⟨rfl, hb⟩
  have HW7 := hide (below_step HW6.out hb)
  have HR7 := hide (HR6.out.below hb)
  clear hb
  go_wp2_with fail
  refine (specLongestHose_any kd th mo _).mono ?_
  rintro e w8 ⟨rfl, hb⟩
  have HW8 := hide (below_step HW7.out hb)
  have HR8 := hide (HR7.out.below hb)
  clear hb
  go_wp2_with fail
  refine (DrawHosesFor_any B m k more _ H2.out.1 H2.out.2.1 H2.out.2.2.1 (H2.out.2.2.2.below HW8.out)).mono ?_
  rintro e w9 ⟨⟨di, le, rfl, -, -⟩, hb⟩
  have HW := hide (below_step HW8.out hb)
  have HR := hide (HR8.out.below hb)
  clear hb HW1 HW2 HW3 HW4 HW5 HW6 HW7 HW8 HR3 HR4 HR5 HR6 HR7 HR8
  go_wp2_with fail
  refine (implHosesFor_any di le _).mono ?_
  rintro e w' ⟨rfl, rfl⟩
  go_wp2_with fail
  refine (specHosesFor_any di le _).mono ?_
  rintro e w' ⟨rfl, rfl⟩
  have B1 := hide (fun h => br1 (a := a) (f := f) h)
  have B2 := hide (fun h => br2 (hs := ls) (r := r) (y := y) (f := u) h)
  have B3 := hide (fun h => br3 (k := kd) (f := th) (p := mo) h)
  have B4 := hide (fun h => br4 (d := di) (l := le) h)
  have BL := lineR_bd ls u
  have B3d := hide (show decide (0 < longR kd th mo) = true ∨ decide (0 < longR kd th mo) = false from by cases decide (0 < longR kd th mo) <;> simp)
  go_upto_if 200 with fail
  go_cut [8, 10] from 52 (fun s8 s10 w' => (Hid (Below w.heap.size w w') ∧ Hid (Rd w' C (ls.flatMap hcells))))
  case first => as_aux_lemma =>
    cases hk1 : bpOk a f with
    | false =>
      go_wp2
      go_meet
      case rel => exact ⟨HW, HR⟩
    | true =>
      obtain ⟨⟨a0, a1⟩, a2, a3, a4⟩ := B1.out hk1
      have Q6 := hide (fun W => implBranchFlow_any a (bpR a f) W)
      rw [a2] at Q6
      have HA4 := hide a4
      clear a2 a4
      go_wp2_with fail
      refine (Q6.out _).mono ?_
      rintro e w' ⟨rfl, rfl⟩
      by_cases h0 : 0 < bpR a f
      · obtain ⟨a5, a6⟩ := HA4.out h0
        have Q7 := hide (fun W => implBranchFlow_any a (bpR a f - 1) W)
        rw [a5] at Q7
        clear a5
        go_wp2_with fail
        refine (Q7.out _).mono ?_
        rintro e w' ⟨rfl, rfl⟩
        go_wp2
        go_meet
        case rel => exact ⟨HW, HR⟩
      · go_wp2
        go_meet
        case rel => exact ⟨HW, HR⟩
  clear HW HR
  obtain ⟨HW, HR⟩ := hcut
  go_upto_if 230 with fail
  go_cut [21, 22, 23, 24] from 52 (fun s21 s22 s23 s24 w' => (Hid (Below w.heap.size w w') ∧ Hid (Rd w' C (ls.flatMap hcells))))
  case first => as_aux_lemma =>
    cases hk2 : pumpOk ls r y u with
    | false =>
      go_wp2
      go_meet
      case rel => exact ⟨HW, HR⟩
    | true =>
      obtain ⟨c1, c2, c3, c4, c5⟩ := B2.out hk2
      have Q3 := hide (fun W => implBranchPressure_any y u W)
      have Q4 := hide (fun W => specBranchPressure_any y u W)
      have Q5 := hide (fun W h => specLineLoss_any C q kc u ls W HQ.out (by omega) h)
      rw [c1] at Q3 Q4
      rw [c2] at Q5
      have HC5 := hide c5
      clear c1 c2 c5
      go_wp2_with fail
      refine (Q3.out _).mono ?_
      rintro e w' ⟨rfl, rfl⟩
      go_wp2_with fail
      refine (Q4.out _).mono ?_
      rintro e w' ⟨rfl, rfl⟩
      go_wp2_with fail
      refine (Q5.out _ HR.out).mono ?_
      rintro e w12 ⟨rfl, hb⟩
      replace HW := hide (below_step HW.out hb)
      replace HR := hide (HR.out.below hb)
      clear hb
      rw [HC5.out]
      by_cases hp0 : lineR ls u + r + bpR y u ≤ 0
      · have hp1 : max (lineR ls u + r + bpR y u) 0 = 0 := by omega
        rw [hp1]
        clear hp1
        go_wp2
        go_meet
        case rel => exact ⟨HW, HR⟩
      · have hp1 : max (lineR ls u + r + bpR y u) 0 = lineR ls u + r + bpR y u := by omega
        rw [hp1]
        clear hp1
        go_wp2
        go_meet
        case rel => exact ⟨HW, HR⟩
  clear HW HR
  obtain ⟨HW, HR⟩ := hcut
  go_upto_if 289 with fail
  go_cut [29, 31] from 52 (fun s29 s31 w' => (Hid (Below w.heap.size w w') ∧ Hid (Rd w' C (ls.flatMap hcells))))
  case first => as_aux_lemma =>
    cases hk3 : decide (0 < longR kd th mo) with
    | false =>
      go_wp2
      go_meet
      case rel => exact ⟨HW, HR⟩
    | true =>
      obtain ⟨b1, b2, b3, b4⟩ := B3.out (of_decide_eq_true hk3)
      have Q1 := hide (fun W => implHoseLoss_any kd (longR kd th mo) th W)
      rw [b2] at Q1
      have hg0 : 0 < longR kd th mo := of_decide_eq_true hk3
      have B4' := hide b4
      clear b4 b2
      go_wp2_with fail
      refine (Q1.out _).mono ?_
      rintro e w10 ⟨rfl, hb⟩
      replace HW := hide (below_step HW.out hb)
      replace HR := hide (HR.out.below hb)
      clear hb
      by_cases h5 : longR kd th mo < 5000
      · obtain ⟨b5, b6⟩ := B4'.out h5
        have Q2 := hide (fun W => implHoseLoss_any kd (longR kd th mo + 1) th W)
        rw [b5] at Q2
        clear b5
        go_wp2_with fail
        refine (Q2.out _).mono ?_
        rintro e w11 ⟨rfl, hb⟩
        replace HW := hide (below_step HW.out hb)
        replace HR := hide (HR.out.below hb)
        clear hb
        go_wp2
        go_meet
        case rel => exact ⟨HW, HR⟩
      · go_wp2
        go_meet
        case rel => exact ⟨HW, HR⟩
  clear HW HR
  obtain ⟨HW, HR⟩ := hcut
  as_aux_lemma =>
    cases hk4 : hosesOk di le with
    | false =>
      go_wp2
      go_ret
      exact ⟨rfl, HW.out⟩
    | true =>
      obtain ⟨⟨d0, d1⟩, ⟨l0, l1⟩, ⟨c0, c1⟩, ⟨p0, p1⟩, g1, g2, ⟨q0, q1⟩⟩ := B4.out hk4
      rcases g2 with g2 | g2
      · have g3 : 11 * di ≤ 0 := by rw [g2] at g1; simpa using g1
        clear g1 p0 p1 q0 q1
        go_wp2
        all_goals first | (go_ret; exact ⟨rfl, HW.out⟩) | (exfalso; omega)
      · go_wp2
        all_goals first | (go_ret; exact ⟨rfl, HW.out⟩) | (exfalso; omega)
end Go.Proofs.Ytcbonkhlpcbckaa

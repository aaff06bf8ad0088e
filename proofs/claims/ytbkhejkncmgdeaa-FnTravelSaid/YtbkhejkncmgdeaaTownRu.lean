/- RouteTime: both sides. -/
import Derived.Test.YtbkhejkncmgdeaaTownRt
namespace Go.Proofs.Ytbkhejkncmgdeaa
open Go.RowKit
set_option linter.unusedVariables false

set_option maxHeartbeats 2000000 in
theorem implRouteTime_any (nd : Int) (A : Option Addr) (n c : Nat) (l : List (Int × Int × Int)) (A2 : Option Addr) (n2 c2 : Nat) (R : List Int) (w : World) (hn : n = l.length) (hnc : n ≤ c) (hc : c ≤ maxLen) (hr : Rd w A (l.flatMap tcells)) (hn2 : n2 = R.length) (hm2 : n2 ≤ 1048576) (hnc2 : n2 ≤ c2) (hc2 : c2 ≤ maxLen) (hr2 : Rd w A2 (R.map (Value.int .i64))) :
    Calls Try.prog 22 #[.agg #[.int .i64 nd, .slice A n c], .slice A2 n2 c2] w fun e w' => e = .returned (.tuple #[.int .i64 (rtV nd l R), .bool (rtOk nd l R)]) ∧ Below w.heap.size w w' := by
  have Hn := hide hn
  have Hr := hide hr
  have Hn2 := hide hn2
  have Hr2 := hide hr2
  have hm : n ≤ maxLen := Nat.le_trans hnc hc
  have HF0 := hide (Row.new w #[.int .i64 nd, .slice A n c] 30)
  have Q := hide (implisTown_any w.heap.size nd A n c l _ hn hm (hr.alloc _) HF0.out.1 (HF0.out.at 0 rfl) (HF0.out.at 1 rfl))
  clear hn hr hnc hc hn2 hr2
  go_enter Try.func22, Try.ntmps22
  go_wp2_with fail
  refine Q.out.mono ?_
  rintro e w1 ⟨rfl, hq⟩
  have HF1 := hide (HF0.out.below hq)
  have HW1 : Hid (Below w.heap.size w w1) := hide (below_step (below_alloc (Below.refl _ _) _) hq)
  clear hq Q HF0
  cases ht : townB nd l with
  | false =>
    have HN := hide (rt_no (nd := nd) (l := l) (R := R) (by rw [rtP, ht]; rfl))
    clear ht
    go_wp2
    go_ret2
    exact ⟨ret_tup2 HN.out.1.symm HN.out.2.symm, HW1.out⟩
  | true =>
    obtain ⟨k, rfl, hk⟩ := townB_ok ht
    have HT := hide ht
    have HK := hide hk
    clear ht hk
    go_wp2_with fail
    refine (routeTime_any w.heap.size k n c A l A2 n2 c2 R _ Hn.out HK.out (Hr.out.below HW1.out) (HF1.out.at 0 rfl) (HF1.out.at 1 rfl) Hn2.out hm2 hnc2 hc2 (Hr2.out.below HW1.out) HT.out).mono ?_
    rintro e w2 ⟨rfl, hq⟩
    have HW2 : Hid (Below w.heap.size w w2) := hide (below_step HW1.out hq)
    clear hq
    go_wp2
    go_ret2
    exact ⟨rfl, HW2.out⟩

set_option maxRecDepth 100000 in
set_option maxHeartbeats 4000000 in
theorem specRouteTime_any (nd : Int) (A : Option Addr) (n c : Nat) (l : List (Int × Int × Int)) (A2 : Option Addr) (n2 c2 : Nat) (R : List Int) (w : World) (hn : n = l.length) (hnc : n ≤ c) (hc : c ≤ maxLen) (hr : Rd w A (l.flatMap tcells)) (hn2 : n2 = R.length) (hm2 : n2 ≤ 1048576) (hnc2 : n2 ≤ c2) (hc2 : c2 ≤ maxLen) (hr2 : Rd w A2 (R.map (Value.int .i64))) :
    Calls Try.prog 24 #[.agg #[.int .i64 nd, .slice A n c], .slice A2 n2 c2] w fun e w' => e = .returned (.tuple #[.int .i64 (rtV nd l R), .bool (rtOk nd l R)]) ∧ Below w.heap.size w w' := by
  have Hn := hide hn
  have Hr := hide hr
  have Hn2 := hide hn2
  have Hr2 := hide hr2
  have hm : n ≤ maxLen := Nat.le_trans hnc hc
  unfold maxLen at hc2
  have HF0 := hide (Row.new w #[.int .i64 nd, .slice A n c] 30)
  have Q := hide (toGood_any nd A n c l _ hn hm (hr.alloc (.cells #[.int .i64 nd, .slice A n c] 30)))
  have q14 := hide (fun W => l1In_any (n2 : Int) 1 14 W)
  clear hn hr hnc hc hn2 hr2
  go_enter Try.func24, Try.ntmps24
  go_wp2_with fail
  refine Q.out.mono ?_
  rintro e w1 ⟨rfl, hq⟩
  have HF1 := hide (HF0.out.below hq)
  have HW1 : Hid (Below w.heap.size w w1) := hide (below_step (below_alloc (Below.refl _ _) _) hq)
  clear hq Q HF0
  have a0 := HF1.out.at 0 rfl
  have a1 := HF1.out.at 1 rfl
  cases ht : townB nd l with
  | false =>
    have HN := hide (rt_no (nd := nd) (l := l) (R := R) (by rw [rtP, ht]; rfl))
    clear ht
    go_wp2
    go_ret2
    exact ⟨ret_tup2 HN.out.1.symm HN.out.2.symm, HW1.out⟩
  | true =>
    have HT := hide ht
    obtain ⟨k, rfl, hk⟩ := townB_ok ht
    have HK := hide hk
    have h1 := hk.lo
    have h2 := hk.hi
    clear ht hk
    have q2 := q14.out w1
    cases h14 : inB n2 1 14 with
    | false =>
      have HN := hide (rt_no (nd := k) (l := l) (R := R) (by rw [rtP, ← Hn2.out, h14, Bool.and_false]))
      rw [h14] at q2
      clear h14
      go_wp2_with (go_at_call 56; ((with_reducible refine (q2).mono ?_); rintro e w' ⟨rfl, rfl⟩))
      go_ret2
      exact ⟨ret_tup2 HN.out.1.symm HN.out.2.symm, HW1.out⟩
    | true =>
      have HP : Hid (rtR k l R = rtK k l R R.length) := hide (by rw [rtR, rtP, HT.out, ← Hn2.out, h14]; rfl)
      obtain ⟨l1, l2⟩ := inB_iff.1 h14
      rw [h14] at q2
      clear h14
      have q3 : Calls Try.prog 57 #[.slice A2 n2 c2, .int .i64 0, .int .i64 ((k : Int) - 1)] w1 fun e w' => e = .returned (.bool (R.all (nodeB k))) ∧ w1 = w' := l1All_any 0 ((k : Int) - 1) A2 n2 c2 R w1 Hn2.out hm2 (Hr2.out.below HW1.out)
      cases hall : R.all (nodeB k) with
      | false =>
        have HN := hide (rt_none (nd := k) (l := l) (R := R) (by
          rw [HP.out]
          cases hr : rtK k l R R.length with
          | none => rfl
          | some s =>
            have := rtK_all R.length s (Nat.le_refl _) hr
            rw [List.take_of_length_le (Nat.le_refl _), hall] at this
            cases this))
        rw [hall] at q3
        clear hall
        go_wp2_with (first | (go_at_call 56; ((with_reducible refine (q2).mono ?_); rintro e w' ⟨rfl, rfl⟩)) | (go_at_call 57; ((with_reducible refine (q3).mono ?_); rintro e w' ⟨rfl, rfl⟩)))
        go_ret2
        exact ⟨ret_tup2 HN.out.1.symm HN.out.2.symm, HW1.out⟩
      | true =>
        have HALL := hide hall
        rw [hall] at q3
        clear hall
        have HBD := hide (fun m s h => rtK_bd (k := k) (R := R) HK.out.fits m s h)
        go_wp2_with (first | (go_at_call 56; ((with_reducible refine (q2).mono ?_); rintro e w' ⟨rfl, rfl⟩)) | (go_at_call 57; ((with_reducible refine (q3).mono ?_); rintro e w' ⟨rfl, rfl⟩)))
        clear q2 q3 a0 a1
        go_loopw [6, 29] (fun s t wr => ∃ (m : Nat) (v : Int), m ≤ n2 ∧ t = .int .i64 m ∧ s = .int .i64 v ∧ Hid (rtK k l R m = some v) ∧ Hid (Below w.heap.size w wr) ∧ Hid (Row wr w.heap.size [.int .i64 (k : Int), .slice A n c])) (fun _ t _ => n2 - (intOf t).toNat)
        case atStart => exact ⟨0, 0, by omega, rfl, rfl, hide rfl, HW1, HF1⟩
        case round =>
          obtain ⟨m, v, hm, rfl, rfl, HV, HB, HF⟩ := hrel
          clear HF1 HW1
          obtain ⟨v0, v1⟩ := HBD.out m v HV.out
          by_cases hlt : m < n2
          · obtain ⟨x, hx⟩ : ∃ x, R[m]? = some x := ⟨_, List.getElem?_eq_getElem (by rw [← Hn2.out]; exact hlt)⟩
            have HR2 := hide (Hr2.out.below HB.out)
            obtain ⟨b', off, rfl, hbs, c0⟩ := HR2.out.get1 (k := m) (u := .int .i64 x) (by simp [hx])
            have hnx : nodeB k x = true := List.all_eq_true.1 HALL.out x (List.mem_of_getElem? hx)
            have Hx := hide hx
            clear hx
            have i0 : (0 : Int) ≤ (m : Int) := by omega
            have i1 : (m : Int) ≤ (n2 : Int) := by omega
            have hpart : Rd wr (some ⟨b', off, none⟩) ((R.take m).map (Value.int .i64)) := by
              have := HR2.out.part 0 m
              simpa [List.map_take] using this
            have q2 := l1Has_any (some ⟨b', off, none⟩) m c2 (R.take m) x wr (by rw [List.length_take]; have := Hn2.out; omega) (by omega) hpart
            clear hpart
            cases hhx : hasB (R.take m) x with
            | true =>
              have HN := hide (rt_none (nd := k) (l := l) (R := R) (by rw [HP.out]; exact rtK_none (rtK_bad Hx.out (.inr hhx)) _ (by have := Hn2.out; omega)))
              rw [hhx] at q2
              clear hnx hhx
              go_wp2_with (go_at_call 58; ((with_reducible refine (q2).mono ?_); rintro e w' ⟨rfl, rfl⟩))
              go_ret2
              exact ⟨ret_tup2 HN.out.1.symm HN.out.2.symm, HB.out⟩
            | false =>
              rw [hhx] at q2
              by_cases hm0 : m = 0
              · have HV1 : Hid (rtK k l R (m + 1) = some v) := hide (by subst hm0; exact rtK_first HV.out Hx.out hnx)
                have g0 : decide (0 < m) = false := by simp [hm0]
                have g1 : decide ((0 : Int) < (m : Int)) = false := by simp [hm0]
                clear hnx hhx hm0
                go_wp2_with (go_at_call 58; ((with_reducible refine (q2).mono ?_); rintro e w' ⟨rfl, rfl⟩))
                go_roundw
                case rel => exact ⟨m + 1, v, by omega, by go_num, rfl, HV1, HB, HF⟩
                case measure => simp [intOf]; omega
              · obtain ⟨j, hj⟩ : ∃ j, m = j + 1 := ⟨m - 1, by omega⟩
                obtain ⟨y, hy⟩ : ∃ y, R[j]? = some y := ⟨_, List.getElem?_eq_getElem (by rw [← Hn2.out]; omega)⟩
                have c1 : wr.cell? ⟨b', off + j, none⟩ = some (.int .i64 y) := by
                  obtain ⟨b2, off2, hA, _, hc⟩ := HR2.out.get1 (k := j) (u := .int .i64 y) (by simp [hy])
                  injection hA with hA
                  injection hA with hA1 hA2
                  subst hA1
                  subst hA2
                  exact hc
                have e1 : IntKind.i64.wrap ((m : Int) - 1) = (m : Int) - 1 := IntWalk.i64_in _ (by omega)
                have e2 : ((m : Int) - 1).toNat = j := by omega
                have e3 : (0 : Int) < (m : Int) := by omega
                have e3' : 0 < m := by omega
                have e4 : (m : Int) - 1 < (n2 : Int) := by omega
                have e5 : (0 : Int) ≤ (m : Int) - 1 := by omega
                have HNO : Hid (stFind l y x < 0 → rtK k l R (m + 1) = none) := hide (fun h => by subst hj; exact rtK_no Hx.out (by rw [getD_at hy]; exact h))
                have HGO : Hid (¬ stFind l y x < 0 → rtK k l R (m + 1) = some (v + secOf l (stFind l y x))) := hide (fun h => by
                  subst hj
                  have := rtK_go HV.out Hx.out hnx hhx (by rw [getD_at hy]; exact h)
                  rwa [getD_at hy] at this)
                have a0 := HF.out.at 0 rfl
                have a1 := HF.out.at 1 rfl
                have z0 := HF.out.1
                clear hnx hhx hm0 hj hy
                go_wp2_with (go_at_call 58; ((with_reducible refine (q2).mono ?_); rintro e w' ⟨rfl, rfl⟩))
                refine wpAnyS_start (fun w' => ∃ n : Later wr, w' = n.w) (n := 9) (by kernel_rfl) rfl rfl ?_
                refine wpAnyS_take_all [0, 1, 2, 3, 4, 5, 6] 2 rfl (by kernel_rfl) (by intro c a d v w h; cases d <;> exact h) (by kernel_rfl) (by simp; rfl) rfl (later_drew _) ?_
                repeat (go_big_quiet_step (fail))
                refine wpQuiet_nil ?_
                clear a0 a1 z0 c0 c1 hbs e1 e2 e3 e3' e4 e5
                refine wpAnyS_only 7 (by kernel_rfl) (by simp; rfl) rfl rfl (fun K hK => ?_)
                go_wp2_with fail
                refine (toFind_any (k : Int) A n c l y x _ Hn.out (by have := Hn.out; have := HK.out.len; omega) (Hr.out.below HB.out.drew)).mono ?_
                rintro e w3 ⟨rfl, hq⟩
                have hb : Below wr.heap.size wr w3 := below_step (Below.refl _ _).drew hq
                have HBL := hide hb
                have HB3 : Hid (Below w.heap.size w w3) := hide (below_step HB.out hb)
                have HF3 := hide (HF.out.below hb)
                clear hq hb q2
                go_wp2_with fail
                refine ⟨later_of HBL.out, ?_⟩
                refine wpAnyS_only 8 (by kernel_rfl) (by simp; rfl) rfl rfl (fun K hK => ?_)
                go_wp2_with fail
                refine ⟨later_of HBL.out, ?_⟩
                refine wpAnyH_done (by kernel_rfl) ?_ _
                by_cases hs : stFind l y x < 0
                · have HN := hide (rt_none (nd := k) (l := l) (R := R) (by rw [HP.out]; exact rtK_none (HNO.out (by omega)) _ (by have := Hn2.out; omega)))
                  clear HNO HGO
                  generalize stFind l y x = s at *
                  go_wp2
                  go_ret2
                  exact ⟨ret_tup2 HN.out.1.symm HN.out.2.symm, HB3.out⟩
                · have HV2 := HGO.out (by omega)
                  obtain ⟨q, hq, hql⟩ := stFind_lt (l := l) (a := y) (b := x) (by omega)
                  obtain ⟨⟨t0, t1, t2⟩, ht⟩ : ∃ h, l[q]? = some h := ⟨_, List.getElem?_eq_getElem hql⟩
                  obtain ⟨b3, off3, rfl, hbs3, d0, d1, d2⟩ := (Hr.out.below HB3.out).get3 (fun _ => rfl) ht rfl
                  dsimp only at d2
                  rw [hq, sec_at ht] at HV2
                  have HV3 := hide HV2
                  have hft := fitB_iff.1 (HK.out.fits _ (List.mem_of_getElem? ht))
                  dsimp only at hft
                  obtain ⟨_, _, _, t2a, t2b⟩ := hft
                  have a1 := HF3.out.at 1 rfl
                  rw [hq]
                  have hqn : q < n := by have := Hn.out; omega
                  have q0 : (0 : Int) ≤ (q : Int) := by omega
                  have q1 : (q : Int) < (n : Int) := by omega
                  clear HNO HGO HV2 hs hq ht hql
                  go_wp2
                  go_roundw
                  case rel => exact ⟨m + 1, v + t2, by omega, by go_num, rfl, HV3, HB3, HF3⟩
                  case measure => simp [intOf]; omega
          · have hmn : m = R.length := by have := Hn2.out; omega
            have HN := hide (rt_some (nd := k) (l := l) (R := R) (s := v) (by rw [HP.out, ← hmn]; exact HV.out))
            clear hmn
            go_wp2
            go_ret2
            exact ⟨ret_tup2 HN.out.1.symm HN.out.2.symm, HB.out⟩
end Go.Proofs.Ytbkhejkncmgdeaa

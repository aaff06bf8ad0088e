/- NearestOf: both sides. -/
import Derived.Test.YtbhnaakknfienaaGreatDoorTownNe
namespace Go.Proofs.YtbhnaakknfienaaGreatDoor
open Go.RowKit
set_option linter.unusedVariables false

set_option maxRecDepth 100000 in
set_option maxHeartbeats 4000000 in
theorem implNearestOf_any (nd j : Int) (A : Option Addr) (n c : Nat) (l : List (Int × Int × Int)) (A2 : Option Addr) (n2 c2 : Nat) (N : List Int) (w : World) (hn : n = l.length) (hnc : n ≤ c) (hc : c ≤ maxLen) (hr : Rd w A (l.flatMap tcells)) (hn2 : n2 = N.length) (hm2 : n2 ≤ 1048576) (hr2 : Rd w A2 (N.map (Value.int .i64))) :
    Calls Tryz.prog 21 #[.agg #[.int .i64 nd, .slice A n c], .slice A2 n2 c2, .int .i64 j] w fun e w' => e = .returned (.tuple #[.int .i64 (nearN nd l N j), .int .i64 (nearT nd l N j), .bool (nearOk nd l N j)]) ∧ Below w.heap.size w w' := by
  have Hn := hide hn
  have Hr := hide hr
  have Hn2 := hide hn2
  have Hr2 := hide hr2
  have hm : n ≤ maxLen := Nat.le_trans hnc hc
  have HF0 := hide (Row.new w #[.int .i64 nd, .slice A n c] 26)
  have Q := hide (implisTown_any w.heap.size nd A n c l _ hn hm (hr.alloc _) HF0.out.1 (HF0.out.at 0 rfl) (HF0.out.at 1 rfl))
  have q14 := hide (fun W => inside_any (n2 : Int) 1 14 W)
  clear hn hr hnc hc hn2 hr2
  go_enter Tryz.func21, Tryz.ntmps21
  go_wp2_with fail
  refine Q.out.mono ?_
  rintro e w1 ⟨rfl, hq⟩
  have HF1 := hide (HF0.out.below hq)
  have HW1 : Hid (Below w.heap.size w w1) := hide (below_step (below_alloc (Below.refl _ _) _) hq)
  clear hq Q HF0
  have a0 := HF1.out.at 0 rfl
  have a1 := HF1.out.at 1 rfl
  have z0 := HF1.out.1
  cases ht : townB nd l with
  | false =>
    have HN := hide (near_no (nd := nd) (l := l) (N := N) (j := j) (by rw [nearP, goodB, ht]; rfl))
    clear ht
    go_wp2
    go_ret3
    exact ⟨ret_tup3 HN.out.1.symm HN.out.2.1.symm HN.out.2.2.symm, HW1.out⟩
  | true =>
    have HT := hide ht
    obtain ⟨k, rfl, hk⟩ := townB_ok ht
    have h1 := hk.lo
    have h2 := hk.hi
    have HK := hide hk
    clear ht hk
    have q1 := has_any w.heap.size (k : Int) j w1 (by omega) (by omega) z0 a0
    cases hj : nodeB k j with
    | false =>
      have HN := hide (near_no (nd := k) (l := l) (N := N) (j := j) (by rw [nearP, goodB, hj, Bool.and_false]; rfl))
      rw [hj] at q1
      clear hj
      go_wp2_with (go_at_call 36; ((with_reducible refine (q1).mono ?_); rintro e w' ⟨rfl, rfl⟩))
      go_ret3
      exact ⟨ret_tup3 HN.out.1.symm HN.out.2.1.symm HN.out.2.2.symm, HW1.out⟩
    | true =>
      have HJ := hide hj
      rw [hj] at q1
      have q2 := q14.out w1
      cases h14 : inB n2 1 14 with
      | false =>
        have HN := hide (near_no (nd := k) (l := l) (N := N) (j := j) (by rw [nearP, ← Hn2.out, h14, Bool.and_false]; rfl))
        rw [h14] at q2
        clear h14 hj
        go_wp2_with (first | (go_at_call 36; ((with_reducible refine (q1).mono ?_); rintro e w' ⟨rfl, rfl⟩)) | (go_at_call 55; ((with_reducible refine (q2).mono ?_); rintro e w' ⟨rfl, rfl⟩)))
        go_ret3
        exact ⟨ret_tup3 HN.out.1.symm HN.out.2.1.symm HN.out.2.2.symm, HW1.out⟩
      | true =>
        have H14 := hide h14
        rw [h14] at q2
        have q3 := nearAny_any w.heap.size (k : Int) A2 n2 c2 N w1 (by omega) (by omega) z0 a0 Hn2.out hm2 (Hr2.out.below HW1.out)
        cases hall : N.all (nodeB k) with
        | false =>
          have HN := hide (near_no (nd := k) (l := l) (N := N) (j := j) (by rw [nearP, hall, Bool.and_false]))
          rw [hall] at q3
          clear h14 hj hall
          go_wp2_with (first | (go_at_call 36; ((with_reducible refine (q1).mono ?_); rintro e w' ⟨rfl, rfl⟩)) | (go_at_call 55; ((with_reducible refine (q2).mono ?_); rintro e w' ⟨rfl, rfl⟩)) | (go_at_call 56; ((with_reducible refine (q3).mono ?_); rintro e w' ⟨rfl, rfl⟩)))
          go_ret3
          exact ⟨ret_tup3 HN.out.1.symm HN.out.2.1.symm HN.out.2.2.symm, HW1.out⟩
        | true =>
          have HALL := hide hall
          have HP : Hid (nearP k l N j = true) := hide (by rw [nearP, goodB, HT.out, HJ.out, ← Hn2.out, H14.out, hall]; rfl)
          have HR : Hid (nearR k l N j = nearK (timesF k l j.toNat) N N.length) := hide (by rw [nearR, HP.out]; rfl)
          rw [hall] at q3
          obtain ⟨y, rfl, hy⟩ := nodeB_ok hj
          clear h14 hj hall
          go_wp2_with (first | (go_at_call 36; ((with_reducible refine (q1).mono ?_); rintro e w' ⟨rfl, rfl⟩)) | (go_at_call 55; ((with_reducible refine (q2).mono ?_); rintro e w' ⟨rfl, rfl⟩)) | (go_at_call 56; ((with_reducible refine (q3).mono ?_); rintro e w' ⟨rfl, rfl⟩)))
          refine (times_any w.heap.size k n c y A l _ Hn.out (by have := Hn.out; have := HK.out.len; omega) h2 hy HK.out.fits (Hr.out.below HW1.out) a0 a1).mono ?_
          rintro e w3 ⟨rfl, ho, hq⟩
          have HO := hide ho
          have HB3 : Hid (Below w.heap.size w w3) := hide (below_step HW1.out hq)
          have HR' : Hid (nearR k l N y = nearK (timesF k l y) N N.length) := hide (by rw [HR.out]; rfl)
          have HS : Hid (∀ b, nearR k l N y = some b → nearN k l N y = b ∧ nearT k l N y = timesF k l y b.toNat ∧ nearOk k l N y = true) := hide (fun b h => near_some h)
          have HBD : Hid (∀ v, -1 ≤ timesF k l y v ∧ timesF k l y v ≤ 5000000) := hide (fun v => mid_bd (x := y) HK.out.fits HK.out.len h2 (F := []) (by simp) (by simp) v)
          clear ho hq a0 a1 z0 q1 q2 q3 HR
          generalize timesF k l y = D at *
          go_wp2_with fail
          go_loopw [10, 35] (fun b t wr => ∃ m : Nat, m ≤ n2 ∧ t = .int .i64 m ∧ Hid (b = .int .i64 ((nearK D N m).getD (-1))) ∧ Hid (OwnD wr w1.heap.size (w1.heap.size + 1) k D) ∧ Hid (Below w.heap.size w wr)) (fun _ t _ => n2 - (intOf t).toNat)
          case atStart => exact ⟨0, by omega, rfl, hide (by simp [nearK]), HO, HB3⟩
          case round =>
            obtain ⟨m, hm, rfl, HE, HO4, HB4⟩ := hrel
            clear HO HB3
            by_cases hlt : m < n2
            · obtain ⟨x, hx⟩ : ∃ x, N[m]? = some x := ⟨_, List.getElem?_eq_getElem (by rw [← Hn2.out]; exact hlt)⟩
              obtain ⟨b', off, rfl, hbs, c0⟩ := (Hr2.out.below HB4.out).get1 (k := m) (u := .int .i64 x) (by simp [hx])
              have hxk : nodeB k x = true := List.all_eq_true.1 HALL.out x (List.mem_of_getElem? hx)
              obtain ⟨xn, rfl, hxn⟩ := nodeB_ok hxk
              have HSU : Hid (nearK D N (m + 1) = nearS D (nearK D N m) (xn : Int)) := hide (nearK_succ hx)
              have d0 := HO4.out.cell hxn
              have hxi : (xn : Int) < (k : Int) := by omega
              obtain ⟨hb0, hb1⟩ := HBD.out xn
              have HINV := hide (nearK_inv D N m)
              clear hx hxk
              cases hst : nearK D N m with
              | none =>
                rw [hst] at HE HSU
                obtain rfl : u10 = .int .i64 (-1) := HE.out
                by_cases h0 : 0 ≤ D xn
                · have g0 : decide (0 ≤ D xn) = true := by simpa using h0
                  have HN : Hid (nearK D N (m + 1) = some (xn : Int)) := hide (by rw [HSU.out]; simp only [nearS, Int.toNat_natCast]; rw [if_pos h0])
                  clear HE HSU HINV hst
                  generalize D xn = dx at *
                  go_wp2_with fail
                  go_quiet (fail)
                  go_wp2
                  go_roundw
                  case rel => exact ⟨m + 1, by omega, by go_num, hide (by rw [HN.out]; rfl), hide (HO4.out.below (below_drewN (Below.refl _ _) _)), hide (below_drewN HB4.out _)⟩
                  case measure => simp [intOf]; omega
                · have g0 : decide (0 ≤ D xn) = false := by simpa using h0
                  have HN : Hid (nearK D N (m + 1) = none) := hide (by rw [HSU.out]; simp only [nearS, Int.toNat_natCast]; rw [if_neg h0])
                  clear HE HSU HINV hst
                  generalize D xn = dx at *
                  go_wp2_with fail
                  go_quiet (fail)
                  go_wp2
                  go_roundw
                  case rel => exact ⟨m + 1, by omega, by go_num, hide (by rw [HN.out]; rfl), hide (HO4.out.below (below_drewN (Below.refl _ _) _)), hide (below_drewN HB4.out _)⟩
                  case measure => simp [intOf]; omega
              | some b =>
                rw [hst] at HE HSU
                obtain ⟨hbm, hbf⟩ := HINV.out b hst
                obtain ⟨bn, rfl, hbn⟩ := nodeB_ok (List.all_eq_true.1 HALL.out b hbm)
                have e0 := HO4.out.cell hbn
                have hbi : (bn : Int) < (k : Int) := by omega
                have gb : decide ((bn : Int) < 0) = false := by simp
                obtain rfl : u10 = .int .i64 (bn : Int) := HE.out
                by_cases h0 : 0 ≤ D xn
                · have g0 : decide (0 ≤ D xn) = true := by simpa using h0
                  by_cases h3 : D xn < D bn
                  · have g3 : decide (D xn < D bn) = true := by simpa using h3
                    have HN : Hid (nearK D N (m + 1) = some (xn : Int)) := hide (by rw [HSU.out]; simp only [nearS, Int.toNat_natCast]; rw [if_pos ⟨h0, h3⟩])
                    clear HE HSU HINV hst hbm hbf
                    generalize D xn = dx at *
                    generalize D bn = db at *
                    go_wp2_with fail
                    go_quiet (fail)
                    go_wp2
                    go_roundw
                    case rel => exact ⟨m + 1, by omega, by go_num, hide (by rw [HN.out]; rfl), hide (HO4.out.below (below_drewN (Below.refl _ _) _)), hide (below_drewN HB4.out _)⟩
                    case measure => simp [intOf]; omega
                  · have g3 : decide (D xn < D bn) = false := by simpa using h3
                    have HN : Hid (nearK D N (m + 1) = some (bn : Int)) := hide (by rw [HSU.out]; simp only [nearS, Int.toNat_natCast]; rw [if_neg (fun h => h3 h.2)])
                    clear HE HSU HINV hst hbm hbf
                    generalize D xn = dx at *
                    generalize D bn = db at *
                    go_wp2_with fail
                    go_quiet (fail)
                    go_wp2
                    go_roundw
                    case rel => exact ⟨m + 1, by omega, by go_num, hide (by rw [HN.out]; rfl), hide (HO4.out.below (below_drewN (Below.refl _ _) _)), hide (below_drewN HB4.out _)⟩
                    case measure => simp [intOf]; omega
                · have g0 : decide (0 ≤ D xn) = false := by simpa using h0
                  have HN : Hid (nearK D N (m + 1) = some (bn : Int)) := hide (by rw [HSU.out]; simp only [nearS, Int.toNat_natCast]; rw [if_neg (fun h => h0 h.1)])
                  clear HE HSU HINV hst hbm hbf
                  generalize D xn = dx at *
                  generalize D bn = db at *
                  go_wp2_with fail
                  go_quiet (fail)
                  go_wp2
                  go_roundw
                  case rel => exact ⟨m + 1, by omega, by go_num, hide (by rw [HN.out]; rfl), hide (HO4.out.below (below_drewN (Below.refl _ _) _)), hide (below_drewN HB4.out _)⟩
                  case measure => simp [intOf]; omega
            · have hmn : m = N.length := by have := Hn2.out; omega
              rw [hmn] at HE
              rw [← HR'.out] at HE
              have HINV := hide (fun b (h : nearR k l N y = some b) => nearK_inv D N N.length b (by rw [← HR'.out]; exact h))
              clear hmn HR'
              cases hst : nearR k l N y with
              | none =>
                have HN := hide (near_none hst)
                rw [hst] at HE
                obtain rfl : u10 = .int .i64 (-1) := HE.out
                clear HE hst
                go_wp2
                go_ret3
                exact ⟨ret_tup3 HN.out.1.symm HN.out.2.1.symm HN.out.2.2.symm, HB4.out⟩
              | some b =>
                have HN := hide (HS.out b hst)
                rw [hst] at HE
                obtain ⟨hbm, hbf⟩ := HINV.out b hst
                obtain ⟨bn, rfl, hbn⟩ := nodeB_ok (List.all_eq_true.1 HALL.out b hbm)
                have e0 := HO4.out.cell hbn
                have hbi : (bn : Int) < (k : Int) := by omega
                have gb : decide ((bn : Int) < 0) = false := by simp
                obtain rfl : u10 = .int .i64 (bn : Int) := HE.out
                clear HE hst hbm
                have HNT : Hid (nearT k l N y = D bn) := hide (by rw [HN.out.2.1]; rfl)
                generalize D bn = db at *
                go_wp2_with fail
                go_quiet (fail)
                go_wp2
                go_ret3
                exact ⟨ret_tup3 HN.out.1.symm HNT.out.symm HN.out.2.2.symm, below_drewN HB4.out _⟩

set_option maxRecDepth 100000 in
set_option maxHeartbeats 4000000 in
theorem specNearestOf_any (nd j : Int) (A : Option Addr) (n c : Nat) (l : List (Int × Int × Int)) (A2 : Option Addr) (n2 c2 : Nat) (N : List Int) (w : World) (hn : n = l.length) (hnc : n ≤ c) (hc : c ≤ maxLen) (hr : Rd w A (l.flatMap tcells)) (hn2 : n2 = N.length) (hm2 : n2 ≤ 1048576) (hr2 : Rd w A2 (N.map (Value.int .i64))) :
    Calls Tryz.prog 22 #[.agg #[.int .i64 nd, .slice A n c], .slice A2 n2 c2, .int .i64 j] w fun e w' => e = .returned (.tuple #[.int .i64 (nearN nd l N j), .int .i64 (nearT nd l N j), .bool (nearOk nd l N j)]) ∧ Below w.heap.size w w' := by
  have Hn := hide hn
  have Hr := hide hr
  have Hn2 := hide hn2
  have Hr2 := hide hr2
  have hm : n ≤ maxLen := Nat.le_trans hnc hc
  have HF0 := hide (Row.new w #[.int .i64 nd, .slice A n c] 26)
  have Q := hide (toNode_any nd j A n c l _ hn hm (hr.alloc (.cells #[.int .i64 nd, .slice A n c] 26)))
  have q14 := hide (fun W => l1In_any (n2 : Int) 1 14 W)
  clear hn hr hnc hc hn2 hr2
  go_enter Tryz.func22, Tryz.ntmps22
  go_wp2_with fail
  refine Q.out.mono ?_
  rintro e w1 ⟨rfl, hq⟩
  have HF1 := hide (HF0.out.below hq)
  have HW1 : Hid (Below w.heap.size w w1) := hide (below_step (below_alloc (Below.refl _ _) _) hq)
  clear hq Q HF0
  have a0 := HF1.out.at 0 rfl
  have a1 := HF1.out.at 1 rfl
  cases ht : goodB nd l j with
  | false =>
    have HN := hide (near_no (nd := nd) (l := l) (N := N) (j := j) (by rw [nearP, ht]; rfl))
    clear ht
    go_wp2
    go_ret3
    exact ⟨ret_tup3 HN.out.1.symm HN.out.2.1.symm HN.out.2.2.symm, HW1.out⟩
  | true =>
    have HT := hide ht
    obtain ⟨k, y, rfl, rfl, hy, hk⟩ := goodB_ok ht
    have h1 := hk.lo
    have h2 := hk.hi
    have HK := hide hk
    clear ht hk
    have q2 := q14.out w1
    cases h14 : inB n2 1 14 with
    | false =>
      have HN := hide (near_no (nd := k) (l := l) (N := N) (j := y) (by rw [nearP, ← Hn2.out, h14, Bool.and_false]; rfl))
      rw [h14] at q2
      clear h14
      go_wp2_with (go_at_call 59; ((with_reducible refine (q2).mono ?_); rintro e w' ⟨rfl, rfl⟩))
      go_ret3
      exact ⟨ret_tup3 HN.out.1.symm HN.out.2.1.symm HN.out.2.2.symm, HW1.out⟩
    | true =>
      have H14 := hide h14
      rw [h14] at q2
      have q3 : Calls Tryz.prog 60 #[.slice A2 n2 c2, .int .i64 0, .int .i64 ((k : Int) - 1)] w1 fun e w' => e = .returned (.bool (N.all (nodeB k))) ∧ w1 = w' := l1All_any 0 ((k : Int) - 1) A2 n2 c2 N w1 Hn2.out hm2 (Hr2.out.below HW1.out)
      cases hall : N.all (nodeB k) with
      | false =>
        have HN := hide (near_no (nd := k) (l := l) (N := N) (j := y) (by rw [nearP, hall, Bool.and_false]))
        rw [hall] at q3
        clear h14 hall
        go_wp2_with (first | (go_at_call 59; ((with_reducible refine (q2).mono ?_); rintro e w' ⟨rfl, rfl⟩)) | (go_at_call 60; ((with_reducible refine (q3).mono ?_); rintro e w' ⟨rfl, rfl⟩)))
        go_ret3
        exact ⟨ret_tup3 HN.out.1.symm HN.out.2.1.symm HN.out.2.2.symm, HW1.out⟩
      | true =>
        have HALL := hide hall
        have HP : Hid (nearP k l N y = true) := hide (by rw [nearP, HT.out, ← Hn2.out, H14.out, hall]; rfl)
        have HR' : Hid (nearR k l N y = nearK (timesF k l y) N N.length) := hide (by rw [nearR, HP.out]; rfl)
        rw [hall] at q3
        clear h14 hall
        go_wp2_with (first | (go_at_call 59; ((with_reducible refine (q2).mono ?_); rintro e w' ⟨rfl, rfl⟩)) | (go_at_call 60; ((with_reducible refine (q3).mono ?_); rintro e w' ⟨rfl, rfl⟩)))
        refine (toTimes_any k n c y A l _ Hn.out (by have := Hn.out; have := HK.out.len; omega) h2 hy HK.out.fits (Hr.out.below HW1.out)).mono ?_
        rintro e w3 ⟨rfl, ho, hq⟩
        have HO4 := hide ho
        have HB4 : Hid (Below w.heap.size w w3) := hide (below_step HW1.out hq)
        have HS : Hid (∀ b, nearR k l N y = some b → nearN k l N y = b ∧ nearT k l N y = timesF k l y b.toNat ∧ nearOk k l N y = true) := hide (fun b h => near_some h)
        have HBD : Hid (∀ v, -1 ≤ timesF k l y v ∧ timesF k l y v ≤ 5000000) := hide (fun v => mid_bd (x := y) HK.out.fits HK.out.len h2 (F := []) (by simp) (by simp) v)
        have Hr3 := hide (Hr2.out.below HB4.out)
        clear ho hq a0 a1 q2 q3
        generalize timesF k l y = D at *
        go_wp2_with fail
        go_loop [10, 11, 37] (fun b s t => ∃ m : Nat, m ≤ n2 ∧ t = .int .i64 m ∧ Hid (b = .int .i64 ((nearK D N m).getD 0) ∧ s = .int .i64 (match nearK D N m with | some b => D b.toNat | none => -1))) (fun _ _ t => n2 - (intOf t).toNat)
        case atStart => exact ⟨0, by omega, rfl, hide ⟨by simp [nearK], by simp [nearK]⟩⟩
        case round =>
          obtain ⟨m, hm, rfl, HE⟩ := hrel
          by_cases hlt : m < n2
          · obtain ⟨x, hx⟩ : ∃ x, N[m]? = some x := ⟨_, List.getElem?_eq_getElem (by rw [← Hn2.out]; exact hlt)⟩
            obtain ⟨b', off, rfl, hbs, c0⟩ := Hr3.out.get1 (k := m) (u := .int .i64 x) (by simp [hx])
            have hxk : nodeB k x = true := List.all_eq_true.1 HALL.out x (List.mem_of_getElem? hx)
            obtain ⟨xn, rfl, hxn⟩ := nodeB_ok hxk
            have HSU : Hid (nearK D N (m + 1) = nearS D (nearK D N m) (xn : Int)) := hide (nearK_succ hx)
            have d0 := HO4.out.cell hxn
            have hxi : (xn : Int) < (k : Int) := by omega
            obtain ⟨hb0, hb1⟩ := HBD.out xn
            have HINV := hide (nearK_inv D N m)
            clear hx hxk
            cases hst : nearK D N m with
            | none =>
              rw [hst] at HE HSU
              obtain rfl : u10 = .int .i64 0 := HE.out.1
              obtain rfl : u11 = .int .i64 (-1) := HE.out.2
              by_cases h0 : 0 ≤ D xn
              · have g0 : decide (0 ≤ D xn) = true := by simpa using h0
                have HN : Hid (nearK D N (m + 1) = some (xn : Int)) := hide (by rw [HSU.out]; simp only [nearS, Int.toNat_natCast]; rw [if_pos h0])
                have HDX := hide (show D xn = D (xn : Int).toNat from rfl)
                clear HE HSU HINV hst
                generalize hdx : D xn = dx at *
                have Hdx := hide hdx
                clear hdx
                go_wp2
                go_round
                case rel => exact ⟨m + 1, by omega, by go_num, hide (by rw [HN.out]; exact ⟨rfl, by simp only [Int.toNat_natCast]; rw [Hdx.out]⟩)⟩
                case measure => simp [intOf]; omega
              · have g0 : decide (0 ≤ D xn) = false := by simpa using h0
                have HN : Hid (nearK D N (m + 1) = none) := hide (by rw [HSU.out]; simp only [nearS, Int.toNat_natCast]; rw [if_neg h0])
                clear HE HSU HINV hst
                generalize D xn = dx at *
                go_wp2
                go_round
                case rel => exact ⟨m + 1, by omega, by go_num, hide (by rw [HN.out]; exact ⟨rfl, rfl⟩)⟩
                case measure => simp [intOf]; omega
            | some b =>
              rw [hst] at HE HSU
              obtain ⟨hbm, hbf⟩ := HINV.out b hst
              obtain ⟨bn, rfl, hbn⟩ := nodeB_ok (List.all_eq_true.1 HALL.out b hbm)
              obtain ⟨hd0, hd1⟩ := HBD.out bn
              obtain rfl : u10 = .int .i64 (bn : Int) := HE.out.1
              obtain rfl : u11 = .int .i64 (D bn) := HE.out.2
              simp only [Int.toNat_natCast] at hbf
              have gb : decide (D bn < 0) = false := by simpa using hbf
              by_cases h0 : 0 ≤ D xn
              · have g0 : decide (0 ≤ D xn) = true := by simpa using h0
                by_cases h3 : D xn < D bn
                · have g3 : decide (D xn < D bn) = true := by simpa using h3
                  have HN : Hid (nearK D N (m + 1) = some (xn : Int)) := hide (by rw [HSU.out]; simp only [nearS, Int.toNat_natCast]; rw [if_pos ⟨h0, h3⟩])
                  clear HE HSU HINV hst hbm
                  generalize hdx : D xn = dx at *
                  have Hdx := hide hdx
                  clear hdx
                  generalize D bn = db at *
                  go_wp2
                  go_round
                  case rel => exact ⟨m + 1, by omega, by go_num, hide (by rw [HN.out]; exact ⟨rfl, by simp only [Int.toNat_natCast]; rw [Hdx.out]⟩)⟩
                  case measure => simp [intOf]; omega
                · have g3 : decide (D xn < D bn) = false := by simpa using h3
                  have HN : Hid (nearK D N (m + 1) = some (bn : Int)) := hide (by rw [HSU.out]; simp only [nearS, Int.toNat_natCast]; rw [if_neg (fun h => h3 h.2)])
                  clear HE HSU HINV hst hbm
                  generalize D xn = dx at *
                  generalize hdx : D bn = db at *
                  have Hdx := hide hdx
                  clear hdx
                  go_wp2
                  go_round
                  case rel => exact ⟨m + 1, by omega, by go_num, hide (by rw [HN.out]; exact ⟨rfl, by simp only [Int.toNat_natCast]; rw [Hdx.out]⟩)⟩
                  case measure => simp [intOf]; omega
              · have g0 : decide (0 ≤ D xn) = false := by simpa using h0
                have HN : Hid (nearK D N (m + 1) = some (bn : Int)) := hide (by rw [HSU.out]; simp only [nearS, Int.toNat_natCast]; rw [if_neg (fun h => h0 h.1)])
                clear HE HSU HINV hst hbm
                generalize D xn = dx at *
                generalize hdx : D bn = db at *
                have Hdx := hide hdx
                clear hdx
                go_wp2
                go_round
                case rel => exact ⟨m + 1, by omega, by go_num, hide (by rw [HN.out]; exact ⟨rfl, by simp only [Int.toNat_natCast]; rw [Hdx.out]⟩)⟩
                case measure => simp [intOf]; omega
          · have hmn : m = N.length := by have := Hn2.out; omega
            rw [hmn] at HE
            rw [← HR'.out] at HE
            have HINV := hide (fun b (h : nearR k l N y = some b) => nearK_inv D N N.length b (by rw [← HR'.out]; exact h))
            clear hmn HR'
            cases hst : nearR k l N y with
            | none =>
              have HN := hide (near_none hst)
              rw [hst] at HE
              obtain rfl : u10 = .int .i64 0 := HE.out.1
              obtain rfl : u11 = .int .i64 (-1) := HE.out.2
              clear HE hst
              go_wp2
              go_ret3
              exact ⟨ret_tup3 HN.out.1.symm HN.out.2.1.symm HN.out.2.2.symm, HB4.out⟩
            | some b =>
              have HN := hide (HS.out b hst)
              rw [hst] at HE
              obtain ⟨hbm, hbf⟩ := HINV.out b hst
              obtain ⟨bn, rfl, hbn⟩ := nodeB_ok (List.all_eq_true.1 HALL.out b hbm)
              obtain rfl : u10 = .int .i64 (bn : Int) := HE.out.1
              obtain rfl : u11 = .int .i64 (D bn) := HE.out.2
              simp only [Int.toNat_natCast] at hbf
              have gb : decide (D bn < 0) = false := by simpa using hbf
              clear HE hst hbm
              have HNT : Hid (nearT k l N y = D bn) := hide (by rw [HN.out.2.1]; rfl)
              generalize D bn = db at *
              go_wp2
              go_ret3
              exact ⟨ret_tup3 HN.out.1.symm HNT.out.symm HN.out.2.2.symm, HB4.out⟩
end Go.Proofs.YtbhnaakknfienaaGreatDoor

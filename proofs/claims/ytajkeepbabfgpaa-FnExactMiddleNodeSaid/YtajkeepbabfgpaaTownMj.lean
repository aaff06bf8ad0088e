/- MiddleNode: the program's. -/
import Derived.Test.YtajkeepbabfgpaaTownMi
namespace Go.Proofs.Ytajkeepbabfgpaa
open Go.RowKit
set_option linter.unusedVariables false

set_option maxRecDepth 100000 in
set_option maxHeartbeats 4000000 in
theorem implMiddleNode_any (nd : Int) (A : Option Addr) (n c : Nat) (l : List (Int × Int × Int)) (w : World) (hn : n = l.length) (hnc : n ≤ c) (hc : c ≤ maxLen) (hr : Rd w A (l.flatMap tcells)) :
    Calls Try.prog 44 #[.agg #[.int .i64 nd, .slice A n c]] w fun e w' => e = .returned (.tuple #[.int .i64 (middleV nd l), .int .i64 (middleW nd l), .bool (middleOk nd l)]) ∧ Below w.heap.size w w' := by
  have Hn := hide hn
  have Hr := hide hr
  have hm : n ≤ maxLen := Nat.le_trans hnc hc
  have HF0 := hide (Row.new w #[.int .i64 nd, .slice A n c] 29)
  have Q := hide (implisTown_any w.heap.size nd A n c l _ hn hm (hr.alloc _) HF0.out.1 (HF0.out.at 0 rfl) (HF0.out.at 1 rfl))
  clear hn hr hnc hc
  go_enter Try.func44, Try.ntmps44
  go_wp2_with fail
  refine Q.out.mono ?_
  rintro e w1 ⟨rfl, hq⟩
  have HF1 := hide (HF0.out.below hq)
  have HW1 : Hid (Below w.heap.size w w1) := hide (below_step (below_alloc (Below.refl _ _) _) hq)
  clear hq Q HF0
  have a0 := HF1.out.at 0 rfl
  have a1 := HF1.out.at 1 rfl
  cases ht : townB nd l with
  | false =>
    have HN := hide (middle_no (nd := nd) (l := l) (by rw [middleOk, ht]; rfl))
    have HM : Hid (middleOk nd l = false) := hide (by rw [middleOk, ht]; rfl)
    clear ht
    go_wp2
    go_ret3
    exact ⟨ret_tup3 HN.out.1.symm HN.out.2.symm HM.out.symm, HW1.out⟩
  | true =>
    have HT := hide ht
    obtain ⟨k, rfl, hk⟩ := townB_ok ht
    have h1 := hk.lo
    have h2 := hk.hi
    have HK := hide hk
    have HM0 : Hid (∀ b, allFin (timesF k l 0) k = b → middleOk k l = b) := hide (fun b hb => by rw [middleOk, ht]; show decide (0 ≤ worstF k l 0) = b; rw [worst_fin]; exact hb)
    have HML := hide (fun n hn => midF_lt (worstF k l) n hn)
    have HMS : Hid (∀ n, midF (worstF k l) (n + 1) = if worstF k l n < worstF k l (midF (worstF k l) n) then n else midF (worstF k l) n) := hide (fun n => rfl)
    have HWF : Hid (∀ x, allFin (timesF k l x) k = true → worstF k l x = maxN (timesF k l x) (k - 1)) := hide (fun x h => by
      rw [worstF, h, maxN_Z (k - 1) (fun v hv => allFin_iff.1 h v (by omega)), show k - 1 + 1 = k by omega]
      rfl)
    have HFA := hide (fun h x hx => fin_all HK.out.fits h1 h x hx)
    have HWB := hide (fun x hx => worst_bd HK.out (x := x) hx)
    have HYF := hide (fun h => middle_yes (k := k) (l := l) h)
    clear ht hk
    generalize worstF k l = W at *
    go_wp2_with fail
    clear a0 a1
    go_loopw [5, 6, 14] (fun b s t wr => ∃ m : Nat, m ≤ k ∧ t = .int .i64 m ∧ Hid (m = 0 ∧ b = .int .i64 (-1) ∧ s = .int .i64 0 ∨ 1 ≤ m ∧ b = .int .i64 (midF (W) m : Nat) ∧ s = .int .i64 (W (midF (W) m))) ∧ Hid (Row wr w.heap.size [.int .i64 (k : Int), .slice A n c]) ∧ Hid (Below w.heap.size w wr) ∧ Hid (1 ≤ m → allFin (timesF k l 0) k = true)) (fun _ _ t _ => k - (intOf t).toNat)
    case atStart => exact ⟨0, by omega, rfl, hide (.inl ⟨rfl, rfl, rfl⟩), HF1, HW1, hide (fun h => by omega)⟩
    case round =>
      obtain ⟨m, hm, rfl, HS, HF, HB, HA⟩ := hrel
      clear HF1 HW1
      by_cases hlt : m < k
      · have a0 := HF.out.at 0 rfl
        have a1 := HF.out.at 1 rfl
        go_wp2_with fail
        refine (times_any w.heap.size k n c m A l _ Hn.out (by have := Hn.out; have := HK.out.len; omega) h2 hlt HK.out.fits (Hr.out.below HB.out) a0 a1).mono ?_
        rintro e w3 ⟨rfl, ho, hq⟩
        have HO := hide ho
        have HF3 := hide (HF.out.below hq)
        have HB3 : Hid (Below w.heap.size w w3) := hide (below_step HB.out hq)
        clear ho hq a0 a1 HF HB
        have hmf := minN_fin (d := timesF k l m) h1
        have QM := hide (minInts_any _ _ k (timesF k l m) w3 h1 h2 HO.out)
        have QX := hide (maxInts_any _ _ k (timesF k l m) w3 h1 h2 HO.out)
        cases hfin : allFin (timesF k l m) k with
        | false =>
          have HM : Hid (middleOk k l = false) := hide (HM0.out false (by
            cases h : allFin (timesF k l 0) k with
            | false => rfl
            | true => rw [HFA.out h m hlt] at hfin; cases hfin))
          have HN := hide (middle_no HM.out)
          rw [hfin] at hmf
          have hmf' : decide (minN (timesF k l m) (k - 1) < 0) = true := hmf
          clear hmf hfin HM0 HML HMS HWF HFA HWB
          generalize minN (timesF k l m) (k - 1) = v at *
          go_wp2_with (go_at_call 86; ((with_reducible refine (QM.out).mono ?_); rintro e w' ⟨rfl, rfl⟩))
          go_ret3
          exact ⟨ret_tup3 HN.out.1.symm HN.out.2.symm HM.out.symm, HB3.out⟩
        | true =>
          rw [hfin] at hmf
          have hmf' : decide (minN (timesF k l m) (k - 1) < 0) = false := hmf
          have hwe := HWF.out m hfin
          rw [← hwe] at QX
          have HA2 : Hid (1 ≤ m + 1 → allFin (timesF k l 0) k = true) := hide (fun _ => by
            by_cases h : 1 ≤ m
            · exact HA.out h
            · rw [show (0 : Nat) = m by omega]; exact hfin)
          have hwm := HWB.out m hlt
          have HNX := hide (HMS.out m)
          clear hmf hfin hwe HM0 HMS HWF HFA
          generalize minN (timesF k l m) (k - 1) = v at *
          rcases HS.out with ⟨hm0, rfl, rfl⟩ | ⟨hm1, rfl, rfl⟩
          · have HE : Hid (midF (W) (m + 1) = m) := hide (by rw [HNX.out]; subst hm0; simp [midF])
            clear HNX HS
            generalize hWm : W m = wm at *
            have HWm := hide hWm
            clear hWm hm0
            go_wp2_with (first | (go_at_call 86; ((with_reducible refine (QM.out).mono ?_); rintro e w' ⟨rfl, rfl⟩)) | (go_at_call 87; ((with_reducible refine (QX.out).mono ?_); rintro e w' ⟨rfl, rfl⟩)))
            go_roundw
            case rel => exact ⟨m + 1, by omega, by go_num, hide (.inr ⟨by omega, by rw [HE.out], by rw [HE.out, HWm.out]⟩), HF3, HB3, HA2⟩
            case measure => simp [intOf]; omega
          · have hb := HML.out m hm1
            have hwb := HWB.out (midF (W) m) (by omega)
            clear HS HWB HML
            generalize midF W m = bst at *
            generalize hWm : W m = wm at *
            generalize hWb : W bst = wb at *
            have HWm := hide hWm
            have HWb := hide hWb
            clear hWm hWb
            by_cases hc : wm < wb
            · have hc' : decide (wm < wb) = true := by simpa using hc
              have HE : Hid (midF W (m + 1) = m) := hide (by rw [HNX.out, if_pos hc])
              go_wp2_with (first | (go_at_call 86; ((with_reducible refine (QM.out).mono ?_); rintro e w' ⟨rfl, rfl⟩)) | (go_at_call 87; ((with_reducible refine (QX.out).mono ?_); rintro e w' ⟨rfl, rfl⟩)))
              go_roundw
              case rel => exact ⟨m + 1, by omega, by go_num, hide (.inr ⟨by omega, by rw [HE.out], by rw [HE.out, HWm.out]⟩), HF3, HB3, HA2⟩
              case measure => simp [intOf]; omega
            · have hc' : decide (wm < wb) = false := by simpa using hc
              have HE : Hid (midF W (m + 1) = bst) := hide (by rw [HNX.out, if_neg hc])
              go_wp2_with (first | (go_at_call 86; ((with_reducible refine (QM.out).mono ?_); rintro e w' ⟨rfl, rfl⟩)) | (go_at_call 87; ((with_reducible refine (QX.out).mono ?_); rintro e w' ⟨rfl, rfl⟩)))
              go_roundw
              case rel => exact ⟨m + 1, by omega, by go_num, hide (.inr ⟨by omega, by rw [HE.out], by rw [HE.out, HWb.out]⟩), HF3, HB3, HA2⟩
              case measure => simp [intOf]; omega
      · have hmk : m = k := by omega
        subst hmk
        have HM : Hid (middleOk m l = true) := hide (HM0.out true (HA.out h1))
        have HY := hide (HYF.out HM.out)
        rcases HS.out with ⟨hm0, rfl, rfl⟩ | ⟨hm1, rfl, rfl⟩
        · omega
        · clear HS
          go_wp2
          go_ret3
          exact ⟨ret_tup3 HY.out.1.symm HY.out.2.symm HM.out.symm, HB.out⟩
end Go.Proofs.Ytajkeepbabfgpaa

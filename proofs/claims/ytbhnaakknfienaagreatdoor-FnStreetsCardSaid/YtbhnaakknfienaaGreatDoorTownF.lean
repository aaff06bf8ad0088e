/- Towns: whether they are valid: the reference (not whole yet). -/
import Derived.Test.YtbhnaakknfienaaGreatDoorTownE
namespace Go.Proofs.YtbhnaakknfienaaGreatDoor
open Go.RowKit
set_option linter.unusedVariables false

theorem step_of {B : Nat} {a wr w1 : World} {o : Obj} (hb : Below B a wr) (hB : B ≤ wr.heap.size) (h : Below (wr.alloc o).heap.size (wr.alloc o) w1) : Below B a w1 := (hb.alloc hB o).trans (h.mono (by simp; omega))

set_option maxHeartbeats 4000000 in
theorem toGood_any (nd : Int) (A : Option Addr) (n c : Nat) (l : List (Int × Int × Int)) (w : World) (hn : n = l.length) (hm : n ≤ maxLen) (hr : Rd w A (l.flatMap tcells)) :
    Calls Tryz.prog 44 #[.agg #[.int .i64 nd, .slice A n c]] w fun e w' => e = .returned (.bool (townB nd l)) ∧ Below w.heap.size w w' := by
  unfold maxLen at hm
  have Hn := hide hn
  have Hr := hide hr
  have q := fun W => l1In_any nd 1 14 W
  clear hn hr
  cases hv : inB nd 1 14 with
  | false =>
    have HV := hide hv
    simp only [hv] at q
    clear hv
    go_enter Tryz.func44, Tryz.ntmps44
    go_wp2_with (go_at_call 59; ((with_reducible refine (q _).mono ?_); rintro e w' ⟨rfl, rfl⟩))
    go_ret
    exact ⟨ret_bool (by rw [townB, HV.out]; rfl), (by repeat (first | exact Below.refl _ _ | refine below_step ?_ (by assumption) | refine below_step ?_ (Later.below _) | refine below_alloc ?_ _ | refine Below.drew ?_ | refine Below.setCell ?_ (by first | (simp; done) | (simp; omega)) _))⟩
  | true =>
    have HV := hide hv
    obtain ⟨hnd0, hnd1⟩ := inB_iff.1 hv
    simp only [hv] at q
    clear hv
    by_cases h40 : n ≤ 40
    · have H40 := hide (show decide (l.length ≤ 40) = true by rw [← show n = l.length from Hn.out]; simpa using h40)
      go_enter Tryz.func44, Tryz.ntmps44
      go_wp2_with (go_at_call 59; ((with_reducible refine (q _).mono ?_); rintro e w' ⟨rfl, rfl⟩))
      clear q
      go_loopw [18] (fun t wr => ∃ k : Nat, k ≤ n ∧ t = .int .i64 k ∧ Hid (∀ i, i < k → stepB (fitB nd) befB l i = true) ∧ Below (w.heap.size + 1) (w.alloc (.cells #[.int .i64 nd, .slice A n c] 26)) wr) (fun t _ => n - (intOf t).toNat)
      case atStart => exact ⟨0, by omega, rfl, hide (fun i hi => absurd hi (by omega)), Below.refl _ _⟩
      case round =>
        obtain ⟨k, hk, rfl, HA, hb⟩ := hrel
        have hcc0 := (hb.cell (p := ⟨w.heap.size, 0, none⟩) (by simp)).trans ((Row.new _ _ _).2.1 0 (.int .i64 nd) rfl)
        have hcc1 := (hb.cell (p := ⟨w.heap.size, 1, none⟩) (by simp)).trans ((Row.new _ _ _).2.1 1 (.slice A n c) rfl)
        have hbz : w.heap.size < wr.heap.size := Nat.lt_of_lt_of_le (by simp) hb.size
        have hbw : Below w.heap.size w wr := (below_alloc (Below.refl _ _) _).trans (hb.mono (by omega))
        by_cases hlt : k < n
        · obtain ⟨⟨x0, x1, x2⟩, hh⟩ : ∃ h, l[k]? = some h := ⟨_, List.getElem?_eq_getElem (by rw [← Hn.out]; exact hlt)⟩
          obtain ⟨b, off, rfl, hbs, c0, c1, c2⟩ := (Hr.out.below hbw).get3 (fun _ => rfl) hh rfl
          have Hh := hide hh
          clear hh
          dsimp only at c0 c1 c2
          have hbs1 : b < wr.heap.size + 1 := by omega
          have Q := hide (fun W => toStreetB_any nd x0 x1 x2 W hnd0 hnd1)
          cases hx : fitB nd (x0, x1, x2) with
          | false =>
            have HS := hide (stepB_bad (p := fitB nd) (r := befB) Hh.out hx)
            rw [fit_str] at hx
            cases hs : strB nd (x0, x1, x2) with
            | false =>
              simp only [hs] at Q
              clear hx hs
              go_wp2_with fail
              refine wp_region_later (by kernel_rfl) (by kernel_rfl) ?_
              repeat (go_big_quiet_step (first | (go_at_call 51; exact calls_later (Q.out _)) | (go_at_call 54; exact calls_later (toBefore_any _ _ _ _ _ _ _))))
              refine wpQuiet_nil ?_
              refine later_intro fun w1 hb1 => ?_
              go_wp2
              go_ret
              exact ⟨ret_bool (by rw [townB, streetsB, chainB_false HS.out, Bool.and_false]), below_step (below_alloc hbw _) hb1⟩
            | true =>
              have hgt : x1 < x0 := by simpa [hs] using hx
              have hgt' : decide (x1 < x0) = true := by simpa using hgt
              simp only [hs] at Q
              clear hx hs
              go_wp2_with fail
              refine wp_region_later (by kernel_rfl) (by kernel_rfl) ?_
              repeat (go_big_quiet_step (first | (go_at_call 51; exact calls_later (Q.out _)) | (go_at_call 54; exact calls_later (toBefore_any _ _ _ _ _ _ _))))
              refine wpQuiet_nil ?_
              refine later_intro fun w1 hb1 => ?_
              go_wp2
              go_ret
              exact ⟨ret_bool (by rw [townB, streetsB, chainB_false HS.out, Bool.and_false]), below_step (below_alloc hbw _) hb1⟩
          | true =>
            have Hx := hide hx
            have hx2 := hx
            rw [fit_str, Bool.and_eq_true] at hx2
            have hgt : decide (x1 < x0) = false := by simpa using hx2.2
            simp only [hx2.1] at Q
            clear hx hx2
            by_cases h0 : k = 0
            · have HS := hide (show stepB (fitB nd) befB l k = true by subst h0; rw [stepB_zero Hh.out]; exact Hx.out)
              have H0 := hide h0
              have e3 : decide ((0 : Int) < (k : Int)) = false := by simp; omega
              have e3' : decide (0 < k) = false := by simp; omega
              clear h0
              go_wp2_with fail
              refine wp_region_later (by kernel_rfl) (by kernel_rfl) ?_
              repeat (go_big_quiet_step (first | (go_at_call 51; exact calls_later (Q.out _)) | (go_at_call 54; exact calls_later (toBefore_any _ _ _ _ _ _ _))))
              refine wpQuiet_nil ?_
              refine later_intro fun w1 hb1 => ?_
              go_wp2
              go_roundw
              case rel => exact ⟨k + 1, by omega, by go_num, hide (fun i hi => by rw [show i = k by have := H0.out; omega]; exact HS.out), step_of hb hbz hb1⟩
              case measure => simp [intOf]; omega
            · obtain ⟨j, hj⟩ : ∃ j, k = j + 1 := ⟨k - 1, by omega⟩
              obtain ⟨⟨y0, y1, y2⟩, hy⟩ : ∃ h, l[j]? = some h := ⟨_, List.getElem?_eq_getElem (by rw [← Hn.out]; omega)⟩
              obtain ⟨b', off', hA', hbs', d0, d1, d2⟩ := (Hr.out.below hbw).get3 (fun _ => rfl) hy rfl
              injection hA' with hA'
              injection hA' with hA1 hA2
              subst hA1
              subst hA2
              dsimp only at d0 d1 d2
              have HS := hide (show stepB (fitB nd) befB l k = befB (y0, y1, y2) (x0, x1, x2) by subst hj; rw [stepB_succ Hh.out hy, Hx.out, Bool.true_and])
              have e1 : IntKind.i64.wrap ((k : Int) - 1) = (k : Int) - 1 := IntWalk.i64_in _ (by omega)
              have e2 : ((k : Int) - 1).toNat = j := by omega
              have e3 : (0 : Int) < (k : Int) := by omega
              have e3' : 0 < k := by omega
              have e4 : (k : Int) - 1 < (n : Int) := by omega
              have e5 : (0 : Int) ≤ (k : Int) - 1 := by omega
              have Hj := hide hj
              clear hj h0 hy
              cases hc : befB (y0, y1, y2) (x0, x1, x2) with
              | false =>
                have HC := hide hc
                go_wp2_with fail
                refine wp_region_later (by kernel_rfl) (by kernel_rfl) ?_
                repeat (go_big_quiet_step (first | (go_at_call 51; exact calls_later (Q.out _)) | (go_at_call 54; exact calls_later (toBefore_any _ _ _ _ _ _ _))))
                refine wpQuiet_nil ?_
                refine later_intro fun w1 hb1 => ?_
                go_wp2
                go_ret
                exact ⟨ret_bool (by rw [townB, streetsB, chainB_false (by rw [HS.out, HC.out]), Bool.and_false]), below_step (below_alloc hbw _) hb1⟩
              | true =>
                have HC := hide hc
                go_wp2_with fail
                refine wp_region_later (by kernel_rfl) (by kernel_rfl) ?_
                repeat (go_big_quiet_step (first | (go_at_call 51; exact calls_later (Q.out _)) | (go_at_call 54; exact calls_later (toBefore_any _ _ _ _ _ _ _))))
                refine wpQuiet_nil ?_
                refine later_intro fun w1 hb1 => ?_
                clear e1 e2 e4 e5
                go_wp2
                go_roundw
                case rel =>
                  refine ⟨k + 1, by omega, by go_num, hide (fun i hi => ?_), step_of hb hbz hb1⟩
                  by_cases hi2 : i < k
                  · exact HA.out i hi2
                  · rw [show i = k by omega, HS.out, HC.out]
                case measure => simp [intOf]; omega
        · go_wp2
          go_ret
          exact ⟨ret_bool (by rw [townB, HV.out, H40.out, streetsB, chainB_of (fun i hi => HA.out i (by have := Hn.out; omega))]; rfl), hbw⟩
    · have H40 := hide (show decide (l.length ≤ 40) = false by rw [← show n = l.length from Hn.out]; simpa using h40)
      go_enter Tryz.func44, Tryz.ntmps44
      go_wp2_with (go_at_call 59; ((with_reducible refine (q _).mono ?_); rintro e w' ⟨rfl, rfl⟩))
      go_ret
      exact ⟨ret_bool (by rw [townB, H40.out, Bool.and_false]; rfl), (by repeat (first | exact Below.refl _ _ | refine below_step ?_ (by assumption) | refine below_step ?_ (Later.below _) | refine below_alloc ?_ _ | refine Below.drew ?_ | refine Below.setCell ?_ (by first | (simp; done) | (simp; omega)) _))⟩
end Go.Proofs.YtbhnaakknfienaaGreatDoor

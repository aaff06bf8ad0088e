/- Towns: whether they are valid. -/
import Derived.Test.YtbhnaakknfienaaGreatDoorTownD
namespace Go.Proofs.YtbhnaakknfienaaGreatDoor
open Go.RowKit
set_option linter.unusedVariables false

def streetsB (nd : Int) (l : List StT) : Bool := chainB (fitB nd) befB l
def townB (nd : Int) (l : List StT) : Bool := inB nd 1 14 && decide (l.length ≤ 40) && streetsB nd l

set_option maxHeartbeats 4000000 in
theorem implisTown_any (b0 : Nat) (nd : Int) (A : Option Addr) (n c : Nat) (l : List (Int × Int × Int)) (w : World) (hn : n = l.length) (hm : n ≤ maxLen) (hr : Rd w A (l.flatMap tcells)) (hb0 : b0 < w.heap.size) (hc0 : w.cell? ⟨b0, 0, none⟩ = some (.int .i64 nd)) (hc1 : w.cell? ⟨b0, 1, none⟩ = some (.slice A n c)) :
    Calls Tryz.prog 35 #[.pointer (some ⟨b0, 0, none⟩)] w fun e w' => e = .returned (.bool (townB nd l)) ∧ Below w.heap.size w w' := by
  unfold maxLen at hm
  have Hn := hide hn
  have Hr := hide hr
  have HP := hide (And.intro hc0 hc1)
  have q := fun W => inside_any nd 1 14 W
  clear hn hr
  cases hv : inB nd 1 14 with
  | false =>
    have HV := hide hv
    simp only [hv] at q
    clear hv
    go_enter Tryz.func35, Tryz.ntmps35
    go_wp2_with (go_at_call 55; ((with_reducible refine (q _).mono ?_); rintro e w' ⟨rfl, rfl⟩))
    go_ret
    exact ⟨ret_bool (by rw [townB, HV.out]; rfl), (by repeat (first | exact Below.refl _ _ | refine below_step ?_ (by assumption) | refine below_step ?_ (Later.below _) | refine below_alloc ?_ _ | refine Below.drew ?_ | refine Below.setCell ?_ (by first | (simp; done) | (simp; omega)) _))⟩
  | true =>
    have HV := hide hv
    obtain ⟨hnd0, hnd1⟩ := inB_iff.1 hv
    simp only [hv] at q
    clear hv
    by_cases h40 : n ≤ 40
    · have H40 := hide (show decide (l.length ≤ 40) = true by rw [← show n = l.length from Hn.out]; simpa using h40)
      go_enter Tryz.func35, Tryz.ntmps35
      go_wp2_with (go_at_call 55; ((with_reducible refine (q _).mono ?_); rintro e w' ⟨rfl, rfl⟩))
      clear q
      go_loopw [24] (fun t wr => ∃ k : Nat, k ≤ n ∧ t = .int .i64 k ∧ Hid (∀ i, i < k → stepB (fitB nd) befB l i = true) ∧ Below w.heap.size w wr) (fun t _ => n - (intOf t).toNat)
      case atStart => exact ⟨0, by omega, rfl, hide (fun i hi => absurd hi (by omega)), (by repeat (first | exact Below.refl _ _ | refine below_step ?_ (by assumption) | refine below_step ?_ (Later.below _) | refine below_alloc ?_ _ | refine Below.drew ?_ | refine Below.setCell ?_ (by first | (simp; done) | (simp; omega)) _))⟩
      case round =>
        obtain ⟨k, hk, rfl, HA, hb⟩ := hrel
        have hcc0 := (hb.cell (p := ⟨b0, 0, none⟩) hb0).trans HP.out.1
        have hcc1 := (hb.cell (p := ⟨b0, 1, none⟩) hb0).trans HP.out.2
        have hbz : b0 < wr.heap.size := Nat.lt_of_lt_of_le hb0 hb.size
        by_cases hlt : k < n
        · obtain ⟨⟨x0, x1, x2⟩, hh⟩ : ∃ h, l[k]? = some h := ⟨_, List.getElem?_eq_getElem (by rw [← Hn.out]; exact hlt)⟩
          obtain ⟨b, off, rfl, hbs, c0, c1, c2⟩ := (Hr.out.below hb).get3 (fun _ => rfl) hh rfl
          have Hh := hide hh
          clear hh
          dsimp only at c0 c1 c2
          have hbs1 : b < wr.heap.size + 1 := by omega
          have Q := hide (fun (m : Later (wr.alloc (.cells #[.int .i64 x0, .int .i64 x1, .int .i64 x2] 39))) => fits_any b0 nd x0 x1 x2 m.w hnd0 hnd1 (m.lt _ (by simp; omega)) ((m.cell _ _ (by simp; omega)).trans ((((Below.refl wr.heap.size wr).alloc (Nat.le_refl _) _).cell (p := ⟨b0, 0, none⟩) hbz).trans hcc0)))
          cases hx : fitB nd (x0, x1, x2) with
          | false =>
            simp only [hx] at Q
            have HS := hide (stepB_bad (p := fitB nd) (r := befB) Hh.out hx)
            clear hx
            go_wp2_with fail
            refine wp_region_later (by kernel_rfl) (by kernel_rfl) ?_
            repeat (go_big_quiet_step (first | (go_at_call 45; exact calls_later (Q.out _)) | (go_at_call 47; exact calls_later (compareStreets_any _ _ _ _ _ _ _))))
            refine wpQuiet_nil ?_
            refine later_intro fun w1 hb1 => ?_
            go_wp2
            go_ret
            exact ⟨ret_bool (by rw [townB, streetsB, chainB_false HS.out, Bool.and_false]), below_step (below_alloc hb _) hb1⟩
          | true =>
            simp only [hx] at Q
            have Hx := hide hx
            clear hx
            by_cases h0 : k = 0
            · have HS := hide (show stepB (fitB nd) befB l k = true by subst h0; rw [stepB_zero Hh.out]; exact Hx.out)
              have H0 := hide h0
              have e3 : decide ((0 : Int) < (k : Int)) = false := by simp; omega
              have e3' : decide (0 < k) = false := by simp; omega
              clear h0
              go_wp2_with fail
              refine wp_region_later (by kernel_rfl) (by kernel_rfl) ?_
              repeat (go_big_quiet_step (first | (go_at_call 45; exact calls_later (Q.out _)) | (go_at_call 47; exact calls_later (compareStreets_any _ _ _ _ _ _ _))))
              refine wpQuiet_nil ?_
              refine later_intro fun w1 hb1 => ?_
              go_wp2
              go_roundw
              case rel => exact ⟨k + 1, by omega, by go_num, hide (fun i hi => by rw [show i = k by have := H0.out; omega]; exact HS.out), below_step (below_alloc hb _) hb1⟩
              case measure => simp [intOf]; omega
            · obtain ⟨j, hj⟩ : ∃ j, k = j + 1 := ⟨k - 1, by omega⟩
              obtain ⟨⟨y0, y1, y2⟩, hy⟩ : ∃ h, l[j]? = some h := ⟨_, List.getElem?_eq_getElem (by rw [← Hn.out]; omega)⟩
              obtain ⟨b', off', hA', hbs', d0, d1, d2⟩ := (Hr.out.below hb).get3 (fun _ => rfl) hy rfl
              injection hA' with hA'
              injection hA' with hA1 hA2
              subst hA1
              subst hA2
              dsimp only at d0 d1 d2
              have HS := hide (show stepB (fitB nd) befB l k = befB (y0, y1, y2) (x0, x1, x2) by subst hj; rw [stepB_succ Hh.out hy, Hx.out, Bool.true_and])
              have e1 : IntKind.i64.wrap ((k : Int) - 1) = (k : Int) - 1 := IntWalk.i64_in _ (by omega)
              have e2 : ((k : Int) - 1).toNat = j := by omega
              have e3 : (0 : Int) < (k : Int) := by omega
              have e3' : 0 < k := by omega
              have e4 : (k : Int) - 1 < (n : Int) := by omega
              have e5 : (0 : Int) ≤ (k : Int) - 1 := by omega
              have Hj := hide hj
              clear hj h0 hy
              have hcb := cmpS_bef (y0, y1, y2) (x0, x1, x2)
              cases hc : befB (y0, y1, y2) (x0, x1, x2) with
              | false =>
                have HC := hide hc
                rw [hc] at hcb
                clear hc
                have hcb' : 0 ≤ cmpS (y0, y1, y2) (x0, x1, x2) := by simpa using hcb
                go_wp2_with fail
                refine wp_region_later (by kernel_rfl) (by kernel_rfl) ?_
                repeat (go_big_quiet_step (first | (go_at_call 45; exact calls_later (Q.out _)) | (go_at_call 47; exact calls_later (compareStreets_any _ _ _ _ _ _ _))))
                refine wpQuiet_nil ?_
                refine later_intro fun w1 hb1 => ?_
                go_wp2
                go_ret
                exact ⟨ret_bool (by rw [townB, streetsB, chainB_false (by rw [HS.out, HC.out]), Bool.and_false]), below_step (below_alloc hb _) hb1⟩
              | true =>
                have HC := hide hc
                rw [hc] at hcb
                clear hc
                have hcb' : ¬ 0 ≤ cmpS (y0, y1, y2) (x0, x1, x2) := by simpa using hcb
                go_wp2_with fail
                refine wp_region_later (by kernel_rfl) (by kernel_rfl) ?_
                repeat (go_big_quiet_step (first | (go_at_call 45; exact calls_later (Q.out _)) | (go_at_call 47; exact calls_later (compareStreets_any _ _ _ _ _ _ _))))
                refine wpQuiet_nil ?_
                refine later_intro fun w1 hb1 => ?_
                clear e1 e2 e4 e5
                go_wp2
                go_roundw
                case rel =>
                  refine ⟨k + 1, by omega, by go_num, hide (fun i hi => ?_), below_step (below_alloc hb _) hb1⟩
                  by_cases hi2 : i < k
                  · exact HA.out i hi2
                  · rw [show i = k by omega, HS.out, HC.out]
                case measure => simp [intOf]; omega
        · go_wp2
          go_ret
          exact ⟨ret_bool (by rw [townB, HV.out, H40.out, streetsB, chainB_of (fun i hi => HA.out i (by have := Hn.out; omega))]; rfl), hb⟩
    · have H40 := hide (show decide (l.length ≤ 40) = false by rw [← show n = l.length from Hn.out]; simpa using h40)
      go_enter Tryz.func35, Tryz.ntmps35
      go_wp2_with (go_at_call 55; ((with_reducible refine (q _).mono ?_); rintro e w' ⟨rfl, rfl⟩))
      go_ret
      exact ⟨ret_bool (by rw [townB, H40.out, Bool.and_false]; rfl), (by repeat (first | exact Below.refl _ _ | refine below_step ?_ (by assumption) | refine below_step ?_ (Later.below _) | refine below_alloc ?_ _ | refine Below.drew ?_ | refine Below.setCell ?_ (by first | (simp; done) | (simp; omega)) _))⟩
end Go.Proofs.YtbhnaakknfienaaGreatDoor

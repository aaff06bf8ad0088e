/- Nets: whether they are valid: the reference. -/
import Derived.Test.YtfcpgpmhjadanaaGreatDoorNetB
namespace Go.Proofs.YtfcpgpmhjadanaaGreatDoor
open Go.RowKit
set_option linter.unusedVariables false

set_option maxRecDepth 100000 in
set_option maxHeartbeats 8000000 in
theorem hyGood_any (A B : Option Addr) (n c m d : Nat) (M H : List (Int × Int)) (w : World) (hn : n = M.length) (hm : m = H.length) (hnm : n ≤ maxLen) (hmm : m ≤ maxLen) (hr : NetRd w A B M H) :
    Calls Tryz.prog 41 #[.agg #[.slice A n c, .slice B m d]] w fun e w' => e = .returned (.bool (netB M H)) ∧ Below w.heap.size w w' := by
  unfold maxLen at hnm hmm
  have Hn := hide hn
  have Hm := hide hm
  have Hr := hide hr
  have q := fun W => l1In_any (n : Int) 1 10 W
  clear hn hm hr
  cases hv : inB (n : Int) 1 10 with
  | false =>
    have HV := hide (show inB (M.length : Int) 1 10 = false by rw [← show n = M.length from Hn.out]; exact hv)
    simp only [hv] at q
    clear hv
    go_enter Tryz.func41, Tryz.ntmps41
    go_wp2_with (go_at_call 53; ((with_reducible refine (q _).mono ?_); rintro e w' ⟨rfl, rfl⟩))
    go_ret
    exact ⟨ret_bool (netB_m HV.out).symm, (by repeat (first | exact Below.refl _ _ | refine below_step ?_ (by assumption) | refine below_step ?_ (Later.below _) | refine below_alloc ?_ _ | refine Below.drew ?_ | refine Below.setCell ?_ (by first | (simp; done) | (simp; omega)) _))⟩
  | true =>
    have HV := hide (show inB (M.length : Int) 1 10 = true by rw [← show n = M.length from Hn.out]; exact hv)
    obtain ⟨hn1, hn10⟩ := inB_iff.1 hv
    simp only [hv] at q
    clear hv
    by_cases h10 : m ≤ 10
    · have H10 := hide (show decide (H.length ≤ 10) = true by rw [← show m = H.length from Hm.out]; simpa using h10)
      go_enter Tryz.func41, Tryz.ntmps41
      go_wp2_with (go_at_call 53; ((with_reducible refine (q _).mono ?_); rintro e w' ⟨rfl, rfl⟩))
      clear q
      have hcA := cell_new2 w (.slice A n c) (.slice B m d) 27
      have HBA : Hid (Below w.heap.size w (w.alloc (.cells #[.slice A n c, .slice B m d] 27))) := hide (by repeat (first | exact Below.refl _ _ | refine below_step ?_ (by assumption) | refine below_step ?_ (Later.below _) | refine below_alloc ?_ _ | refine Below.drew ?_ | refine Below.setCell ?_ (by first | (simp; done) | (simp; omega)) _))
      have hbz : w.heap.size < (w.alloc (.cells #[.slice A n c, .slice B m d] 27)).heap.size := by simp
      generalize w.alloc (.cells #[.slice A n c, .slice B m d] 27) = W at *
      go_loopw [21] (fun t wr => ∃ k : Nat, k ≤ n ∧ t = .int .i64 k ∧ Hid (∀ i, i < k → mstepB M i = true) ∧ Below W.heap.size W wr) (fun t _ => n - (intOf t).toNat)
      case atStart => exact ⟨0, by omega, rfl, hide (fun i hi => absurd hi (by omega)), (by repeat (first | exact Below.refl _ _ | refine below_step ?_ (by assumption) | refine below_step ?_ (Later.below _) | refine below_alloc ?_ _ | refine Below.drew ?_ | refine Below.setCell ?_ (by first | (simp; done) | (simp; omega)) _))⟩
      case round =>
        obtain ⟨k, hk, rfl, HA, hb⟩ := hrel
        have hcc0 := cell_on hcA.1 hb
        have hcc1 := cell_on hcA.2 hb
        have hbw : Hid (Below w.heap.size w wr) := hide (HBA.out.trans (hb.mono (by omega)))
        by_cases hlt : k < n
        · obtain ⟨⟨x0, x1⟩, hh⟩ : ∃ h, M[k]? = some h := ⟨_, List.getElem?_eq_getElem (by rw [← Hn.out]; exact hlt)⟩
          obtain ⟨b, off, rfl, hbs, c0, c1⟩ := (Hr.out.1.below hbw.out).get2 (fun _ => rfl) hh rfl
          have Hh := hide hh
          clear hh
          dsimp only at c0 c1
          have hk1 : IntKind.i64.wrap ((k : Int) - 1) = (k : Int) - 1 := IntWalk.i64_in _ (by omega)
          have qp := fun W => l1In_any x0 0 ((k : Int) - 1) W
          have ql := fun W => l1In_any x1 0 5000 W
          by_cases h0 : k = 0
          · have h1 : k < 1 := by omega
            have HS := hide (show mstepB M k = (decide (x0 = -1) && inB x1 0 5000) by rw [mstepB_some Hh.out, mnB, if_pos h0])
            clear h0 qp
            cases hx : decide (x0 = -1) with
            | false =>
              have hx' : x0 < -1 ∨ -1 < x0 := by have := of_decide_eq_false hx; omega
              cases hy : inB x1 0 5000 with
              | false =>
                simp only [hy] at ql
                have HB := hide (show mstepB M k = false by rw [HS.out, hx, hy]; rfl)
                clear HS hy hx
                go_wp2_with (first | (go_at_call 53; ((with_reducible refine (ql _).mono ?_); rintro e w' ⟨rfl, rfl⟩)))
                all_goals (try (exfalso; omega))
                go_ret
                exact ⟨ret_bool (netB_main HB.out).symm, below_step hbw.out (by repeat (first | exact Below.refl _ _ | refine below_step ?_ (by assumption) | refine below_step ?_ (Later.below _) | refine below_alloc ?_ _ | refine Below.drew ?_ | refine Below.setCell ?_ (by first | (simp; done) | (simp; omega)) _))⟩
              | true =>
                simp only [hy] at ql
                have HB := hide (show mstepB M k = false by rw [HS.out, hx, hy]; rfl)
                clear HS hy hx
                go_wp2_with (first | (go_at_call 53; ((with_reducible refine (ql _).mono ?_); rintro e w' ⟨rfl, rfl⟩)))
                all_goals (try (exfalso; omega))
                go_ret
                exact ⟨ret_bool (netB_main HB.out).symm, below_step hbw.out (by repeat (first | exact Below.refl _ _ | refine below_step ?_ (by assumption) | refine below_step ?_ (Later.below _) | refine below_alloc ?_ _ | refine Below.drew ?_ | refine Below.setCell ?_ (by first | (simp; done) | (simp; omega)) _))⟩
            | true =>
              have hx' : x0 ≤ -1 ∧ -1 ≤ x0 := by have := of_decide_eq_true hx; omega
              cases hy : inB x1 0 5000 with
              | false =>
                simp only [hy] at ql
                have HB := hide (show mstepB M k = false by rw [HS.out, hx, hy]; rfl)
                clear HS hy hx
                go_wp2_with (first | (go_at_call 53; ((with_reducible refine (ql _).mono ?_); rintro e w' ⟨rfl, rfl⟩)))
                all_goals (try (exfalso; omega))
                go_ret
                exact ⟨ret_bool (netB_main HB.out).symm, below_step hbw.out (by repeat (first | exact Below.refl _ _ | refine below_step ?_ (by assumption) | refine below_step ?_ (Later.below _) | refine below_alloc ?_ _ | refine Below.drew ?_ | refine Below.setCell ?_ (by first | (simp; done) | (simp; omega)) _))⟩
              | true =>
                simp only [hy] at ql
                have HT := hide (show mstepB M k = true by rw [HS.out, hx, hy]; rfl)
                clear HS hy hx
                go_wp2_with (first | (go_at_call 53; ((with_reducible refine (ql _).mono ?_); rintro e w' ⟨rfl, rfl⟩)))
                all_goals (try (exfalso; omega))
                go_roundw
                case rel =>
                  refine ⟨k + 1, by omega, by go_num, hide (fun i hi => ?_), below_step hb (by repeat (first | exact Below.refl _ _ | refine below_step ?_ (by assumption) | refine below_step ?_ (Later.below _) | refine below_alloc ?_ _ | refine Below.drew ?_ | refine Below.setCell ?_ (by first | (simp; done) | (simp; omega)) _))⟩
                  by_cases hi2 : i < k
                  · exact HA.out i hi2
                  · rw [show i = k by omega]; exact HT.out
                case measure => simp [intOf]; omega
          · have h1 : 0 < k := by omega
            have HS := hide (show mstepB M k = (inB x0 0 ((k : Int) - 1) && inB x1 0 5000) by rw [mstepB_some Hh.out, mnB, if_neg h0])
            clear h0
            cases hx : inB x0 0 ((k : Int) - 1) with
            | false =>
              simp only [hx] at qp
              cases hy : inB x1 0 5000 with
              | false =>
                simp only [hy] at ql
                have HB := hide (show mstepB M k = false by rw [HS.out, hx, hy]; rfl)
                clear HS hy hx
                go_wp2_with (first | (go_at_call 53; ((with_reducible refine (qp _).mono ?_); rintro e w' ⟨rfl, rfl⟩)) | (go_at_call 53; ((with_reducible refine (ql _).mono ?_); rintro e w' ⟨rfl, rfl⟩)))
                all_goals (try (exfalso; omega))
                go_ret
                exact ⟨ret_bool (netB_main HB.out).symm, below_step hbw.out (by repeat (first | exact Below.refl _ _ | refine below_step ?_ (by assumption) | refine below_step ?_ (Later.below _) | refine below_alloc ?_ _ | refine Below.drew ?_ | refine Below.setCell ?_ (by first | (simp; done) | (simp; omega)) _))⟩
              | true =>
                simp only [hy] at ql
                have HB := hide (show mstepB M k = false by rw [HS.out, hx, hy]; rfl)
                clear HS hy hx
                go_wp2_with (first | (go_at_call 53; ((with_reducible refine (qp _).mono ?_); rintro e w' ⟨rfl, rfl⟩)) | (go_at_call 53; ((with_reducible refine (ql _).mono ?_); rintro e w' ⟨rfl, rfl⟩)))
                all_goals (try (exfalso; omega))
                go_ret
                exact ⟨ret_bool (netB_main HB.out).symm, below_step hbw.out (by repeat (first | exact Below.refl _ _ | refine below_step ?_ (by assumption) | refine below_step ?_ (Later.below _) | refine below_alloc ?_ _ | refine Below.drew ?_ | refine Below.setCell ?_ (by first | (simp; done) | (simp; omega)) _))⟩
            | true =>
              simp only [hx] at qp
              cases hy : inB x1 0 5000 with
              | false =>
                simp only [hy] at ql
                have HB := hide (show mstepB M k = false by rw [HS.out, hx, hy]; rfl)
                clear HS hy hx
                go_wp2_with (first | (go_at_call 53; ((with_reducible refine (qp _).mono ?_); rintro e w' ⟨rfl, rfl⟩)) | (go_at_call 53; ((with_reducible refine (ql _).mono ?_); rintro e w' ⟨rfl, rfl⟩)))
                all_goals (try (exfalso; omega))
                go_ret
                exact ⟨ret_bool (netB_main HB.out).symm, below_step hbw.out (by repeat (first | exact Below.refl _ _ | refine below_step ?_ (by assumption) | refine below_step ?_ (Later.below _) | refine below_alloc ?_ _ | refine Below.drew ?_ | refine Below.setCell ?_ (by first | (simp; done) | (simp; omega)) _))⟩
              | true =>
                simp only [hy] at ql
                have HT := hide (show mstepB M k = true by rw [HS.out, hx, hy]; rfl)
                clear HS hy hx
                go_wp2_with (first | (go_at_call 53; ((with_reducible refine (qp _).mono ?_); rintro e w' ⟨rfl, rfl⟩)) | (go_at_call 53; ((with_reducible refine (ql _).mono ?_); rintro e w' ⟨rfl, rfl⟩)))
                all_goals (try (exfalso; omega))
                go_roundw
                case rel =>
                  refine ⟨k + 1, by omega, by go_num, hide (fun i hi => ?_), below_step hb (by repeat (first | exact Below.refl _ _ | refine below_step ?_ (by assumption) | refine below_step ?_ (Later.below _) | refine below_alloc ?_ _ | refine Below.drew ?_ | refine Below.setCell ?_ (by first | (simp; done) | (simp; omega)) _))⟩
                  by_cases hi2 : i < k
                  · exact HA.out i hi2
                  · rw [show i = k by omega]; exact HT.out
                case measure => simp [intOf]; omega
        · have HA' := hide (show ∀ i, i < M.length → mstepB M i = true from fun i hi => HA.out i (by have := Hn.out; omega))
          have HR2 := hide (Hr.out.2.below hbw.out)
          clear HA
          obtain ⟨wo, rfl⟩ : ∃ wo, wo = wr := ⟨_, rfl⟩
          go_wp2
          go_loopw [55] (fun t wr => ∃ k : Nat, k ≤ m ∧ t = .int .i64 k ∧ Hid ((H.take k).all (hydB M.length) = true) ∧ Below wo.heap.size wo wr) (fun t _ => m - (intOf t).toNat)
          case atStart => exact ⟨0, by omega, rfl, hide (by simp), Below.refl _ _⟩
          case round =>
            obtain ⟨j, hj, rfl, HJ, hb2⟩ := hrel
            have hd0 := cell_on hcc0 hb2
            have hd1 := cell_on hcc1 hb2
            have hbw2 := hide (hbw.out.trans (hb2.mono (by have := hbw.out.size; omega)))
            by_cases hjl : j < m
            · obtain ⟨⟨x0, x1⟩, hh⟩ : ∃ h, H[j]? = some h := ⟨_, List.getElem?_eq_getElem (by rw [← Hm.out]; exact hjl)⟩
              obtain ⟨b, off, rfl, hbs, c0, c1⟩ := (HR2.out.below hb2).get2 (fun _ => rfl) hh rfl
              have Hh := hide hh
              clear hh hcc0 hcc1
              dsimp only at c0 c1
              have hk1 : IntKind.i64.wrap ((n : Int) - 1) = (n : Int) - 1 := IntWalk.i64_in _ (by omega)
              have qp := fun W => l1In_any x0 0 ((n : Int) - 1) W
              have ql := fun W => l1In_any x1 1 5000 W
              have hbz2 := World.block_lt_of_cell? _ _ hd0
              dsimp only at hbz2
              have HS := hide (show hydB M.length (x0, x1) = (inB x0 0 ((n : Int) - 1) && inB x1 1 5000) by rw [hydB, ← show n = M.length from Hn.out])
              cases hx : inB x0 0 ((n : Int) - 1) with
              | false =>
                simp only [hx] at qp
                cases hy : inB x1 1 5000 with
                | false =>
                  simp only [hy] at ql
                  have HB := hide (show hydB M.length (x0, x1) = false by rw [HS.out, hx, hy]; rfl)
                  clear HS hx hy
                  go_wp2_with (first | (go_at_call 53; ((with_reducible refine (qp _).mono ?_); rintro e w' ⟨rfl, rfl⟩)) | (go_at_call 53; ((with_reducible refine (ql _).mono ?_); rintro e w' ⟨rfl, rfl⟩)))
                  go_ret
                  exact ⟨ret_bool (netB_hyd Hh.out HB.out).symm, (below_step hbw2.out (by repeat (first | exact Below.refl _ _ | refine below_step ?_ (by assumption) | refine below_step ?_ (Later.below _) | refine below_alloc ?_ _ | refine Below.drew ?_ | refine Below.setCell ?_ (by first | (simp; done) | (simp; omega)) _)))⟩
                | true =>
                  simp only [hy] at ql
                  have HB := hide (show hydB M.length (x0, x1) = false by rw [HS.out, hx, hy]; rfl)
                  clear HS hx hy
                  go_wp2_with (first | (go_at_call 53; ((with_reducible refine (qp _).mono ?_); rintro e w' ⟨rfl, rfl⟩)) | (go_at_call 53; ((with_reducible refine (ql _).mono ?_); rintro e w' ⟨rfl, rfl⟩)))
                  go_ret
                  exact ⟨ret_bool (netB_hyd Hh.out HB.out).symm, (below_step hbw2.out (by repeat (first | exact Below.refl _ _ | refine below_step ?_ (by assumption) | refine below_step ?_ (Later.below _) | refine below_alloc ?_ _ | refine Below.drew ?_ | refine Below.setCell ?_ (by first | (simp; done) | (simp; omega)) _)))⟩
              | true =>
                simp only [hx] at qp
                cases hy : inB x1 1 5000 with
                | false =>
                  simp only [hy] at ql
                  have HB := hide (show hydB M.length (x0, x1) = false by rw [HS.out, hx, hy]; rfl)
                  clear HS hx hy
                  go_wp2_with (first | (go_at_call 53; ((with_reducible refine (qp _).mono ?_); rintro e w' ⟨rfl, rfl⟩)) | (go_at_call 53; ((with_reducible refine (ql _).mono ?_); rintro e w' ⟨rfl, rfl⟩)))
                  go_ret
                  exact ⟨ret_bool (netB_hyd Hh.out HB.out).symm, (below_step hbw2.out (by repeat (first | exact Below.refl _ _ | refine below_step ?_ (by assumption) | refine below_step ?_ (Later.below _) | refine below_alloc ?_ _ | refine Below.drew ?_ | refine Below.setCell ?_ (by first | (simp; done) | (simp; omega)) _)))⟩
                | true =>
                  simp only [hy] at ql
                  have HB := hide (show hydB M.length (x0, x1) = true by rw [HS.out, hx, hy]; rfl)
                  clear HS hx hy
                  go_wp2_with (first | (go_at_call 53; ((with_reducible refine (qp _).mono ?_); rintro e w' ⟨rfl, rfl⟩)) | (go_at_call 53; ((with_reducible refine (ql _).mono ?_); rintro e w' ⟨rfl, rfl⟩)))
                  go_roundw
                  case rel => exact ⟨j + 1, by omega, by go_num, hide (all_take_succ _ Hh.out HJ.out HB.out), (below_step hb2 (by repeat (first | exact Below.refl _ _ | refine below_step ?_ (by assumption) | refine below_step ?_ (Later.below _) | refine below_alloc ?_ _ | refine Below.drew ?_ | refine Below.setCell ?_ (by first | (simp; done) | (simp; omega)) _)))⟩
                  case measure => simp [intOf]; omega
            · go_wp2
              go_ret
              exact ⟨ret_bool (netB_true HV.out H10.out HA'.out (all_of_take _ (by have := Hm.out; omega) HJ.out)).symm, hbw2.out⟩
    · have H10 := hide (show decide (H.length ≤ 10) = false by rw [← show m = H.length from Hm.out]; simpa using h10)
      go_enter Tryz.func41, Tryz.ntmps41
      go_wp2_with (go_at_call 53; ((with_reducible refine (q _).mono ?_); rintro e w' ⟨rfl, rfl⟩))
      go_ret
      exact ⟨ret_bool (netB_h H10.out).symm, (by repeat (first | exact Below.refl _ _ | refine below_step ?_ (by assumption) | refine below_step ?_ (Later.below _) | refine below_alloc ?_ _ | refine Below.drew ?_ | refine Below.setCell ?_ (by first | (simp; done) | (simp; omega)) _))⟩
end Go.Proofs.YtfcpgpmhjadanaaGreatDoor

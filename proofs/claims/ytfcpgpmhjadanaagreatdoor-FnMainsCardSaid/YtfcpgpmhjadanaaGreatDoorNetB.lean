/- Nets: whether they are valid. -/
import Derived.Test.YtfcpgpmhjadanaaGreatDoorNetA
namespace Go.Proofs.YtfcpgpmhjadanaaGreatDoor
open Go.RowKit
set_option linter.unusedVariables false

theorem netB_m {M H : List (Int × Int)} (h : inB (M.length : Int) 1 10 = false) : netB M H = false := by rw [netB, h]; rfl
theorem netB_h {M H : List (Int × Int)} (h : decide (H.length ≤ 10) = false) : netB M H = false := by rw [netB, h, Bool.and_false]; rfl
theorem netB_main {M H : List (Int × Int)} {i : Nat} (h : mstepB M i = false) : netB M H = false := by rw [netB, mainsB_false h, Bool.and_false]; rfl
theorem netB_hyd {M H : List (Int × Int)} {i : Nat} {x : Int × Int} (hx : H[i]? = some x) (h : hydB M.length x = false) : netB M H = false := by rw [netB, all_false_of _ hx h, Bool.and_false]
theorem netB_true {M H : List (Int × Int)} (h1 : inB (M.length : Int) 1 10 = true) (h2 : decide (H.length ≤ 10) = true) (h3 : ∀ i, i < M.length → mstepB M i = true) (h4 : H.all (hydB M.length) = true) : netB M H = true := by rw [netB, h1, h2, mainsB_of h3, h4]; rfl

set_option maxRecDepth 100000 in
set_option maxHeartbeats 8000000 in
theorem implisNet_any (b0 : Nat) (A B : Option Addr) (n c m d : Nat) (M H : List (Int × Int)) (w : World) (hn : n = M.length) (hm : m = H.length) (hnm : n ≤ maxLen) (hmm : m ≤ maxLen) (hr : NetRd w A B M H) (hc0 : w.cell? ⟨b0, 0, none⟩ = some (.slice A n c)) (hc1 : w.cell? ⟨b0, 1, none⟩ = some (.slice B m d)) :
    Calls Tryz.prog 29 #[.pointer (some ⟨b0, 0, none⟩)] w fun e w' => e = .returned (.bool (netB M H)) ∧ Below w.heap.size w w' := by
  unfold maxLen at hnm hmm
  have HP := hide (And.intro hc0 hc1)
  have hb0 : b0 < w.heap.size := World.block_lt_of_cell? w _ hc0
  have Hn := hide hn
  have Hm := hide hm
  have Hr := hide hr
  have q := fun W => inside_any (n : Int) 1 10 W
  clear hn hm hr
  cases hv : inB (n : Int) 1 10 with
  | false =>
    have HV := hide (show inB (M.length : Int) 1 10 = false by rw [← show n = M.length from Hn.out]; exact hv)
    simp only [hv] at q
    clear hv
    go_enter Tryz.func29, Tryz.ntmps29
    go_wp2_with (go_at_call 51; ((with_reducible refine (q _).mono ?_); rintro e w' ⟨rfl, rfl⟩))
    go_ret
    exact ⟨ret_bool (netB_m HV.out).symm, (by repeat (first | exact Below.refl _ _ | refine below_step ?_ (by assumption) | refine below_step ?_ (Later.below _) | refine below_alloc ?_ _ | refine Below.drew ?_ | refine Below.setCell ?_ (by first | (simp; done) | (simp; omega)) _))⟩
  | true =>
    have HV := hide (show inB (M.length : Int) 1 10 = true by rw [← show n = M.length from Hn.out]; exact hv)
    obtain ⟨hn1, hn10⟩ := inB_iff.1 hv
    simp only [hv] at q
    clear hv
    by_cases h10 : m ≤ 10
    · have H10 := hide (show decide (H.length ≤ 10) = true by rw [← show m = H.length from Hm.out]; simpa using h10)
      go_enter Tryz.func29, Tryz.ntmps29
      go_wp2_with (go_at_call 51; ((with_reducible refine (q _).mono ?_); rintro e w' ⟨rfl, rfl⟩))
      clear q
      go_loopw [27] (fun t wr => ∃ k : Nat, k ≤ n ∧ t = .int .i64 k ∧ Hid (∀ i, i < k → mstepB M i = true) ∧ Below w.heap.size w wr) (fun t _ => n - (intOf t).toNat)
      case atStart => exact ⟨0, by omega, rfl, hide (fun i hi => absurd hi (by omega)), (by repeat (first | exact Below.refl _ _ | refine below_step ?_ (by assumption) | refine below_step ?_ (Later.below _) | refine below_alloc ?_ _ | refine Below.drew ?_ | refine Below.setCell ?_ (by first | (simp; done) | (simp; omega)) _))⟩
      case round =>
        obtain ⟨k, hk, rfl, HA, hb⟩ := hrel
        have hcc0 := (hb.cell (p := ⟨b0, 0, none⟩) hb0).trans HP.out.1
        have hcc1 := (hb.cell (p := ⟨b0, 1, none⟩) hb0).trans HP.out.2
        have hbz := Nat.lt_of_lt_of_le hb0 hb.size
        have hbw := hide hb
        by_cases hlt : k < n
        · obtain ⟨⟨x0, x1⟩, hh⟩ : ∃ h, M[k]? = some h := ⟨_, List.getElem?_eq_getElem (by rw [← Hn.out]; exact hlt)⟩
          obtain ⟨b, off, rfl, hbs, c0, c1⟩ := (Hr.out.1.below hbw.out).get2 (fun _ => rfl) hh rfl
          have Hh := hide hh
          clear hh
          dsimp only at c0 c1
          have hk1 : IntKind.i64.wrap ((k : Int) - 1) = (k : Int) - 1 := IntWalk.i64_in _ (by omega)
          have qp := fun W => inside_any x0 0 ((k : Int) - 1) W
          have ql := fun W => inside_any x1 0 5000 W
          by_cases h0 : k = 0
          · have h1 : k < 1 := by omega
            have HS := hide (show mstepB M k = (decide (x0 = -1) && inB x1 0 5000) by rw [mstepB_some Hh.out, mnB, if_pos h0])
            clear h0 qp
            cases hx : decide (x0 = -1) with
            | false =>
              have hx' : x0 < -1 ∨ -1 < x0 := by have := of_decide_eq_false hx; omega
              cases hy : inB x1 0 5000 with
              | false =>
                simp only [hy] at ql
                have HB := hide (show mstepB M k = false by rw [HS.out, hx, hy]; rfl)
                clear HS hy hx
                go_wp2_with (first | (go_at_call 51; ((with_reducible refine (ql _).mono ?_); rintro e w' ⟨rfl, rfl⟩)))
                all_goals (try (exfalso; omega))
                go_ret
                exact ⟨ret_bool (netB_main HB.out).symm, below_step hbw.out (by repeat (first | exact Below.refl _ _ | refine below_step ?_ (by assumption) | refine below_step ?_ (Later.below _) | refine below_alloc ?_ _ | refine Below.drew ?_ | refine Below.setCell ?_ (by first | (simp; done) | (simp; omega)) _))⟩
              | true =>
                simp only [hy] at ql
                have HB := hide (show mstepB M k = false by rw [HS.out, hx, hy]; rfl)
                clear HS hy hx
                go_wp2_with (first | (go_at_call 51; ((with_reducible refine (ql _).mono ?_); rintro e w' ⟨rfl, rfl⟩)))
                all_goals (try (exfalso; omega))
                go_ret
                exact ⟨ret_bool (netB_main HB.out).symm, below_step hbw.out (by repeat (first | exact Below.refl _ _ | refine below_step ?_ (by assumption) | refine below_step ?_ (Later.below _) | refine below_alloc ?_ _ | refine Below.drew ?_ | refine Below.setCell ?_ (by first | (simp; done) | (simp; omega)) _))⟩
            | true =>
              have hx' : x0 ≤ -1 ∧ -1 ≤ x0 := by have := of_decide_eq_true hx; omega
              cases hy : inB x1 0 5000 with
              | false =>
                simp only [hy] at ql
                have HB := hide (show mstepB M k = false by rw [HS.out, hx, hy]; rfl)
                clear HS hy hx
                go_wp2_with (first | (go_at_call 51; ((with_reducible refine (ql _).mono ?_); rintro e w' ⟨rfl, rfl⟩)))
                all_goals (try (exfalso; omega))
                go_ret
                exact ⟨ret_bool (netB_main HB.out).symm, below_step hbw.out (by repeat (first | exact Below.refl _ _ | refine below_step ?_ (by assumption) | refine below_step ?_ (Later.below _) | refine below_alloc ?_ _ | refine Below.drew ?_ | refine Below.setCell ?_ (by first | (simp; done) | (simp; omega)) _))⟩
              | true =>
                simp only [hy] at ql
                have HT := hide (show mstepB M k = true by rw [HS.out, hx, hy]; rfl)
                clear HS hy hx
                go_wp2_with (first | (go_at_call 51; ((with_reducible refine (ql _).mono ?_); rintro e w' ⟨rfl, rfl⟩)))
                all_goals (try (exfalso; omega))
                go_roundw
                case rel =>
                  refine ⟨k + 1, by omega, by go_num, hide (fun i hi => ?_), below_step hb (by repeat (first | exact Below.refl _ _ | refine below_step ?_ (by assumption) | refine below_step ?_ (Later.below _) | refine below_alloc ?_ _ | refine Below.drew ?_ | refine Below.setCell ?_ (by first | (simp; done) | (simp; omega)) _))⟩
                  by_cases hi2 : i < k
                  · exact HA.out i hi2
                  · rw [show i = k by omega]; exact HT.out
                case measure => simp [intOf]; omega
          · have h1 : 0 < k := by omega
            have HS := hide (show mstepB M k = (inB x0 0 ((k : Int) - 1) && inB x1 0 5000) by rw [mstepB_some Hh.out, mnB, if_neg h0])
            clear h0
            cases hx : inB x0 0 ((k : Int) - 1) with
            | false =>
              simp only [hx] at qp
              cases hy : inB x1 0 5000 with
              | false =>
                simp only [hy] at ql
                have HB := hide (show mstepB M k = false by rw [HS.out, hx, hy]; rfl)
                clear HS hy hx
                go_wp2_with (first | (go_at_call 51; ((with_reducible refine (qp _).mono ?_); rintro e w' ⟨rfl, rfl⟩)) | (go_at_call 51; ((with_reducible refine (ql _).mono ?_); rintro e w' ⟨rfl, rfl⟩)))
                all_goals (try (exfalso; omega))
                go_ret
                exact ⟨ret_bool (netB_main HB.out).symm, below_step hbw.out (by repeat (first | exact Below.refl _ _ | refine below_step ?_ (by assumption) | refine below_step ?_ (Later.below _) | refine below_alloc ?_ _ | refine Below.drew ?_ | refine Below.setCell ?_ (by first | (simp; done) | (simp; omega)) _))⟩
              | true =>
                simp only [hy] at ql
                have HB := hide (show mstepB M k = false by rw [HS.out, hx, hy]; rfl)
                clear HS hy hx
                go_wp2_with (first | (go_at_call 51; ((with_reducible refine (qp _).mono ?_); rintro e w' ⟨rfl, rfl⟩)) | (go_at_call 51; ((with_reducible refine (ql _).mono ?_); rintro e w' ⟨rfl, rfl⟩)))
                all_goals (try (exfalso; omega))
                go_ret
                exact ⟨ret_bool (netB_main HB.out).symm, below_step hbw.out (by repeat (first | exact Below.refl _ _ | refine below_step ?_ (by assumption) | refine below_step ?_ (Later.below _) | refine below_alloc ?_ _ | refine Below.drew ?_ | refine Below.setCell ?_ (by first | (simp; done) | (simp; omega)) _))⟩
            | true =>
              simp only [hx] at qp
              cases hy : inB x1 0 5000 with
              | false =>
                simp only [hy] at ql
                have HB := hide (show mstepB M k = false by rw [HS.out, hx, hy]; rfl)
                clear HS hy hx
                go_wp2_with (first | (go_at_call 51; ((with_reducible refine (qp _).mono ?_); rintro e w' ⟨rfl, rfl⟩)) | (go_at_call 51; ((with_reducible refine (ql _).mono ?_); rintro e w' ⟨rfl, rfl⟩)))
                all_goals (try (exfalso; omega))
                go_ret
                exact ⟨ret_bool (netB_main HB.out).symm, below_step hbw.out (by repeat (first | exact Below.refl _ _ | refine below_step ?_ (by assumption) | refine below_step ?_ (Later.below _) | refine below_alloc ?_ _ | refine Below.drew ?_ | refine Below.setCell ?_ (by first | (simp; done) | (simp; omega)) _))⟩
              | true =>
                simp only [hy] at ql
                have HT := hide (show mstepB M k = true by rw [HS.out, hx, hy]; rfl)
                clear HS hy hx
                go_wp2_with (first | (go_at_call 51; ((with_reducible refine (qp _).mono ?_); rintro e w' ⟨rfl, rfl⟩)) | (go_at_call 51; ((with_reducible refine (ql _).mono ?_); rintro e w' ⟨rfl, rfl⟩)))
                all_goals (try (exfalso; omega))
                go_roundw
                case rel =>
                  refine ⟨k + 1, by omega, by go_num, hide (fun i hi => ?_), below_step hb (by repeat (first | exact Below.refl _ _ | refine below_step ?_ (by assumption) | refine below_step ?_ (Later.below _) | refine below_alloc ?_ _ | refine Below.drew ?_ | refine Below.setCell ?_ (by first | (simp; done) | (simp; omega)) _))⟩
                  by_cases hi2 : i < k
                  · exact HA.out i hi2
                  · rw [show i = k by omega]; exact HT.out
                case measure => simp [intOf]; omega
        · have HA' := hide (show ∀ i, i < M.length → mstepB M i = true from fun i hi => HA.out i (by have := Hn.out; omega))
          have HR2 := hide (Hr.out.2.below hbw.out)
          clear HA
          obtain ⟨wo, rfl⟩ : ∃ wo, wo = wr := ⟨_, rfl⟩
          go_wp2
          go_loopw [63] (fun t wr => ∃ k : Nat, k ≤ m ∧ t = .int .i64 k ∧ Hid ((H.take k).all (hydB M.length) = true) ∧ Below wo.heap.size wo wr) (fun t _ => m - (intOf t).toNat)
          case atStart => exact ⟨0, by omega, rfl, hide (by simp), Below.refl _ _⟩
          case round =>
            obtain ⟨j, hj, rfl, HJ, hb2⟩ := hrel
            have hd0 := cell_on hcc0 hb2
            have hd1 := cell_on hcc1 hb2
            have hbw2 := hide (hbw.out.trans (hb2.mono (by have := hbw.out.size; omega)))
            by_cases hjl : j < m
            · obtain ⟨⟨x0, x1⟩, hh⟩ : ∃ h, H[j]? = some h := ⟨_, List.getElem?_eq_getElem (by rw [← Hm.out]; exact hjl)⟩
              obtain ⟨b, off, rfl, hbs, c0, c1⟩ := (HR2.out.below hb2).get2 (fun _ => rfl) hh rfl
              have Hh := hide hh
              clear hh hcc0 hcc1
              dsimp only at c0 c1
              have hk1 : IntKind.i64.wrap ((n : Int) - 1) = (n : Int) - 1 := IntWalk.i64_in _ (by omega)
              have qp := fun W => inside_any x0 0 ((n : Int) - 1) W
              have ql := fun W => inside_any x1 1 5000 W
              have hbz2 := World.block_lt_of_cell? _ _ hd0
              dsimp only at hbz2
              have HS := hide (show hydB M.length (x0, x1) = (inB x0 0 ((n : Int) - 1) && inB x1 1 5000) by rw [hydB, ← show n = M.length from Hn.out])
              cases hx : inB x0 0 ((n : Int) - 1) with
              | false =>
                simp only [hx] at qp
                cases hy : inB x1 1 5000 with
                | false =>
                  simp only [hy] at ql
                  have HB := hide (show hydB M.length (x0, x1) = false by rw [HS.out, hx, hy]; rfl)
                  clear HS hx hy
                  go_wp2_with fail
                  refine wp_region_later (by kernel_rfl) (by kernel_rfl) ?_
                  repeat (go_big_quiet_step (first | (go_at_call 51; with_reducible exact calls_later_same (qp _)) | (go_at_call 51; with_reducible exact calls_later_same (ql _))))
                  refine wpQuiet_nil ?_
                  refine later_intro fun w1 hb1 => ?_
                  go_wp2
                  go_ret
                  exact ⟨ret_bool (netB_hyd Hh.out HB.out).symm, (below_step (below_alloc hbw2.out _) hb1)⟩
                | true =>
                  simp only [hy] at ql
                  have HB := hide (show hydB M.length (x0, x1) = false by rw [HS.out, hx, hy]; rfl)
                  clear HS hx hy
                  go_wp2_with fail
                  refine wp_region_later (by kernel_rfl) (by kernel_rfl) ?_
                  repeat (go_big_quiet_step (first | (go_at_call 51; with_reducible exact calls_later_same (qp _)) | (go_at_call 51; with_reducible exact calls_later_same (ql _))))
                  refine wpQuiet_nil ?_
                  refine later_intro fun w1 hb1 => ?_
                  go_wp2
                  go_ret
                  exact ⟨ret_bool (netB_hyd Hh.out HB.out).symm, (below_step (below_alloc hbw2.out _) hb1)⟩
              | true =>
                simp only [hx] at qp
                cases hy : inB x1 1 5000 with
                | false =>
                  simp only [hy] at ql
                  have HB := hide (show hydB M.length (x0, x1) = false by rw [HS.out, hx, hy]; rfl)
                  clear HS hx hy
                  go_wp2_with fail
                  refine wp_region_later (by kernel_rfl) (by kernel_rfl) ?_
                  repeat (go_big_quiet_step (first | (go_at_call 51; with_reducible exact calls_later_same (qp _)) | (go_at_call 51; with_reducible exact calls_later_same (ql _))))
                  refine wpQuiet_nil ?_
                  refine later_intro fun w1 hb1 => ?_
                  go_wp2
                  go_ret
                  exact ⟨ret_bool (netB_hyd Hh.out HB.out).symm, (below_step (below_alloc hbw2.out _) hb1)⟩
                | true =>
                  simp only [hy] at ql
                  have HB := hide (show hydB M.length (x0, x1) = true by rw [HS.out, hx, hy]; rfl)
                  clear HS hx hy
                  go_wp2_with fail
                  refine wp_region_later (by kernel_rfl) (by kernel_rfl) ?_
                  repeat (go_big_quiet_step (first | (go_at_call 51; with_reducible exact calls_later_same (qp _)) | (go_at_call 51; with_reducible exact calls_later_same (ql _))))
                  refine wpQuiet_nil ?_
                  refine later_intro fun w1 hb1 => ?_
                  go_wp2
                  go_roundw
                  case rel => exact ⟨j + 1, by omega, by go_num, hide (all_take_succ _ Hh.out HJ.out HB.out), (below_step (below_alloc hb2 _) hb1)⟩
                  case measure => simp [intOf]; omega
            · go_wp2
              go_ret
              exact ⟨ret_bool (netB_true HV.out H10.out HA'.out (all_of_take _ (by have := Hm.out; omega) HJ.out)).symm, hbw2.out⟩
    · have H10 := hide (show decide (H.length ≤ 10) = false by rw [← show m = H.length from Hm.out]; simpa using h10)
      go_enter Tryz.func29, Tryz.ntmps29
      go_wp2_with (go_at_call 51; ((with_reducible refine (q _).mono ?_); rintro e w' ⟨rfl, rfl⟩))
      go_ret
      exact ⟨ret_bool (netB_h H10.out).symm, (by repeat (first | exact Below.refl _ _ | refine below_step ?_ (by assumption) | refine below_step ?_ (Later.below _) | refine below_alloc ?_ _ | refine Below.drew ?_ | refine Below.setCell ?_ (by first | (simp; done) | (simp; omega)) _))⟩
end Go.Proofs.YtfcpgpmhjadanaaGreatDoor

/- ScarceMain: the reference's way. -/
import Derived.Test.YtfcpgpmhjadanaaNetSc
namespace Go.Proofs.Ytfcpgpmhjadanaa
open Go.RowKit
set_option linter.unusedVariables false

set_option maxRecDepth 100000 in
set_option maxHeartbeats 8000000 in
theorem specScarceMain_any (bA oA bB oB : Nat) (C : Option Addr) (n c m d k ecap : Nat) (M H : List (Int × Int)) (F : List Int) (w : World) (hn : n = M.length) (hm : m = H.length) (hnm : n ≤ maxLen) (hmm : m ≤ maxLen) (hkF : k = F.length) (hkm : k ≤ maxLen) (hr : NetRd w (some ⟨bA, oA, none⟩) (some ⟨bB, oB, none⟩) M H) (hf : Rd w C (F.map (Value.int .i64))) :
    Calls Try.prog 13 #[.agg #[.slice (some ⟨bA, oA, none⟩) n c, .slice (some ⟨bB, oB, none⟩) m d], .slice C k ecap] w fun e w' => e = .returned (.tuple #[.int .i64 (scV M H F), .bool (openB M H F)]) ∧ Below w.heap.size w w' := by
  have hc := cell_new2 w (.slice (some ⟨bA, oA, none⟩) n c) (.slice (some ⟨bB, oB, none⟩) m d) 27
  have Q := hide (hyOpen_any (some ⟨bA, oA, none⟩) (some ⟨bB, oB, none⟩) C n c m d k ecap M H F (w.alloc (.cells #[.slice (some ⟨bA, oA, none⟩) n c, .slice (some ⟨bB, oB, none⟩) m d] 27)) hn hm hnm hmm hkF hkm (hr.alloc _) (hf.alloc _))
  have Hn := hide hn
  have Hm := hide hm
  have HkF := hide hkF
  have Hr := hide hr
  have Hf := hide hf
  clear hn hm hkF hr hf
  cases hA : openB M H F with
  | false =>
    rw [hA] at Q
    have HE := hide hA
    clear hA hc
    go_enter Try.func13, Try.ntmps13
    go_wp2_with (go_at_call 28; ((with_reducible refine (Q.out).mono ?_); rintro e w1 ⟨rfl, hb1⟩); obtain ⟨hc1, hf1⟩ := bcell hb1)
    go_ret2
    exact ⟨ret_tup2 (scV_no HE.out).symm rfl, (by repeat (first | exact Below.refl _ _ | refine below_step ?_ (by assumption) | refine below_step ?_ (Later.below _) | refine below_alloc ?_ _ | refine Below.drew ?_ | refine Below.setCell ?_ (by first | (simp; done) | (simp; omega)) _))⟩
  | true =>
    rw [hA] at Q
    have HE' := hide hA
    rw [openB, Bool.and_eq_true] at hA
    have HK := hide (netB_ok hA.1)
    have hff := hA.2
    rw [← show m = H.length from Hm.out] at hff
    have HL := hide (risB_length hff)
    have HF := hide (fun (x : Int) (hx : x ∈ F) => show 0 ≤ x ∧ x < (m : Int) by have := risB_mem hff hx; omega)
    have hm10 : m ≤ 10 := by have := HK.out.h10; have := Hm.out; omega
    have hn10 : n ≤ 10 := by have := HK.out.m10; have := Hn.out; omega
    have hk10 : k ≤ 10 := by have := HL.out; have := HkF.out; omega
    have hn1 : 1 ≤ n := by have := HK.out.m1; have := Hn.out; omega
    clear hA hff
    go_enter Try.func13, Try.ntmps13
    go_wp2_with fail
    refine Q.out.mono ?_
    rintro e w1 ⟨rfl, hq⟩
    have HW1 : Hid (Below w.heap.size w w1) := hide (below_step (below_alloc (Below.refl _ _) _) hq)
    have a0 := cell_on hc.1 hq
    have a1 := cell_on hc.2 hq
    have z0 := World.block_lt_of_cell? w1 _ a0
    clear hq Q hc
    dsimp only at z0
    go_wp2_with fail
    have HC0 := hide a0
    have HC1 := hide a1
    clear a0 a1
    have HSB := hide (fun (i : Nat) (hi : i < n) => scS_bd HK.out F (i := i) (by have := Hn.out; omega))
    have QW := hide (fun (j : Nat) (W : World) (hj : j < n) (h : Below w1.heap.size w1 W) => hyWithout_any bA oA bB oB n c m d j M H W Hn.out Hm.out hn10 hm10 hj (NetRd.below Hr.out (below_step HW1.out h)))
    have QS := hide (fun (j : Nat) (W : World) (A2 A3 : Option Addr) (k2 k3 : Nat) (hj : j < n) (h : Below w1.heap.size w1 W) (h1 : Rd W A2 ((closeM M j).flatMap mcells)) (h2 : Rd W A3 (H.flatMap mcells)) => hySum_any A2 A3 C M.length k2 H.length k3 k ecap (closeM M j) H F (closeM_length M j).symm rfl (closeM_ok HK.out j (by have := Hn.out; omega)) HkF.out hk10 (by rw [← show m = H.length from Hm.out]; exact HF.out) M.length 0 W (by omega) (by have := Hn.out; omega) ⟨h1, h2⟩ (Hf.out.below (below_step HW1.out h)))
    go_loopw [6, 15] (fun v t wr => ∃ j : Nat, j ≤ n ∧ t = .int .i64 j ∧ v = .int .i64 (bestN (scS M H F) j : Nat) ∧ Hid (Below w1.heap.size w1 wr)) (fun _ t _ => n - (intOf t).toNat)
    case atStart => exact ⟨0, by omega, rfl, rfl, hide (Below.refl _ _)⟩
    case round =>
      obtain ⟨j, hj, rfl, rfl, HB⟩ := hrel
      have q0 := cell_on HC0.out HB.out
      have q1 := cell_on HC1.out HB.out
      have hbw := World.block_lt_of_cell? wr _ q0
      dsimp only at hbw
      by_cases hjn : j < n
      · have hbl : bestN (scS M H F) j < n := by have := bestN_le (scS M H F) j; omega
        have HN := hide (show bestN (scS M H F) (j + 1) = if scS M H F j < scS M H F (bestN (scS M H F) j) then j else bestN (scS M H F) j from rfl)
        have hsb := HSB.out j hjn
        have hsb2 := HSB.out _ hbl
        generalize hs : scS M H F j = s at *
        generalize ht : scS M H F (bestN (scS M H F) j) = t at *
        generalize hb : bestN (scS M H F) j = b at *
        have HS := hide (show sumM (closeM M j) H F 0 = s from hs)
        have HT := hide (show sumM (closeM M b) H F 0 = t from ht)
        clear hs ht hb
        go_wp2_with fail
        refine wpAnyH_start (n := 11) (by kernel_rfl) rfl rfl ?_
        refine wpAnyH_take_all [0, 1, 3, 5, 6, 8] 5 rfl (by kernel_rfl) (by intro c a d v w h; cases d <;> exact h) (by kernel_rfl) (by simp; rfl) rfl (later_drew _) ?_
        repeat (go_big_quiet_step (fail))
        refine wpQuiet_nil ?_
        clear q0 q1
        refine wpAnyH_only 2 (by kernel_rfl) (by simp; rfl) rfl rfl (later_drew _) (fun K hK => ?_)
        go_wp2_with fail
        refine (QW.out j wr.drew hjn HB.out.drew).mono ?_
        rintro e w2 ⟨⟨v, v', rfl, ho⟩, hq⟩
        obtain ⟨A2, k2, rfl, hA2, -⟩ := own_open ho.1
        obtain ⟨A3, k3, rfl, hA3, -⟩ := own_open ho.2
        have HB2 := hide (below_step HB.out.drew hq)
        rw [closeM_length]
        have HA2 := hide hA2
        have HA3 := hide hA3
        clear ho hA2 hA3
        go_wp2_with fail
        refine ⟨hq, ?_⟩
        clear hq
        refine wpAnyH_only 4 (by kernel_rfl) (by simp; rfl) rfl rfl (later_refl _) (fun K hK => ?_)
        go_wp2_with fail
        refine (QS.out j w2 A2 A3 k2 k3 hjn HB2.out HA2.out HA3.out).mono ?_
        rintro e w3 ⟨rfl, hq⟩
        have HB3 := hide (below_step HB2.out hq)
        rw [HS.out]
        go_wp2_with fail
        refine ⟨hq, ?_⟩
        clear hq
        refine wpAnyH_only 7 (by kernel_rfl) (by simp; rfl) rfl rfl (later_refl _) (fun K hK => ?_)
        go_wp2_with fail
        refine (QW.out b w3 hbl HB3.out).mono ?_
        rintro e w4 ⟨⟨v, v', rfl, ho⟩, hq⟩
        obtain ⟨A4, k4, rfl, hA2, -⟩ := own_open ho.1
        obtain ⟨A5, k5, rfl, hA3, -⟩ := own_open ho.2
        have HB4 := hide (below_step HB3.out hq)
        rw [closeM_length]
        have HA4 := hide hA2
        have HA5 := hide hA3
        clear ho hA2 hA3
        go_wp2_with fail
        refine ⟨hq, ?_⟩
        clear hq
        refine wpAnyH_only 9 (by kernel_rfl) (by simp; rfl) rfl rfl (later_refl _) (fun K hK => ?_)
        go_wp2_with fail
        refine (QS.out b w4 A4 A5 k4 k5 hbl HB4.out HA4.out HA5.out).mono ?_
        rintro e w5 ⟨rfl, hq⟩
        have HB5 := hide (below_step HB4.out hq)
        rw [HT.out]
        go_wp2_with fail
        refine ⟨hq, ?_⟩
        clear hq
        refine wpAnyH_only 10 (by kernel_rfl) (by simp; rfl) rfl rfl (later_refl _) (fun K hK => ?_)
        go_wp2_with fail
        refine ⟨Below.refl _ _, ?_⟩
        refine wpAnyH_done (by kernel_rfl) ?_ _
        by_cases hst : s < t
        · have HN2 := hide (show bestN (scS M H F) (j + 1) = j by rw [HN.out, if_pos hst])
          go_wp2
          go_roundw
          case rel => exact ⟨j + 1, by omega, by go_num, by rw [HN2.out], HB5⟩
          case measure => simp [intOf]; omega
        · have HN2 := hide (show bestN (scS M H F) (j + 1) = b by rw [HN.out, if_neg hst])
          go_wp2
          go_roundw
          case rel => exact ⟨j + 1, by omega, by go_num, by rw [HN2.out], HB5⟩
          case measure => simp [intOf]; omega
      · obtain rfl : j = n := by omega
        have HE2 := hide (show ((bestN (scS M H F) j : Nat) : Int) = scV M H F by rw [scV_yes HE'.out, ← show j = M.length from Hn.out])
        go_wp2
        go_ret2
        exact ⟨ret_tup2 HE2.out rfl, below_step HW1.out HB.out⟩
end Go.Proofs.Ytfcpgpmhjadanaa

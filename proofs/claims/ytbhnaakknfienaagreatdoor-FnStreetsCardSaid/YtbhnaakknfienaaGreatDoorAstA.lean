/- A street added: the program's way. -/
import Derived.Test.YtbhnaakknfienaaGreatDoorAstL
namespace Go.Proofs.YtbhnaakknfienaaGreatDoor
open Go.RowKit
set_option linter.unusedVariables false

set_option maxRecDepth 100000 in
set_option maxHeartbeats 8000000 in
theorem implAddStreet_any (nd : Int) (A : Option Addr) (n c : Nat) (l : List (Int × Int × Int)) (s0 s1 s2 : Int) (w : World) (hn : n = l.length) (hnc : n ≤ c) (hc : c ≤ maxLen) (hr : Rd w A (l.flatMap tcells)) (hA : ∃ b off, A = some ⟨b, off, none⟩) :
    Calls Tryz.prog 17 #[.agg #[.int .i64 nd, .slice A n c], .agg #[.int .i64 s0, .int .i64 s1, .int .i64 s2]] w (AdsPost nd l (s0, s1, s2) w) := by
  have Hn := hide hn
  have Hr := hide hr
  have hm : n ≤ maxLen := Nat.le_trans hnc hc
  have HA := hide hA
  clear hn hr hA
  by_cases hsw : s0 > s1
  · have HT := hide (show turnT (s0, s1, s2) = (s1, s0, s2) from if_pos hsw)
    go_enter Tryz.func17, Tryz.ntmps17
    go_wp2_with fail
    have HF := hide (((Row.new w #[.int .i64 nd, .slice A n c] 26).alloc (.cells #[.int .i64 s1, .int .i64 s0, .int .i64 s2] 39)).alloc (.cells #[.int .i64 0, .slice none 0 0] 26))
    have HS : Hid (Row (((w.alloc (.cells #[.int .i64 nd, .slice A n c] 26)).alloc (.cells #[.int .i64 s1, .int .i64 s0, .int .i64 s2] 39)).alloc (.cells #[.int .i64 0, .slice none 0 0] 26)) (w.heap.size + 1) [.int .i64 s1, .int .i64 s0, .int .i64 s2]) := hide (by
      have h := (Row.new (w.alloc (.cells #[.int .i64 nd, .slice A n c] 26)) #[.int .i64 s1, .int .i64 s0, .int .i64 s2] 39).alloc (.cells #[.int .i64 0, .slice none 0 0] 26)
      rwa [show (w.alloc (.cells #[.int .i64 nd, .slice A n c] 26)).heap.size = w.heap.size + 1 by simp] at h)
    have HG : Hid (Row (((w.alloc (.cells #[.int .i64 nd, .slice A n c] 26)).alloc (.cells #[.int .i64 s1, .int .i64 s0, .int .i64 s2] 39)).alloc (.cells #[.int .i64 0, .slice none 0 0] 26)) (w.heap.size + 1 + 1) [.int .i64 0, .slice none 0 0]) := hide (by
      have h := Row.new ((w.alloc (.cells #[.int .i64 nd, .slice A n c] 26)).alloc (.cells #[.int .i64 s1, .int .i64 s0, .int .i64 s2] 39)) #[.int .i64 0, .slice none 0 0] 26
      rwa [show ((w.alloc (.cells #[.int .i64 nd, .slice A n c] 26)).alloc (.cells #[.int .i64 s1, .int .i64 s0, .int .i64 s2] 39)).heap.size = w.heap.size + 1 + 1 by simp] at h)
    have HW := hide (below_alloc (below_alloc (below_alloc (Below.refl w.heap.size w) (.cells #[.int .i64 nd, .slice A n c] 26)) (.cells #[.int .i64 s1, .int .i64 s0, .int .i64 s2] 39)) (.cells #[.int .i64 0, .slice none 0 0] 26))
    generalize ((w.alloc (.cells #[.int .i64 nd, .slice A n c] 26)).alloc (.cells #[.int .i64 s1, .int .i64 s0, .int .i64 s2] 39)).alloc (.cells #[.int .i64 0, .slice none 0 0] 26) = W0 at *
    have Q := hide (implisTown_any w.heap.size nd A n c l W0 Hn.out hm (Hr.out.below HW.out) HF.out.1 (HF.out.2.1 0 _ rfl) (HF.out.2.1 1 _ rfl))
    have HTF := hide (turn_fit nd (s0, s1, s2))
    have HTS : Hid (stFind l s1 s0 = stFind l (s0, s1, s2).1 (s0, s1, s2).2.1) := hide (by have h := turn_find l (s0, s1, s2); rw [HT.out] at h; exact h)
    rw [HT.out] at HTF
    cases ht : townB nd l with
    | false =>
      have HE := hide (show adsOk nd l (s0, s1, s2) = false by rw [adsOk, ht]; rfl)
      rw [ht] at Q
      clear ht
      refine Q.out.mono ?_
      rintro e w1 ⟨rfl, hq⟩
      replace HW := hide (below_step HW.out hq)
      replace HF := hide (HF.out.below hq)
      replace HS := hide (HS.out.below hq)
      replace HG := hide (HG.out.below hq)
      clear hq
      have e0 := HG.out.2.1 0 _ rfl
      have e1 := HG.out.2.1 1 _ rfl
      have f0 := HG.out.free 0
      have f1 := HG.out.free 1
      go_wp2
      exact bodyPost_ret (v := .tuple #[.agg #[.int .i64 0, .slice none 0 0], .bool false]) (by simp [results, Tryz.results17, go_sem, *]) rfl (AdsPost.no HE.out ((HW.out.setCell (by simp; omega) _).setCell (by simp; omega) _))
    | true =>
      rw [ht] at Q
      have HTB := hide ht
      obtain ⟨k0, rfl, hk0⟩ := townB_ok ht
      have h1 := hk0.lo
      have h2 := hk0.hi
      have hn40 : n ≤ 40 := by have := hk0.len; have := Hn.out; omega
      clear ht hk0
      refine Q.out.mono ?_
      rintro e w1 ⟨rfl, hq⟩
      replace HW := hide (below_step HW.out hq)
      replace HF := hide (HF.out.below hq)
      replace HS := hide (HS.out.below hq)
      replace HG := hide (HG.out.below hq)
      clear hq
      have a0 := HF.out.2.1 0 _ rfl
      have a1 := HF.out.2.1 1 _ rfl
      have r0 := HS.out.2.1 0 _ rfl
      have r1 := HS.out.2.1 1 _ rfl
      have r2 := HS.out.2.1 2 _ rfl
      have az := HF.out.1
      have rz := HS.out.1
      have QF := hide (fits_any w.heap.size (k0 : Int) s1 s0 s2 w1 (by omega) (by omega) az a0)
      cases hf : fitB (k0 : Int) (s1, s0, s2) with
      | false =>
        have HE := hide (show adsOk k0 l (s0, s1, s2) = false by rw [adsOk, ← HTF.out, hf, Bool.and_false]; rfl)
        rw [hf] at QF
        clear hf
        go_wp2_with fail
        refine QF.out.mono ?_
        rintro e w2 ⟨rfl, hq⟩
        clear a0 a1 r0 r1 r2 az rz
        replace HW := hide (below_step HW.out hq)
        replace HF := hide (HF.out.below hq)
        replace HS := hide (HS.out.below hq)
        replace HG := hide (HG.out.below hq)
        clear hq
        have e0 := HG.out.2.1 0 _ rfl
        have e1 := HG.out.2.1 1 _ rfl
        have f0 := HG.out.free 0
        have f1 := HG.out.free 1
        go_wp2
        exact bodyPost_ret (v := .tuple #[.agg #[.int .i64 0, .slice none 0 0], .bool false]) (by simp [results, Tryz.results17, go_sem, *]) rfl (AdsPost.no HE.out ((HW.out.setCell (by simp; omega) _).setCell (by simp; omega) _))
      | true =>
        rw [hf] at QF
        have HFT := hide hf
        clear hf
        go_wp2_with fail
        refine QF.out.mono ?_
        rintro e w2 ⟨rfl, hq⟩
        clear a0 a1 r0 r1 r2 az rz
        replace HW := hide (below_step HW.out hq)
        replace HF := hide (HF.out.below hq)
        replace HS := hide (HS.out.below hq)
        replace HG := hide (HG.out.below hq)
        clear hq
        have a0 := HF.out.2.1 0 _ rfl
        have a1 := HF.out.2.1 1 _ rfl
        have r0 := HS.out.2.1 0 _ rfl
        have r1 := HS.out.2.1 1 _ rfl
        have r2 := HS.out.2.1 2 _ rfl
        have az := HF.out.1
        have rz := HS.out.1
        go_wp2_with fail
        refine (street_any w.heap.size A n c l s1 s0 _ Hn.out (by omega) (Hr.out.below HW.out) a1).mono ?_
        rintro e w3 ⟨rfl, hq⟩
        clear a0 a1 r0 r1 r2 az rz
        replace HW := hide (below_step HW.out hq)
        replace HF := hide (HF.out.below hq)
        replace HS := hide (HS.out.below hq)
        replace HG := hide (HG.out.below hq)
        clear hq
        have a0 := HF.out.2.1 0 _ rfl
        have a1 := HF.out.2.1 1 _ rfl
        have r0 := HS.out.2.1 0 _ rfl
        have r1 := HS.out.2.1 1 _ rfl
        have r2 := HS.out.2.1 2 _ rfl
        have az := HF.out.1
        have rz := HS.out.1
        by_cases hs : 0 ≤ stFind l s1 s0
        · have HE := hide (show adsOk k0 l (s0, s1, s2) = false by rw [adsOk, decide_eq_false (show ¬ stFind l (s0, s1, s2).1 (s0, s1, s2).2.1 < 0 by rw [← HTS.out]; omega), Bool.and_false]; rfl)
          have e0 := HG.out.2.1 0 _ rfl
          have e1 := HG.out.2.1 1 _ rfl
          have f0 := HG.out.free 0
          have f1 := HG.out.free 1
          go_wp2
          exact bodyPost_ret (v := .tuple #[.agg #[.int .i64 0, .slice none 0 0], .bool false]) (by simp [results, Tryz.results17, go_sem, *]) rfl (AdsPost.no HE.out ((HW.out.setCell (by simp; omega) _).setCell (by simp; omega) _))
        · by_cases h40 : n = 40
          · have HE := hide (show adsOk k0 l (s0, s1, s2) = false by rw [adsOk, decide_eq_false (show ¬ l.length < 40 by have := Hn.out; omega), Bool.and_false])
            have h40' : ((n : Int) == 40) = true := by simp; omega
            clear h40
            have e0 := HG.out.2.1 0 _ rfl
            have e1 := HG.out.2.1 1 _ rfl
            have f0 := HG.out.free 0
            have f1 := HG.out.free 1
            go_wp2
            exact bodyPost_ret (v := .tuple #[.agg #[.int .i64 0, .slice none 0 0], .bool false]) (by simp [results, Tryz.results17, go_sem, *]) rfl (AdsPost.no HE.out ((HW.out.setCell (by simp; omega) _).setCell (by simp; omega) _))
          · have HE := hide (show adsOk k0 l (s0, s1, s2) = true by rw [adsOk, HTB.out, ← HTF.out, HFT.out, decide_eq_true (show stFind l (s0, s1, s2).1 (s0, s1, s2).2.1 < 0 by rw [← HTS.out]; omega), decide_eq_true (show l.length < 40 by have := Hn.out; omega)]; rfl)
            have h40' : ((n : Int) == 40) = false := by simp; omega
            clear h40
            go_wp2_with fail
            refine (search_any A n c l s1 s0 s2 w3 Hn.out (by omega) (Hr.out.below HW.out)).mono ?_
            rintro e w4 ⟨⟨k, bb, rfl, hsk⟩, hq⟩
            clear a0 a1 r0 r1 r2 az rz
            replace HW := hide (below_step HW.out hq)
            replace HF := hide (HF.out.below hq)
            replace HS := hide (HS.out.below hq)
            replace HG := hide (HG.out.below hq)
            clear hq
            have a0 := HF.out.2.1 0 _ rfl
            have a1 := HF.out.2.1 1 _ rfl
            have r0 := HS.out.2.1 0 _ rfl
            have r1 := HS.out.2.1 1 _ rfl
            have r2 := HS.out.2.1 2 _ rfl
            have az := HF.out.1
            have rz := HS.out.1
            have HSK := hide hsk
            have hkn : k ≤ n := by have := hsk.1; have := Hn.out; omega
            clear hsk
            go_wp2_with fail
            obtain ⟨b, off, rfl⟩ := HA.out
            refine wpAnyS_start (fun w' => ∃ n : LaterX w4 (w.heap.size + 1 + 1), w' = n.w) (n := 12) (by kernel_rfl) rfl rfl ?_
            refine wpAnyS_take_all [0, 1, 2, 3, 5, 6] 6 rfl (by kernel_rfl) (by intro c a d v w h; cases d <;> exact h) (by kernel_rfl) (by simp; rfl) rfl (laterX_drew _ _) ?_
            repeat (go_big_quiet_step (fail))
            refine wpQuiet_nil ?_
            clear a0 a1 r0 r1 r2 az rz
            have HL : Hid (Below w4.heap.size w4 w4.drew) := hide (Below.refl _ _).drew
            generalize w4.drew = V0 at *
            refine wpAnyS_two 4 7 (by kernel_rfl) (by simp; rfl) (by simp; rfl) rfl rfl rfl rfl (fun K hK => ?_) (fun K hK => ?_)
            · go_wp2_with fail
              refine (clone_any b off n c l V0 Hn.out (by omega) (Hr.out.below (below_step HW.out HL.out))).mono ?_
              rintro e w5 ⟨⟨v, rfl, ho⟩, hq⟩
              have HL5 := hide (below_step HL.out hq)
              have HO5 := hide (own_le (B' := w4.heap.size) ho HL.out.size)
              clear ho hq HL
              go_wp2_with fail
              refine ⟨laterX_of (grown_of_below HL5.out _), ?_⟩
              refine wpAnyS_only 7 (by kernel_rfl) (by simp; rfl) rfl rfl (fun K hK => ?_)
              have HL6 := hide (below_alloc HL5.out (.cells #[.int .i64 s1, .int .i64 s0, .int .i64 s2] 39))
              have HO6 := hide (World.ownsRow.alloc HO5.out (.cells #[.int .i64 s1, .int .i64 s0, .int .i64 s2] 39))
              have HN6 := hide (heap_new w5 #[.int .i64 s1, .int .i64 s0, .int .i64 s2] 39)
              have HNE : Hid (v.ownBlock ≠ some w5.heap.size) := hide (fun e => by have := (HO5.out.lt _ e).2; omega)
              go_wp2_with fail
              refine ⟨laterX_of (grown_of_below HL6.out _), ?_⟩
              generalize w5.alloc (.cells #[.int .i64 s1, .int .i64 s0, .int .i64 s2] 39) = w6 at *
              generalize w5.heap.size = VB at *
              refine wpAnyS_only 8 (by kernel_rfl) (by simp; rfl) rfl rfl (fun K hK => ?_)
              go_wp2_with fail
              refine (insStreet_any w4.heap.size v n k l s1 s0 s2 VB w6 HO6.out Hn.out hkn (by omega) HN6.out HNE.out HL6.out.size).mono ?_
              rintro e w7 ⟨⟨v', rfl, ho⟩, hg⟩
              have HB7 := hide (HL6.out.grown hg HL6.out.size (fun j hj => (HO6.out.lt _ hj).1))
              have HO7 := hide (own_le (B' := w.heap.size) ho HW.out.size)
              have HW7 := hide (below_step HW.out HB7.out)
              have HG7 := hide (HG.out.below HB7.out)
              have HGlt := hide HG.out.1
              have HLT : Hid (∀ b, v'.ownBlock = some b → w4.heap.size ≤ b) := hide (fun b hb => (ho.lt b hb).1)
              obtain ⟨A9, c9, hv9, -⟩ := own_open HO7.out
              subst hv9
              clear ho hg
              go_wp2_with fail
              refine ⟨laterX_of (grown_of_below HB7.out _), ?_⟩
              have e0 := HG7.out.2.1 0 _ rfl
              have e1 := HG7.out.2.1 1 _ rfl
              have f0 := HG7.out.free 0
              have f1 := HG7.out.free 1
              have HKP : Hid (∀ (W : World) (o : Nat) (u : Value), W.ownsRow w.heap.size 39 3 (.slice A9 (n + 1) c9) (n + 1) ((l.take k ++ [(s1, s0, s2)] ++ l.drop k).flatMap tcells) → (W.setCell ⟨w.heap.size + 1 + 1, o, none⟩ u).ownsRow w.heap.size 39 3 (.slice A9 (n + 1) c9) (n + 1) ((l.take k ++ [(s1, s0, s2)] ++ l.drop k).flatMap tcells)) := hide (fun W o u h => own_kept h (grown_set (g := w.heap.size + 1 + 1) u rfl) (fun b hb e => by injection e with e; have := HLT.out b hb; have := HGlt.out; omega))
              refine wpAnyS_only 9 (by kernel_rfl) (by simp; rfl) rfl rfl (fun K hK => ?_)
              go_wp2_with fail
              refine ⟨laterX_of (grown_of_below HB7.out _), ?_⟩
              refine wpAnyS_only 10 (by kernel_rfl) (by simp; rfl) rfl rfl (fun K hK => ?_)
              go_wp2_with fail
              refine ⟨laterX_of (grown_trans (grown_trans (grown_of_below HB7.out _) (grown_set _ rfl)) (grown_set _ rfl)), ?_⟩
              refine wpAnyS_only 11 (by kernel_rfl) (by simp; rfl) rfl rfl (fun K hK => ?_)
              go_wp2_with fail
              refine ⟨laterX_of (grown_trans (grown_trans (grown_of_below HB7.out _) (grown_set _ rfl)) (grown_set _ rfl)), ?_⟩
              refine wpAnyH_done (by kernel_rfl) ?_ _
              go_wp2
              exact bodyPost_ret (v := .tuple #[.agg #[.int .i64 (k0 : Int), (.slice A9 (n + 1) c9)], .bool true]) (by simp [results, Tryz.results17, go_sem, *]) rfl (AdsPost.yes (n := n + 1) HE.out (by rw [HT.out]; exact HSK.out) (by have := Hn.out; omega) (by rw [HT.out]; exact HKP.out _ _ _ (HKP.out _ _ _ HO7.out)) ((HW7.out.setCell (by simp; omega) _).setCell (by simp; omega) _))
            · go_wp2_with fail
              have HL5 := hide (below_alloc HL.out (.cells #[.int .i64 s1, .int .i64 s0, .int .i64 s2] 39))
              have HN5 := hide (heap_new V0 #[.int .i64 s1, .int .i64 s0, .int .i64 s2] 39)
              have HZ5 := hide (show V0.heap.size < (V0.alloc (.cells #[.int .i64 s1, .int .i64 s0, .int .i64 s2] 39)).heap.size by simp)
              refine ⟨laterX_of (grown_of_below HL5.out _), ?_⟩
              generalize V0.alloc (.cells #[.int .i64 s1, .int .i64 s0, .int .i64 s2] 39) = w5 at *
              generalize V0.heap.size = VB at *
              refine wpAnyS_only 4 (by kernel_rfl) (by simp; rfl) rfl rfl (fun K hK => ?_)
              go_wp2_with fail
              refine (clone_any b off n c l w5 Hn.out (by omega) (Hr.out.below (below_step HW.out HL5.out))).mono ?_
              rintro e w6 ⟨⟨v, rfl, ho⟩, hq⟩
              have HL6 := hide (below_step HL5.out hq)
              have HO6 := hide (own_le (B' := w4.heap.size) ho HL5.out.size)
              have HN6 := hide (heap_grown HN5.out (grown_of_below hq none) (by simp))
              have HNE : Hid (v.ownBlock ≠ some VB) := hide (fun e => by have := (ho.lt _ e).1; have := HZ5.out; omega)
              clear ho hq HL
              go_wp2_with fail
              refine ⟨laterX_of (grown_of_below HL6.out _), ?_⟩
              refine wpAnyS_only 8 (by kernel_rfl) (by simp; rfl) rfl rfl (fun K hK => ?_)
              go_wp2_with fail
              refine (insStreet_any w4.heap.size v n k l s1 s0 s2 VB w6 HO6.out Hn.out hkn (by omega) HN6.out HNE.out HL6.out.size).mono ?_
              rintro e w7 ⟨⟨v', rfl, ho⟩, hg⟩
              have HB7 := hide (HL6.out.grown hg HL6.out.size (fun j hj => (HO6.out.lt _ hj).1))
              have HO7 := hide (own_le (B' := w.heap.size) ho HW.out.size)
              have HW7 := hide (below_step HW.out HB7.out)
              have HG7 := hide (HG.out.below HB7.out)
              have HGlt := hide HG.out.1
              have HLT : Hid (∀ b, v'.ownBlock = some b → w4.heap.size ≤ b) := hide (fun b hb => (ho.lt b hb).1)
              obtain ⟨A9, c9, hv9, -⟩ := own_open HO7.out
              subst hv9
              clear ho hg
              go_wp2_with fail
              refine ⟨laterX_of (grown_of_below HB7.out _), ?_⟩
              have e0 := HG7.out.2.1 0 _ rfl
              have e1 := HG7.out.2.1 1 _ rfl
              have f0 := HG7.out.free 0
              have f1 := HG7.out.free 1
              have HKP : Hid (∀ (W : World) (o : Nat) (u : Value), W.ownsRow w.heap.size 39 3 (.slice A9 (n + 1) c9) (n + 1) ((l.take k ++ [(s1, s0, s2)] ++ l.drop k).flatMap tcells) → (W.setCell ⟨w.heap.size + 1 + 1, o, none⟩ u).ownsRow w.heap.size 39 3 (.slice A9 (n + 1) c9) (n + 1) ((l.take k ++ [(s1, s0, s2)] ++ l.drop k).flatMap tcells)) := hide (fun W o u h => own_kept h (grown_set (g := w.heap.size + 1 + 1) u rfl) (fun b hb e => by injection e with e; have := HLT.out b hb; have := HGlt.out; omega))
              refine wpAnyS_only 9 (by kernel_rfl) (by simp; rfl) rfl rfl (fun K hK => ?_)
              go_wp2_with fail
              refine ⟨laterX_of (grown_of_below HB7.out _), ?_⟩
              refine wpAnyS_only 10 (by kernel_rfl) (by simp; rfl) rfl rfl (fun K hK => ?_)
              go_wp2_with fail
              refine ⟨laterX_of (grown_trans (grown_trans (grown_of_below HB7.out _) (grown_set _ rfl)) (grown_set _ rfl)), ?_⟩
              refine wpAnyS_only 11 (by kernel_rfl) (by simp; rfl) rfl rfl (fun K hK => ?_)
              go_wp2_with fail
              refine ⟨laterX_of (grown_trans (grown_trans (grown_of_below HB7.out _) (grown_set _ rfl)) (grown_set _ rfl)), ?_⟩
              refine wpAnyH_done (by kernel_rfl) ?_ _
              go_wp2
              exact bodyPost_ret (v := .tuple #[.agg #[.int .i64 (k0 : Int), (.slice A9 (n + 1) c9)], .bool true]) (by simp [results, Tryz.results17, go_sem, *]) rfl (AdsPost.yes (n := n + 1) HE.out (by rw [HT.out]; exact HSK.out) (by have := Hn.out; omega) (by rw [HT.out]; exact HKP.out _ _ _ (HKP.out _ _ _ HO7.out)) ((HW7.out.setCell (by simp; omega) _).setCell (by simp; omega) _))
  · have HT := hide (show turnT (s0, s1, s2) = (s0, s1, s2) from if_neg hsw)
    go_enter Tryz.func17, Tryz.ntmps17
    go_wp2_with fail
    have HF := hide (((Row.new w #[.int .i64 nd, .slice A n c] 26).alloc (.cells #[.int .i64 s0, .int .i64 s1, .int .i64 s2] 39)).alloc (.cells #[.int .i64 0, .slice none 0 0] 26))
    have HS : Hid (Row (((w.alloc (.cells #[.int .i64 nd, .slice A n c] 26)).alloc (.cells #[.int .i64 s0, .int .i64 s1, .int .i64 s2] 39)).alloc (.cells #[.int .i64 0, .slice none 0 0] 26)) (w.heap.size + 1) [.int .i64 s0, .int .i64 s1, .int .i64 s2]) := hide (by
      have h := (Row.new (w.alloc (.cells #[.int .i64 nd, .slice A n c] 26)) #[.int .i64 s0, .int .i64 s1, .int .i64 s2] 39).alloc (.cells #[.int .i64 0, .slice none 0 0] 26)
      rwa [show (w.alloc (.cells #[.int .i64 nd, .slice A n c] 26)).heap.size = w.heap.size + 1 by simp] at h)
    have HG : Hid (Row (((w.alloc (.cells #[.int .i64 nd, .slice A n c] 26)).alloc (.cells #[.int .i64 s0, .int .i64 s1, .int .i64 s2] 39)).alloc (.cells #[.int .i64 0, .slice none 0 0] 26)) (w.heap.size + 1 + 1) [.int .i64 0, .slice none 0 0]) := hide (by
      have h := Row.new ((w.alloc (.cells #[.int .i64 nd, .slice A n c] 26)).alloc (.cells #[.int .i64 s0, .int .i64 s1, .int .i64 s2] 39)) #[.int .i64 0, .slice none 0 0] 26
      rwa [show ((w.alloc (.cells #[.int .i64 nd, .slice A n c] 26)).alloc (.cells #[.int .i64 s0, .int .i64 s1, .int .i64 s2] 39)).heap.size = w.heap.size + 1 + 1 by simp] at h)
    have HW := hide (below_alloc (below_alloc (below_alloc (Below.refl w.heap.size w) (.cells #[.int .i64 nd, .slice A n c] 26)) (.cells #[.int .i64 s0, .int .i64 s1, .int .i64 s2] 39)) (.cells #[.int .i64 0, .slice none 0 0] 26))
    generalize ((w.alloc (.cells #[.int .i64 nd, .slice A n c] 26)).alloc (.cells #[.int .i64 s0, .int .i64 s1, .int .i64 s2] 39)).alloc (.cells #[.int .i64 0, .slice none 0 0] 26) = W0 at *
    have Q := hide (implisTown_any w.heap.size nd A n c l W0 Hn.out hm (Hr.out.below HW.out) HF.out.1 (HF.out.2.1 0 _ rfl) (HF.out.2.1 1 _ rfl))
    have HTF := hide (turn_fit nd (s0, s1, s2))
    have HTS : Hid (stFind l s0 s1 = stFind l (s0, s1, s2).1 (s0, s1, s2).2.1) := hide (rfl)
    rw [HT.out] at HTF
    cases ht : townB nd l with
    | false =>
      have HE := hide (show adsOk nd l (s0, s1, s2) = false by rw [adsOk, ht]; rfl)
      rw [ht] at Q
      clear ht
      refine Q.out.mono ?_
      rintro e w1 ⟨rfl, hq⟩
      replace HW := hide (below_step HW.out hq)
      replace HF := hide (HF.out.below hq)
      replace HS := hide (HS.out.below hq)
      replace HG := hide (HG.out.below hq)
      clear hq
      have e0 := HG.out.2.1 0 _ rfl
      have e1 := HG.out.2.1 1 _ rfl
      have f0 := HG.out.free 0
      have f1 := HG.out.free 1
      go_wp2
      exact bodyPost_ret (v := .tuple #[.agg #[.int .i64 0, .slice none 0 0], .bool false]) (by simp [results, Tryz.results17, go_sem, *]) rfl (AdsPost.no HE.out ((HW.out.setCell (by simp; omega) _).setCell (by simp; omega) _))
    | true =>
      rw [ht] at Q
      have HTB := hide ht
      obtain ⟨k0, rfl, hk0⟩ := townB_ok ht
      have h1 := hk0.lo
      have h2 := hk0.hi
      have hn40 : n ≤ 40 := by have := hk0.len; have := Hn.out; omega
      clear ht hk0
      refine Q.out.mono ?_
      rintro e w1 ⟨rfl, hq⟩
      replace HW := hide (below_step HW.out hq)
      replace HF := hide (HF.out.below hq)
      replace HS := hide (HS.out.below hq)
      replace HG := hide (HG.out.below hq)
      clear hq
      have a0 := HF.out.2.1 0 _ rfl
      have a1 := HF.out.2.1 1 _ rfl
      have r0 := HS.out.2.1 0 _ rfl
      have r1 := HS.out.2.1 1 _ rfl
      have r2 := HS.out.2.1 2 _ rfl
      have az := HF.out.1
      have rz := HS.out.1
      have QF := hide (fits_any w.heap.size (k0 : Int) s0 s1 s2 w1 (by omega) (by omega) az a0)
      cases hf : fitB (k0 : Int) (s0, s1, s2) with
      | false =>
        have HE := hide (show adsOk k0 l (s0, s1, s2) = false by rw [adsOk, ← HTF.out, hf, Bool.and_false]; rfl)
        rw [hf] at QF
        clear hf
        go_wp2_with fail
        refine QF.out.mono ?_
        rintro e w2 ⟨rfl, hq⟩
        clear a0 a1 r0 r1 r2 az rz
        replace HW := hide (below_step HW.out hq)
        replace HF := hide (HF.out.below hq)
        replace HS := hide (HS.out.below hq)
        replace HG := hide (HG.out.below hq)
        clear hq
        have e0 := HG.out.2.1 0 _ rfl
        have e1 := HG.out.2.1 1 _ rfl
        have f0 := HG.out.free 0
        have f1 := HG.out.free 1
        go_wp2
        exact bodyPost_ret (v := .tuple #[.agg #[.int .i64 0, .slice none 0 0], .bool false]) (by simp [results, Tryz.results17, go_sem, *]) rfl (AdsPost.no HE.out ((HW.out.setCell (by simp; omega) _).setCell (by simp; omega) _))
      | true =>
        rw [hf] at QF
        have HFT := hide hf
        clear hf
        go_wp2_with fail
        refine QF.out.mono ?_
        rintro e w2 ⟨rfl, hq⟩
        clear a0 a1 r0 r1 r2 az rz
        replace HW := hide (below_step HW.out hq)
        replace HF := hide (HF.out.below hq)
        replace HS := hide (HS.out.below hq)
        replace HG := hide (HG.out.below hq)
        clear hq
        have a0 := HF.out.2.1 0 _ rfl
        have a1 := HF.out.2.1 1 _ rfl
        have r0 := HS.out.2.1 0 _ rfl
        have r1 := HS.out.2.1 1 _ rfl
        have r2 := HS.out.2.1 2 _ rfl
        have az := HF.out.1
        have rz := HS.out.1
        go_wp2_with fail
        refine (street_any w.heap.size A n c l s0 s1 _ Hn.out (by omega) (Hr.out.below HW.out) a1).mono ?_
        rintro e w3 ⟨rfl, hq⟩
        clear a0 a1 r0 r1 r2 az rz
        replace HW := hide (below_step HW.out hq)
        replace HF := hide (HF.out.below hq)
        replace HS := hide (HS.out.below hq)
        replace HG := hide (HG.out.below hq)
        clear hq
        have a0 := HF.out.2.1 0 _ rfl
        have a1 := HF.out.2.1 1 _ rfl
        have r0 := HS.out.2.1 0 _ rfl
        have r1 := HS.out.2.1 1 _ rfl
        have r2 := HS.out.2.1 2 _ rfl
        have az := HF.out.1
        have rz := HS.out.1
        by_cases hs : 0 ≤ stFind l s0 s1
        · have HE := hide (show adsOk k0 l (s0, s1, s2) = false by rw [adsOk, decide_eq_false (show ¬ stFind l (s0, s1, s2).1 (s0, s1, s2).2.1 < 0 by first | (show ¬ stFind l s0 s1 < 0; omega) | (show stFind l s0 s1 < 0; omega)), Bool.and_false]; rfl)
          have e0 := HG.out.2.1 0 _ rfl
          have e1 := HG.out.2.1 1 _ rfl
          have f0 := HG.out.free 0
          have f1 := HG.out.free 1
          go_wp2
          exact bodyPost_ret (v := .tuple #[.agg #[.int .i64 0, .slice none 0 0], .bool false]) (by simp [results, Tryz.results17, go_sem, *]) rfl (AdsPost.no HE.out ((HW.out.setCell (by simp; omega) _).setCell (by simp; omega) _))
        · by_cases h40 : n = 40
          · have HE := hide (show adsOk k0 l (s0, s1, s2) = false by rw [adsOk, decide_eq_false (show ¬ l.length < 40 by have := Hn.out; omega), Bool.and_false])
            have h40' : ((n : Int) == 40) = true := by simp; omega
            clear h40
            have e0 := HG.out.2.1 0 _ rfl
            have e1 := HG.out.2.1 1 _ rfl
            have f0 := HG.out.free 0
            have f1 := HG.out.free 1
            go_wp2
            exact bodyPost_ret (v := .tuple #[.agg #[.int .i64 0, .slice none 0 0], .bool false]) (by simp [results, Tryz.results17, go_sem, *]) rfl (AdsPost.no HE.out ((HW.out.setCell (by simp; omega) _).setCell (by simp; omega) _))
          · have HE := hide (show adsOk k0 l (s0, s1, s2) = true by rw [adsOk, HTB.out, ← HTF.out, HFT.out, decide_eq_true (show stFind l (s0, s1, s2).1 (s0, s1, s2).2.1 < 0 by first | (show ¬ stFind l s0 s1 < 0; omega) | (show stFind l s0 s1 < 0; omega)), decide_eq_true (show l.length < 40 by have := Hn.out; omega)]; rfl)
            have h40' : ((n : Int) == 40) = false := by simp; omega
            clear h40
            go_wp2_with fail
            refine (search_any A n c l s0 s1 s2 w3 Hn.out (by omega) (Hr.out.below HW.out)).mono ?_
            rintro e w4 ⟨⟨k, bb, rfl, hsk⟩, hq⟩
            clear a0 a1 r0 r1 r2 az rz
            replace HW := hide (below_step HW.out hq)
            replace HF := hide (HF.out.below hq)
            replace HS := hide (HS.out.below hq)
            replace HG := hide (HG.out.below hq)
            clear hq
            have a0 := HF.out.2.1 0 _ rfl
            have a1 := HF.out.2.1 1 _ rfl
            have r0 := HS.out.2.1 0 _ rfl
            have r1 := HS.out.2.1 1 _ rfl
            have r2 := HS.out.2.1 2 _ rfl
            have az := HF.out.1
            have rz := HS.out.1
            have HSK := hide hsk
            have hkn : k ≤ n := by have := hsk.1; have := Hn.out; omega
            clear hsk
            go_wp2_with fail
            obtain ⟨b, off, rfl⟩ := HA.out
            refine wpAnyS_start (fun w' => ∃ n : LaterX w4 (w.heap.size + 1 + 1), w' = n.w) (n := 12) (by kernel_rfl) rfl rfl ?_
            refine wpAnyS_take_all [0, 1, 2, 3, 5, 6] 6 rfl (by kernel_rfl) (by intro c a d v w h; cases d <;> exact h) (by kernel_rfl) (by simp; rfl) rfl (laterX_drew _ _) ?_
            repeat (go_big_quiet_step (fail))
            refine wpQuiet_nil ?_
            clear a0 a1 r0 r1 r2 az rz
            have HL : Hid (Below w4.heap.size w4 w4.drew) := hide (Below.refl _ _).drew
            generalize w4.drew = V0 at *
            refine wpAnyS_two 4 7 (by kernel_rfl) (by simp; rfl) (by simp; rfl) rfl rfl rfl rfl (fun K hK => ?_) (fun K hK => ?_)
            · go_wp2_with fail
              refine (clone_any b off n c l V0 Hn.out (by omega) (Hr.out.below (below_step HW.out HL.out))).mono ?_
              rintro e w5 ⟨⟨v, rfl, ho⟩, hq⟩
              have HL5 := hide (below_step HL.out hq)
              have HO5 := hide (own_le (B' := w4.heap.size) ho HL.out.size)
              clear ho hq HL
              go_wp2_with fail
              refine ⟨laterX_of (grown_of_below HL5.out _), ?_⟩
              refine wpAnyS_only 7 (by kernel_rfl) (by simp; rfl) rfl rfl (fun K hK => ?_)
              have HL6 := hide (below_alloc HL5.out (.cells #[.int .i64 s0, .int .i64 s1, .int .i64 s2] 39))
              have HO6 := hide (World.ownsRow.alloc HO5.out (.cells #[.int .i64 s0, .int .i64 s1, .int .i64 s2] 39))
              have HN6 := hide (heap_new w5 #[.int .i64 s0, .int .i64 s1, .int .i64 s2] 39)
              have HNE : Hid (v.ownBlock ≠ some w5.heap.size) := hide (fun e => by have := (HO5.out.lt _ e).2; omega)
              go_wp2_with fail
              refine ⟨laterX_of (grown_of_below HL6.out _), ?_⟩
              generalize w5.alloc (.cells #[.int .i64 s0, .int .i64 s1, .int .i64 s2] 39) = w6 at *
              generalize w5.heap.size = VB at *
              refine wpAnyS_only 8 (by kernel_rfl) (by simp; rfl) rfl rfl (fun K hK => ?_)
              go_wp2_with fail
              refine (insStreet_any w4.heap.size v n k l s0 s1 s2 VB w6 HO6.out Hn.out hkn (by omega) HN6.out HNE.out HL6.out.size).mono ?_
              rintro e w7 ⟨⟨v', rfl, ho⟩, hg⟩
              have HB7 := hide (HL6.out.grown hg HL6.out.size (fun j hj => (HO6.out.lt _ hj).1))
              have HO7 := hide (own_le (B' := w.heap.size) ho HW.out.size)
              have HW7 := hide (below_step HW.out HB7.out)
              have HG7 := hide (HG.out.below HB7.out)
              have HGlt := hide HG.out.1
              have HLT : Hid (∀ b, v'.ownBlock = some b → w4.heap.size ≤ b) := hide (fun b hb => (ho.lt b hb).1)
              obtain ⟨A9, c9, hv9, -⟩ := own_open HO7.out
              subst hv9
              clear ho hg
              go_wp2_with fail
              refine ⟨laterX_of (grown_of_below HB7.out _), ?_⟩
              have e0 := HG7.out.2.1 0 _ rfl
              have e1 := HG7.out.2.1 1 _ rfl
              have f0 := HG7.out.free 0
              have f1 := HG7.out.free 1
              have HKP : Hid (∀ (W : World) (o : Nat) (u : Value), W.ownsRow w.heap.size 39 3 (.slice A9 (n + 1) c9) (n + 1) ((l.take k ++ [(s0, s1, s2)] ++ l.drop k).flatMap tcells) → (W.setCell ⟨w.heap.size + 1 + 1, o, none⟩ u).ownsRow w.heap.size 39 3 (.slice A9 (n + 1) c9) (n + 1) ((l.take k ++ [(s0, s1, s2)] ++ l.drop k).flatMap tcells)) := hide (fun W o u h => own_kept h (grown_set (g := w.heap.size + 1 + 1) u rfl) (fun b hb e => by injection e with e; have := HLT.out b hb; have := HGlt.out; omega))
              refine wpAnyS_only 9 (by kernel_rfl) (by simp; rfl) rfl rfl (fun K hK => ?_)
              go_wp2_with fail
              refine ⟨laterX_of (grown_of_below HB7.out _), ?_⟩
              refine wpAnyS_only 10 (by kernel_rfl) (by simp; rfl) rfl rfl (fun K hK => ?_)
              go_wp2_with fail
              refine ⟨laterX_of (grown_trans (grown_trans (grown_of_below HB7.out _) (grown_set _ rfl)) (grown_set _ rfl)), ?_⟩
              refine wpAnyS_only 11 (by kernel_rfl) (by simp; rfl) rfl rfl (fun K hK => ?_)
              go_wp2_with fail
              refine ⟨laterX_of (grown_trans (grown_trans (grown_of_below HB7.out _) (grown_set _ rfl)) (grown_set _ rfl)), ?_⟩
              refine wpAnyH_done (by kernel_rfl) ?_ _
              go_wp2
              exact bodyPost_ret (v := .tuple #[.agg #[.int .i64 (k0 : Int), (.slice A9 (n + 1) c9)], .bool true]) (by simp [results, Tryz.results17, go_sem, *]) rfl (AdsPost.yes (n := n + 1) HE.out (by rw [HT.out]; exact HSK.out) (by have := Hn.out; omega) (by rw [HT.out]; exact HKP.out _ _ _ (HKP.out _ _ _ HO7.out)) ((HW7.out.setCell (by simp; omega) _).setCell (by simp; omega) _))
            · go_wp2_with fail
              have HL5 := hide (below_alloc HL.out (.cells #[.int .i64 s0, .int .i64 s1, .int .i64 s2] 39))
              have HN5 := hide (heap_new V0 #[.int .i64 s0, .int .i64 s1, .int .i64 s2] 39)
              have HZ5 := hide (show V0.heap.size < (V0.alloc (.cells #[.int .i64 s0, .int .i64 s1, .int .i64 s2] 39)).heap.size by simp)
              refine ⟨laterX_of (grown_of_below HL5.out _), ?_⟩
              generalize V0.alloc (.cells #[.int .i64 s0, .int .i64 s1, .int .i64 s2] 39) = w5 at *
              generalize V0.heap.size = VB at *
              refine wpAnyS_only 4 (by kernel_rfl) (by simp; rfl) rfl rfl (fun K hK => ?_)
              go_wp2_with fail
              refine (clone_any b off n c l w5 Hn.out (by omega) (Hr.out.below (below_step HW.out HL5.out))).mono ?_
              rintro e w6 ⟨⟨v, rfl, ho⟩, hq⟩
              have HL6 := hide (below_step HL5.out hq)
              have HO6 := hide (own_le (B' := w4.heap.size) ho HL5.out.size)
              have HN6 := hide (heap_grown HN5.out (grown_of_below hq none) (by simp))
              have HNE : Hid (v.ownBlock ≠ some VB) := hide (fun e => by have := (ho.lt _ e).1; have := HZ5.out; omega)
              clear ho hq HL
              go_wp2_with fail
              refine ⟨laterX_of (grown_of_below HL6.out _), ?_⟩
              refine wpAnyS_only 8 (by kernel_rfl) (by simp; rfl) rfl rfl (fun K hK => ?_)
              go_wp2_with fail
              refine (insStreet_any w4.heap.size v n k l s0 s1 s2 VB w6 HO6.out Hn.out hkn (by omega) HN6.out HNE.out HL6.out.size).mono ?_
              rintro e w7 ⟨⟨v', rfl, ho⟩, hg⟩
              have HB7 := hide (HL6.out.grown hg HL6.out.size (fun j hj => (HO6.out.lt _ hj).1))
              have HO7 := hide (own_le (B' := w.heap.size) ho HW.out.size)
              have HW7 := hide (below_step HW.out HB7.out)
              have HG7 := hide (HG.out.below HB7.out)
              have HGlt := hide HG.out.1
              have HLT : Hid (∀ b, v'.ownBlock = some b → w4.heap.size ≤ b) := hide (fun b hb => (ho.lt b hb).1)
              obtain ⟨A9, c9, hv9, -⟩ := own_open HO7.out
              subst hv9
              clear ho hg
              go_wp2_with fail
              refine ⟨laterX_of (grown_of_below HB7.out _), ?_⟩
              have e0 := HG7.out.2.1 0 _ rfl
              have e1 := HG7.out.2.1 1 _ rfl
              have f0 := HG7.out.free 0
              have f1 := HG7.out.free 1
              have HKP : Hid (∀ (W : World) (o : Nat) (u : Value), W.ownsRow w.heap.size 39 3 (.slice A9 (n + 1) c9) (n + 1) ((l.take k ++ [(s0, s1, s2)] ++ l.drop k).flatMap tcells) → (W.setCell ⟨w.heap.size + 1 + 1, o, none⟩ u).ownsRow w.heap.size 39 3 (.slice A9 (n + 1) c9) (n + 1) ((l.take k ++ [(s0, s1, s2)] ++ l.drop k).flatMap tcells)) := hide (fun W o u h => own_kept h (grown_set (g := w.heap.size + 1 + 1) u rfl) (fun b hb e => by injection e with e; have := HLT.out b hb; have := HGlt.out; omega))
              refine wpAnyS_only 9 (by kernel_rfl) (by simp; rfl) rfl rfl (fun K hK => ?_)
              go_wp2_with fail
              refine ⟨laterX_of (grown_of_below HB7.out _), ?_⟩
              refine wpAnyS_only 10 (by kernel_rfl) (by simp; rfl) rfl rfl (fun K hK => ?_)
              go_wp2_with fail
              refine ⟨laterX_of (grown_trans (grown_trans (grown_of_below HB7.out _) (grown_set _ rfl)) (grown_set _ rfl)), ?_⟩
              refine wpAnyS_only 11 (by kernel_rfl) (by simp; rfl) rfl rfl (fun K hK => ?_)
              go_wp2_with fail
              refine ⟨laterX_of (grown_trans (grown_trans (grown_of_below HB7.out _) (grown_set _ rfl)) (grown_set _ rfl)), ?_⟩
              refine wpAnyH_done (by kernel_rfl) ?_ _
              go_wp2
              exact bodyPost_ret (v := .tuple #[.agg #[.int .i64 (k0 : Int), (.slice A9 (n + 1) c9)], .bool true]) (by simp [results, Tryz.results17, go_sem, *]) rfl (AdsPost.yes (n := n + 1) HE.out (by rw [HT.out]; exact HSK.out) (by have := Hn.out; omega) (by rw [HT.out]; exact HKP.out _ _ _ (HKP.out _ _ _ HO7.out)) ((HW7.out.setCell (by simp; omega) _).setCell (by simp; omega) _))
end Go.Proofs.YtbhnaakknfienaaGreatDoor

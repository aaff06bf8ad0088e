/- Filled flows: the reference's way. -/
import Derived.Test.YtangiabihgohcaaNetFi
namespace Go.Proofs.Ytangiabihgohcaa
open Go.RowKit
set_option linter.unusedVariables false

set_option maxRecDepth 100000 in
set_option maxHeartbeats 8000000 in
theorem hyFill_any (A B C : Option Addr) (n c m d k ecap : Nat) (M H : List (Int × Int)) (F : List Int) (w : World) (hn : n = M.length) (hm : m = H.length) (hk : NetOk M H) (hkF : k = F.length) (hff : risB 0 ((m : Int) - 1) F = true) (hr : NetRd w A B M H) (hf : Rd w C (F.map (Value.int .i64))) :
    Calls Try.prog 72 #[.agg #[.slice A n c, .slice B m d], .slice C k ecap] w (LoadsPost (fillD M H F F.length) m w) := by
  have hm10 : m ≤ 10 := by have := hk.h10; omega
  have hn10 : n ≤ 10 := by have := hk.m10; omega
  have HL := hide (risB_length hff)
  have hk10 : k ≤ 10 := by have := HL.out; omega
  have HF := hide (fun (x : Int) (hx : x ∈ F) => show 0 ≤ x ∧ x < (m : Int) by have := risB_mem hff hx; omega)
  have HFE := hide (fun (j : Nat) (hj : j ≤ F.length) => fill_feas hk (F := F) (by rw [← hm]; exact hff) j hj)
  have Hn := hide hn
  have Hm := hide hm
  have HK := hide hk
  have HkF := hide hkF
  have hr1 := NetRd.alloc hr (.cells #[.slice A n c, .slice B m d] 31)
  have hf1 := Rd.alloc hf (.cells #[.slice A n c, .slice B m d] 31)
  have hc := cell_new2 w (.slice A n c) (.slice B m d) 31
  have HW1 : Hid (Below w.heap.size w (w.alloc (.cells #[.slice A n c, .slice B m d] 31))) := hide (below_alloc (Below.refl _ _) _)
  have Hr := hide hr1
  have Hf := hide hf1
  obtain ⟨i0, hi, hz0, hz1, hz2⟩ := info_parts infoIntT
  have hmk := fun W => run_makeN (P := Try.prog) 35 3 Try.underlying35 hi hz0 m (by rw [hz2]; omega) (by omega) W
  rw [hz1] at hmk
  simp only [Value.cells, Nat.mul_one] at hmk
  clear hn hm hk hkF hff hr hf hr1 hf1 hi hz0 hz1 hz2
  go_enter Try.func72, Try.ntmps72
  have hbz : w.heap.size < (w.alloc (.cells #[.slice A n c, .slice B m d] 31)).heap.size := by simp
  have a0 := hc.1
  have a1 := hc.2
  go_wp2_with fail
  have HZ : Hid ((w.alloc (.cells #[.slice A n c, .slice B m d] 31)).heap.size = w.heap.size + 1) := hide (by simp)
  generalize w.alloc (.cells #[.slice A n c, .slice B m d] 31) = w1 at *
  have HO0 : Hid (OwnD (w1.alloc (.cells (madeCells #[.int .i64 0] m) 3)) w.heap.size (w.heap.size + 1) m (fun _ => 0)) := hide (by
    have := OwnD.new (d := fun _ => 0) w1 w.heap.size m HW1.out.size (by unfold maxLen; omega) _ (made_zero m)
    rwa [HZ.out] at this)
  have HB1 : Hid (Below w1.heap.size w1 (w1.alloc (.cells (madeCells #[.int .i64 0] m) 3))) := hide (below_alloc (Below.refl _ _) _)
  have HC0 := hide a0
  have HC1 := hide a1
  clear hc hmk a0 a1
  generalize w1.alloc (.cells (madeCells #[.int .i64 0] m) 3) = W at *
  have hmk10 := hm10
  go_loopw [17] (fun t wr => ∃ j : Nat, j ≤ k ∧ t = .int .i64 j ∧ Hid (OwnD wr w.heap.size (w.heap.size + 1) m (fillD M H F j)) ∧ Hid (Below w1.heap.size w1 wr)) (fun t _ => k - (intOf t).toNat)
  case atStart => exact ⟨0, by omega, rfl, HO0, HB1⟩
  case round =>
    obtain ⟨j, hj, rfl, HO, HB⟩ := hrel
    clear HO0 HB1
    by_cases hlt : j < k
    · obtain ⟨x, hh⟩ : ∃ f, F[j]? = some f := ⟨_, List.getElem?_eq_getElem (by rw [← HkF.out]; exact hlt)⟩
      obtain ⟨x00, x01⟩ := HF.out x (List.mem_of_getElem? hh)
      obtain ⟨i, rfl⟩ := Int.eq_ofNat_of_zero_le x00
      have him : i < m := by omega
      obtain ⟨⟨y0, y1⟩, hy⟩ : ∃ h, H[i]? = some h := ⟨_, List.getElem?_eq_getElem (by rw [← Hm.out]; exact him)⟩
      obtain ⟨z0, z1, z2, z3⟩ := HK.out.hyd i _ hy
      obtain ⟨b, off, rfl, hbs, c0⟩ := (Hf.out.below HB.out).get1 (u := .int .i64 (i : Int)) (by rw [List.getElem?_map, hh]; rfl)
      have HS := hide (fillD_succ (M := M) hh hy)
      have HFS := hide (feas_flows HK.out (HFE.out j (by have := HkF.out; omega)))
      have HFD := hide (loadsN_bd HK.out HFS.out)
      have HY := hide hy
      have q0 := cell_on HC0.out HB.out
      have q1 := cell_on HC1.out HB.out
      have hbw := World.block_lt_of_cell? wr _ q0
      have hx0 : y0 < n := by have := Hn.out; dsimp only at z1; omega
      dsimp only at z0 z1 z2 z3 HS hbw
      clear hh hy x00 x01 z1
      go_wp2_with fail
      refine (hyLoads_any A B (some ⟨w.heap.size + 1, 0, none⟩) n c m d m _ M H (listD m (fillD M H F j)) wr Hn.out Hm.out HK.out listD_length.symm (Nat.le_refl _) (by rw [show m = H.length from Hm.out]; exact HFS.out) (Hr.out.below HB.out) (listD_rd HO.out)).mono ?_
      rintro e w2 ⟨⟨g2, rfl, ho2⟩, hq2⟩
      have HO2 := hide ho2
      have HB2 := hide (below_step HB.out hq2)
      have HO1 := hide (HO.out.below hq2)
      have q0 := cell_on q0 hq2
      have q1 := cell_on q1 hq2
      have hg2 : w.heap.size + 1 < g2 := by have h1 := HO2.out.lt.1; have h2 := HO.out.lt.2; omega
      obtain ⟨b', off', rfl, hbs', d0, d1⟩ := (Hr.out.below HB2.out).2.get2 (fun _ => rfl) HY.out rfl
      have hbw2 := Nat.lt_of_lt_of_le hbw hq2.size
      dsimp only at d0 d1
      clear ho2 hq2 HO
      have ey : IntKind.i64.wrap (y0 + 1) = y0 + 1 := IntWalk.i64_in _ (by omega)
      go_wp2_with fail
      have HW0 := hide HB2.out
      obtain ⟨wo, rfl⟩ : ∃ wo, wo = w2 := ⟨_, rfl⟩
      have HFZ : Hid (w.heap.size + 1 < wo.heap.size) := hide (HO1.out.lt.2)
      go_loopw [9, 10] (fun v t wr => ∃ (P : List Nat) (a : Int), t = .int .i64 a ∧ -1 ≤ a ∧ a < n ∧ Hid (P ++ wayL M a = wayL M y0) ∧ v = .int .i64 (capL M (loadsF M H (listD m (fillD M H F j))) P y1) ∧ Hid (Below wo.heap.size wo wr)) (fun _ t _ => (intOf t + 1).toNat)
      case atStart => exact ⟨[], y0, rfl, by omega, by omega, hide rfl, by simp [capL], hide (Below.refl _ _)⟩
      case round =>
        obtain ⟨P, a, rfl, ha0, ha1, HP, rfl, HBi⟩ := hrel
        have HBA := hide (below_step HB2.out HBi.out)
        by_cases h0 : 0 ≤ a
        · obtain ⟨q, rfl⟩ := Int.eq_ofNat_of_zero_le h0
          have hqn : q < n := by omega
          obtain ⟨⟨p0, p1⟩, hp⟩ : ∃ h, M[q]? = some h := ⟨_, List.getElem?_eq_getElem (by rw [← Hn.out]; exact hqn)⟩
          have hpl := HK.out.par_lt (k := q) (by rw [← Hn.out]; exact hqn)
          rw [par_some hp] at hpl
          obtain ⟨hp1, hp2⟩ := hpl
          obtain ⟨-, -, l0, l1⟩ := HK.out.main q _ hp
          have HLM := hide (lim_some hp)
          dsimp only at hp1 hp2 l0 l1 HLM
          have HW := hide (show wayL M q = q :: wayL M p0 by rw [wayL_step HK.out (by rw [← Hn.out]; exact hqn), par_some hp])
          obtain ⟨b3, off3, rfl, hbs3, e0, e1⟩ := (Hr.out.below HBA.out).1.get2 (fun _ => rfl) hp rfl
          have q0 := cell_on HC0.out HBA.out
          have hbz3 := World.block_lt_of_cell? wr _ q0
          have g0 := (HO2.out.below HBi.out).cell hqn
          have hz3 := (HO2.out.below HBi.out).lt.2
          have hbd := HFD.out (listD m (fillD M H F j)).length q
          rw [listD_length, ← show m = H.length from Hm.out] at hbd
          rw [show loadsN M H (listD m (fillD M H F j)) m = loadsF M H (listD m (fillD M H F j)) by rw [loadsF, listD_length]] at hbd
          dsimp only at e0 e1 hbz3
          have HSN := hide (capL_snoc M (loadsF M H (listD m (fillD M H F j))) P q y1)
          generalize hD : loadsF M H (listD m (fillD M H F j)) q = D at *
          have e5 : IntKind.i64.wrap (p1 - D) = p1 - D := IntWalk.i64_in _ (by omega)
          clear hp hD hbd h0
          generalize hCC : capL M (loadsF M H (listD m (fillD M H F j))) P y1 = cc at *
          clear hCC
          have Q := hide (fun W => l1Least_any cc (p1 - D) W)
          have HBR : Hid (∀ W, Below wr.heap.size wr W → Below wo.heap.size wo W ∧ W.cell? ⟨w.heap.size, 0, none⟩ = some (.slice (some ⟨b3, off3, none⟩) n c) ∧ W.cell? ⟨b3, off3 + q * 2, none⟩ = some (.int .i64 p0) ∧ w.heap.size < W.heap.size ∧ b3 < W.heap.size) := hide (fun W hb => ⟨below_step HBi.out hb, cell_on q0 hb, cell_on e0 hb, Nat.lt_of_lt_of_le hbz3 hb.size, Nat.lt_of_lt_of_le hbs3 hb.size⟩)
          go_wp2_with fail
          refine wp_region_later (by kernel_rfl) (by kernel_rfl) ?_
          repeat (go_big_quiet_step ((go_at_call 94; exact calls_later_same (Q.out _))))
          refine wpQuiet_nil ?_
          refine later_intro fun w3 hb3 => ?_
          obtain ⟨hB3, k0, k1, k2, k3⟩ := HBR.out w3 hb3
          have HB3 := hide hB3
          clear hB3 hb3 q0 e0 e1 g0 hbz3 hbs3
          go_wp2
          go_roundw
          case rel => exact ⟨P ++ [q], p0, rfl, by omega, by omega, hide (by rw [List.append_assoc, List.singleton_append, ← HW.out]; exact HP.out), by rw [HSN.out, HLM.out], HB3⟩
          case measure => simp [intOf]; omega
        · have HPE := hide (show P = wayL M y0 by have := HP.out; rwa [wayL_neg M a (by omega), List.append_nil] at this)
          have HOi := hide (HO1.out.below HBi.out)
          have g0 := HOi.out.cell him
          have g1 := HOi.out.free i
          have hz4 := HOi.out.lt.2
          rw [HPE.out]
          have HS' := hide (show fillD M H F (j + 1) = upd (fillD M H F j) i (capL M (loadsF M H (listD m (fillD M H F j))) (wayL M y0) y1) by rw [HS.out, ← show m = H.length from Hm.out])
          generalize capL M (loadsF M H (listD m (fillD M H F j))) (wayL M y0) y1 = cc at *
          have HSET := hide (HOi.out.set him cc)
          have HBS : Hid (Below w1.heap.size w1 (wr.setCell ⟨w.heap.size + 1, i, none⟩ (.int .i64 cc))) := hide (HBA.out.setCell (by rw [HZ.out]; exact Nat.le_refl _) _)
          go_wp2
          go_roundw
          case rel => exact ⟨j + 1, by omega, by go_num, hide (by rw [HS'.out]; exact HSET.out), HBS⟩
          case measure => simp [intOf]; omega
    · have HE := hide (show fillD M H F j = fillD M H F F.length by rw [← show k = F.length from HkF.out, show j = k by omega])
      go_wp2
      go_ret
      exact ⟨⟨_, rfl, by rw [← HE.out]; exact HO.out⟩, below_step HW1.out HB.out⟩

set_option maxRecDepth 100000 in
set_option maxHeartbeats 4000000 in
theorem specFilledFlows_any (A B C : Option Addr) (n c m d k ecap : Nat) (M H : List (Int × Int)) (F : List Int) (w : World) (hn : n = M.length) (hm : m = H.length) (hnm : n ≤ maxLen) (hmm : m ≤ maxLen) (hkF : k = F.length) (hkm : k ≤ maxLen) (hr : NetRd w A B M H) (hf : Rd w C (F.map (Value.int .i64))) :
    Calls Try.prog 32 #[.agg #[.slice A n c, .slice B m d], .slice C k ecap] w (AskPost (openB M H F) (fiL M H F) w) := by
  have hc := cell_new2 w (.slice A n c) (.slice B m d) 31
  have Q := hide (hyOpen_any A B C n c m d k ecap M H F (w.alloc (.cells #[.slice A n c, .slice B m d] 31)) hn hm hnm hmm hkF hkm (hr.alloc _) (hf.alloc _))
  have Hn := hide hn
  have Hm := hide hm
  have HkF := hide hkF
  have Hr := hide hr
  have Hf := hide hf
  clear hn hm hkF hr hf
  cases hA : openB M H F with
  | false =>
    rw [hA] at Q
    have HE := hide hA
    clear hA hc
    go_enter Try.func32, Try.ntmps32
    go_wp2_with (go_at_call 68; ((with_reducible refine (Q.out).mono ?_); rintro e w1 ⟨rfl, hb1⟩); obtain ⟨hc1, hf1⟩ := bcell hb1)
    go_ret2
    exact AskPost.no rfl (fi_no HE.out) (by repeat (first | exact Below.refl _ _ | refine below_step ?_ (by assumption) | refine below_step ?_ (Later.below _) | refine below_alloc ?_ _ | refine Below.drew ?_ | refine Below.setCell ?_ (by first | (simp; done) | (simp; omega)) _))
  | true =>
    rw [hA] at Q
    have HE' := hide hA
    rw [openB, Bool.and_eq_true] at hA
    have HK := hide (netB_ok hA.1)
    have hff := hA.2
    rw [← show m = H.length from Hm.out] at hff
    have HFF := hide hff
    clear hA hff
    go_enter Try.func32, Try.ntmps32
    go_wp2_with fail
    refine Q.out.mono ?_
    rintro e w1 ⟨rfl, hq⟩
    have HW1 : Hid (Below w.heap.size w w1) := hide (below_step (below_alloc (Below.refl _ _) _) hq)
    have a0 := cell_on hc.1 hq
    have a1 := cell_on hc.2 hq
    have z0 := World.block_lt_of_cell? w1 _ a0
    clear hq Q hc
    dsimp only at z0
    go_wp2_with fail
    refine (hyFill_any A B C n c m d k _ M H F w1 Hn.out Hm.out HK.out HkF.out HFF.out (Hr.out.below HW1.out) (Hf.out.below HW1.out)).mono ?_
    rintro e w2 ⟨⟨g, rfl, ho⟩, hq⟩
    go_wp2
    go_ret2
    exact AskPost.yes (by rw [fi_yes HE'.out, ← show m = H.length from Hm.out]; rfl) ho HW1.out.size (below_step HW1.out hq)
end Go.Proofs.Ytangiabihgohcaa

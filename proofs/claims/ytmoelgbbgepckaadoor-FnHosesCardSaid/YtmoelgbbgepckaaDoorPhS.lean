/- The reference reads a line. -/
import Derived.Test.YtmoelgbbgepckaaDoorPhO
import Derived.Test.YtmoelgbbgepckaaDoorRegX
import Derived.Deep.LoopGhost
import Derived.Deep.AppendLies
namespace Go.Proofs.YtmoelgbbgepckaaDoor
open Go.RowKit
set_option linter.unusedVariables false

theorem phS_no {s : ByteArray} (h : 13 < (splitS s 59).length) : phS s = none := by
  rw [phS, decide_eq_false (show ¬ (splitS s 59).length ≤ 13 by omega)]
  rfl
theorem phS_bad {s p : ByteArray} (hp : p ∈ (splitS s 59).dropLast) (h : hokS p = false) : phS s = none := by
  unfold phS
  rw [if_neg]
  intro hc
  simp only [Bool.and_eq_true, List.all_eq_true] at hc
  rw [hc.1.1.2 p hp] at h
  cases h
theorem phS_good {s : ByteArray} (h1 : (splitS s 59).length ≤ 13) (h : (splitS s 59).dropLast.all hokS = true) : phS s = if lineB ((splitS s 59).dropLast.map hpS) && decide (lineText ((splitS s 59).dropLast.map hpS) = s) then some ((splitS s 59).dropLast.map hpS) else none := by
  rw [phS, h, decide_eq_true h1, Bool.true_and, Bool.true_and]

set_option maxRecDepth 100000 in
set_option maxHeartbeats 8000000 in
theorem specParseHoses_any (s : ByteArray) (w : World) (hs : s.size ≤ 1048576) :
    Calls Tryd.prog 15 #[.string s] w (LineOut (phS s) w) := by
  obtain ⟨i0, hi0, hz0, hz1, hz2⟩ := info_parts infoHoseP
  have Hi := hide hi0
  have Hz := hide (And.intro hz0 (And.intro hz1 hz2))
  clear hi0 hz0 hz1 hz2
  have Q := hide (fun W => split_any s 59 W (by omega))
  have QW := hide (fun (v : ByteArray) (hv : v ∈ splitS s 59) => Nat.le_trans (splitS_size _ _ hv) hs)
  have HP := hide (splitS_pos s 59)
  have HNO := hide (fun h => phS_no (s := s) h)
  have HBD := hide (fun p hp h => phS_bad (s := s) (p := p) hp h)
  have HGD := hide (fun h1 h => phS_good (s := s) h1 h)
  generalize phS s = o at *
  generalize splitS s 59 = W at *
  have hp := HP.out
  go_enter Tryd.func15, Tryd.ntmps15
  go_wp2_with fail
  refine (Q.out _).mono ?_
  rintro e w1 ⟨⟨v, rfl, ho⟩, hq⟩
  obtain ⟨A, cap, rfl, hrd, hmc, -⟩ := own_open ho
  obtain ⟨b, off, rfl, hbs, c0⟩ := hrd.get1 (k := 0) (u := .string (W[0]'hp)) (by simp [strV])
  have HA := hide (ho.lt b rfl)
  have HR := hide hrd
  have HB := hide hq
  obtain ⟨m, hm⟩ : ∃ m, m = W.length := ⟨_, rfl⟩
  rw [← hm]
  rw [← hm] at hmc
  have Hm := hide hm
  have hp1 : 1 ≤ m := by omega
  clear hq ho hrd Q c0 hp hm HP
  by_cases h13 : 13 < m
  · have HN := hide (HNO.out (by have := Hm.out; omega))
    have g1 : (13 : Int) < (m : Int) := by omega
    clear h13
    go_wp2
    go_ret2
    exact LineOut.no HN.out HB.out
  · have g1 : ¬ (13 : Int) < (m : Int) := by omega
    have g2 : ((m : Int) - 1).toNat = m - 1 := by omega
    have g3 : (0 : Int) ≤ (m : Int) - 1 := by omega
    have g4 : (m : Int) - 1 ≤ (cap : Int) := by omega
    have HL0 := hide (fun k v (h : W.dropLast[k]? = some v) => show W[k]? = some v by
      rw [List.getElem?_dropLast] at h
      split at h
      · exact h
      · cases h)
    have HLL := hide (show m - 1 = W.dropLast.length by rw [List.length_dropLast, Hm.out])
    obtain ⟨n, hn⟩ : ∃ n, n = m - 1 := ⟨_, rfl⟩
    have Hn := hide (show n = W.dropLast.length by rw [hn]; exact HLL.out)
    have hn12 : n ≤ 12 := by omega
    have HN3 := hide HA.out.2
    have HZ3 := hide (Nat.le_refl w1.heap.size)
    have HBZ := hide HB.out.size
    generalize hN3 : w1.heap.size = N3 at HN3 HBZ
    have HZ3 := hide (Nat.le_of_eq hN3.symm)
    have HW13 := hide (show W.length ≤ 13 by have := Hm.out; omega)
    clear hN3
    have HVM := hide (fun v (h : v ∈ W.dropLast) => QW.out v (List.dropLast_subset _ h))
    go_wp2_with fail
    rw [← hn]
    clear hn
    go_loopg [19, 5] n (fun g t b5 wr => ∃ (k : Nat) (A : Option Addr) (cp : Nat), t = .int .i64 (k : Int) ∧ b5 = .slice A k cp ∧ k ≤ n ∧ Hid (n ≤ g + k) ∧ Hid ((W.dropLast.take k).all hokS = true) ∧ Hid (wr.ownsRow N3 40 2 (.slice A k cp) k (((W.dropLast.take k).map hpS).flatMap hcells)) ∧ Hid (Rd wr (some ⟨b, off, none⟩) (strV W)) ∧ Hid (Below w.heap.size w wr) ∧ Hid (N3 ≤ wr.heap.size))
    case atStart => exact ⟨0, none, 0, rfl, rfl, by omega, hide (by omega), hide rfl, hide (World.ownsRow_nil _ _ _ _), HR, HB, HZ3⟩
    case round =>
      obtain ⟨k, A, cp, rfl, rfl, hk, HGH, HAL, HO, HRR, HBB, HZ⟩ := hrel
      by_cases hlt : k < n
      · obtain ⟨v, hv⟩ : ∃ v, W.dropLast[k]? = some v := ⟨_, List.getElem?_eq_getElem (by rw [← Hn.out]; exact hlt)⟩
        have hvm := List.mem_of_getElem? hv
        have hvz := HVM.out v hvm
        obtain ⟨b', off', e1, hbs', c0⟩ := HRR.out.get1 (k := k) (u := .string v) (by rw [strV, List.getElem?_map, HL0.out k v hv]; rfl)
        injection e1 with e1; injection e1 with e2 e3; subst e2; subst e3
        by_cases hve : v = ⟨#[]⟩
        · subst hve
          have HN := hide (HBD.out _ hvm (by rfl))
          clear hv hvm hvz
          go_wp2
          go_ret2
          exact LineOut.no HN.out HBB.out
        · have hne := texts_ne hve
          have hz1 : 0 < v.size := by
            rcases Nat.eq_zero_or_pos v.size with h0 | h0
            · exfalso
              apply hve
              apply bytes_eq
              exact List.eq_nil_of_length_eq_zero h0
            · exact h0
          have hie : v.toList.isEmpty = false := by
            rw [ByteArray.toList_eq, List.isEmpty_eq_false_iff]
            intro e
            have : v.data.toList.length = 0 := by rw [e]; rfl
            have h2 : v.data.toList.length = v.size := rfl
            omega
          have j1 : (1 : Int) ≤ (v.size : Int) := by omega
          have P1 := hide (fun W' => read_any (v.extract 1 v.size) W' (by rw [ByteArray.size_extract]; unfold maxLen; omega))
          have HMT := hide (map_take_succ hpS hv)
          have HAS := hide (all_take_succ hokS hv HAL.out (by rw [hokS, decide_eq_true (by omega)]))
          have hb0 : (v[0].toNat : Int) < 256 := by have := v[0].toNat_lt; omega
          have HSV := hide (show hpS v = ((v[0].toNat : Int) - 97, readS (v.extract 1 v.size)) by rw [hpS, head_at hz1])
          generalize hpS v = sv at *
          clear hv hvm hve
          go_wp2_with fail
          refine wpAnyX_start (fun w' => ∃ n : Later wr, w' = n.w) [10] (n := 12) (by kernel_rfl) rfl rfl ?_
          refine wpAnyX_take [0, 1, 2, 3, 4, 5, 6] 5 rfl (by kernel_rfl) (by intro c a d v w h; cases d <;> exact h) (by kernel_rfl) (by kernel_rfl) (by kernel_rfl) (by simp; rfl) rfl (later_drew _) ?_
          repeat (go_big_quiet_step (fail))
          refine wpQuiet_nil ?_
          have HX : Hid (Below wr.heap.size wr wr.drew) := hide (Below.refl _ _).drew
          generalize wr.drew = V0 at *
          refine wpAnyX_only 7 (by kernel_rfl) (by simp; rfl) rfl rfl (fun K hK => ?_)
          go_wp2_with fail
          refine (P1.out _).mono ?_
          rintro e V1 ⟨rfl, hb⟩
          replace HX := hide (below_step HX.out hb)
          clear hb P1 c0
          generalize readS (v.extract 1 v.size) = y1 at *
          go_wp2_with fail
          refine ⟨later_of HX.out, ?_⟩
          refine wpAnyX_take [8] 3 rfl (by kernel_rfl) (by intro c a d v w h; cases d <;> exact h) (by kernel_rfl) (by kernel_rfl) (by kernel_rfl) (by simp; rfl) rfl (later_of HX.out) ?_
          repeat (go_big_quiet_step (fail))
          refine wpQuiet_nil ?_
          refine wpAnyX_only 9 (by kernel_rfl) (by simp; rfl) rfl rfl (fun K hK => ?_)
          go_wp2_with fail
          have HS := hide (Row.new V1 #[.int .i64 ((v[0].toNat : Int) - 97), .int .i64 y1] 40)
          replace HX := hide (below_alloc HX.out (.cells #[.int .i64 ((v[0].toNat : Int) - 97), .int .i64 y1] 40))
          refine ⟨later_of HX.out, ?_⟩
          generalize V1.alloc (.cells #[.int .i64 ((v[0].toNat : Int) - 97), .int .i64 y1] 40) = V5 at *
          generalize V1.heap.size = sb at *
          have HRA := hide (HRR.out.below HX.out)
          have HOA := hide (own_below HO.out HX.out)
          have HBA := hide (below_step HBB.out HX.out)
          have HSZ := hide (Nat.le_trans HZ.out HX.out.size)
          clear HRR HO HBB HX HZ
          refine wpAnyX_last 10 (by kernel_rfl) (by simp; rfl) rfl rfl (by kernel_rfl) (fun K hK => ?_)
          have hml : maxLen = 9223372036854775807 := rfl
          refine wp_append_lies _ (.tmp 25) (.tmp 34) 26 rfl N3 40 i0 _ 2 16 Tryd.underlying26 Hi.out Hz.out.1 Hz.out.2.1 Hz.out.2.2 rfl (by decide) (.slice A k cp) k (((W.dropLast.take k).map hpS).flatMap hcells) rfl HOA.out ⟨sb, 0, none⟩ 1 1 (hcells ((v[0].toNat : Int) - 97, y1)) rfl rfl (fun q u hu => by rw [Addr.add_lit, Nat.zero_add]; exact HS.out.2.1 q u hu) (fun u hu => by simp [hcells] at hu; rcases hu with rfl | rfl <;> rfl) (by omega) (by omega) (by omega) HSZ.out V5.heap.size rfl (fun g' cap' w6 hown hgrow _ hlt' => ?_)
          have HO6 : Hid (w6.ownsRow N3 40 2 (.slice (some ⟨g', 0, none⟩) (k + 1) cap') (k + 1) (((W.dropLast.take (k + 1)).map hpS).flatMap hcells)) := hide (by rw [HMT.out, List.flatMap_append, HSV.out]; simpa using hown)
          have HNB := hide (fun q hq => (HOA.out.lt q hq).1)
          have HR6 := hide (HRA.out.grown hgrow (fun b off sp e e2 => by injection e with e; injection e with e3 e4 e5; subst e3; have h1 := HNB.out _ e2.symm; have h2 := HN3.out; omega))
          have HB6 := hide (HBA.out.grown hgrow HBA.out.size (fun q hq => by have h1 := HNB.out _ hq; have h2 := HBZ.out; omega))
          have HZ6 := hide (Nat.le_trans HSZ.out hgrow.size)
          clear hml HS hown hgrow hlt' HOA HRA HBA HSZ
          refine hK _ _ ?_
          simp only [Act.put, List.setIfInBounds_toArray, List.set_cons_succ, List.set_cons_zero]
          refine wpAnyX_last 11 (by kernel_rfl) (by simp; rfl) rfl rfl (by kernel_rfl) (fun K hK => ?_)
          go_wp2_with fail
          refine wpAnyX_done (by kernel_rfl) ?_ _
          go_wp2
          go_roundg (gk - 1)
          case rel => exact ⟨k + 1, _, cap', by go_num, rfl, by omega, hide (by have := HGH.out; omega), HAS, HO6, HR6, HB6, HZ6⟩
          case measure => have := HGH.out; omega
      · obtain rfl : k = n := by omega
        have HTA := hide (show W.dropLast.all hokS = true by have h := HAL.out; rwa [List.take_of_length_le (by have := Hn.out; omega)] at h)
        have HTK := hide (show (W.dropLast.take k).map hpS = W.dropLast.map hpS by rw [List.take_of_length_le (by have := Hn.out; omega)])
        rw [HTK.out] at HO
        have HFL := hide (HGD.out HW13.out HTA.out)
        have HLen := hide (show k = (W.dropLast.map hpS).length by rw [List.length_map]; exact Hn.out)
        generalize hT : W.dropLast.map hpS = T at *
        clear hT HTK HTA HAL HBD HGD QW HRR
        have QT := hide (hoGood_any A k cp T wr HLen.out (by omega) (own_rd HO.out))
        have HOE := hide (own_le (B' := w.heap.size) HO.out HBZ.out)
        cases hb : lineB T with
        | false =>
          have HN := hide (show o = none by rw [HFL.out, hb]; rfl)
          rw [hb] at QT
          clear hb
          go_wp2_with fail
          refine QT.out.mono ?_
          rintro e w4 ⟨rfl, hq⟩
          have HB4 := hide (below_step HBB.out hq)
          clear hq QT
          go_wp2
          go_ret2
          exact LineOut.no HN.out HB4.out
        | true =>
          rw [hb] at QT HFL
          have HK := hide hb
          clear hb
          have QX := hide (fun W' (h : Below wr.heap.size wr W') => hoText_any k cp A T W' HLen.out HK.out ((own_rd HO.out).below h))
          have HTX := hide (show thN T k = lineText T by rw [lineText, ← HLen.out])
          go_wp2_with fail
          refine QT.out.mono ?_
          rintro e w4 ⟨rfl, hq⟩
          have HX := hide hq
          clear hq QT
          rw [HTX.out] at QX
          generalize lineText T = x at *
          go_wp2_with fail
          refine (QX.out _ HX.out).mono ?_
          rintro e w5 ⟨rfl, hq⟩
          have HX5 := hide (below_step HX.out hq)
          have HB5 := hide (below_step HBB.out HX5.out)
          have HO5 := hide (own_below HOE.out HX5.out)
          clear hq QX HX HX5
          by_cases hx : x = s
          · subst hx
            have HS := hide (show o = some T by rw [HFL.out]; simp)
            go_wp2
            go_ret2
            exact LineOut.yes HS.out (by rw [← HLen.out]; exact HO5.out) HB5.out
          · have HN := hide (show o = none by rw [HFL.out]; simp [hx])
            have hne := texts_ne hx
            clear hx
            go_wp2
            go_ret2
            exact LineOut.no HN.out HB5.out
end Go.Proofs.YtmoelgbbgepckaaDoor

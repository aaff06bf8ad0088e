/- The program reads a net. -/
import Derived.Test.YtmoelgbbgepckaaDoorPyPnO
namespace Go.Proofs.YtmoelgbbgepckaaDoor
open Go.RowKit
set_option linter.unusedVariables false

set_option maxRecDepth 100000 in
set_option maxHeartbeats 8000000 in
theorem parseNet_any (s : ByteArray) (w : World) (hs : s.size ≤ 1048576) (he : WrdEnv w) :
    Calls Tryd.prog 93 #[.string s] w (NetOut (pnI s) w) := by
  obtain ⟨i0, hi0, hz0, hz1, hz2⟩ := info_parts infoMainP
  have Hi := hide hi0
  have Hz := hide (And.intro hz0 (And.intro hz1 hz2))
  clear hi0 hz0 hz1 hz2
  obtain ⟨j0, hi0, hz0, hz1, hz2⟩ := info_parts infoHydP
  have Hj := hide hi0
  have Hy := hide (And.intro hz0 (And.intro hz1 hz2))
  clear hi0 hz0 hz1 hz2
  have hcs := cut_size s 124
  have HE := hide (fun W (h : Below w.heap.size w W) => he.below h)
  have Q1 := hide (fun W (h : Below w.heap.size w W) => cut_any s 124 W (by omega) (HE.out W h).txt.max)
  have Q3 := hide (fun W (h : Below w.heap.size w W) => words_any (cutA s 124) W (by omega) (HE.out W h).fld)
  have Q4 := hide (fun W (h : Below w.heap.size w W) => words_any (cutB s 124) W (by omega) (HE.out W h).fld)
  have QW := hide (fun (v : ByteArray) (hv : v ∈ wordsF (cutA s 124)) => Nat.le_trans (wordsF_size hv) (Nat.le_trans hcs.1 hs))
  have QX := hide (fun (v : ByteArray) (hv : v ∈ wordsF (cutB s 124)) => Nat.le_trans (wordsF_size hv) (Nat.le_trans hcs.2 hs))
  have QN := hide (show (wordsF (cutA s 124)).length ≤ 1048578 from Nat.le_trans (wordsF_length _) (by omega))
  have QM := hide (show (wordsF (cutB s 124)).length ≤ 1048578 from Nat.le_trans (wordsF_length _) (by omega))
  have B1 := hide (fun v (hv : v ∈ wordsF (cutA s 124)) h => pnI_bad1 (s := s) hv h)
  have B2 := hide (fun v (hv : v ∈ wordsF (cutB s 124)) h => pnI_bad2 (s := s) hv h)
  have HGD := hide (fun h1 h2 => pnI_good (s := s) h1 h2)
  have HF0 := hide ((Row.new w #[.slice none 0 0, .slice none 0 0] 57).alloc (.cells #[.slice none 0 0, .slice none 0 0] 57))
  have hg0 := Row.new (w.alloc (.cells #[.slice none 0 0, .slice none 0 0] 57)) #[.slice none 0 0, .slice none 0 0] 57
  rw [show (w.alloc (.cells #[.slice none 0 0, .slice none 0 0] 57)).heap.size = w.heap.size + 1 by simp] at hg0
  have HG0 := hide hg0
  have H0 := hide (below_alloc (below_alloc (Below.refl w.heap.size w) (.cells #[.slice none 0 0, .slice none 0 0] 57)) (.cells #[.slice none 0 0, .slice none 0 0] 57))
  generalize pnI s = o at *
  generalize cutA s 124 = sa at *
  generalize cutB s 124 = sb at *
  generalize wordsF sa = L at *
  generalize wordsF sb = R at *
  clear he hcs hg0
  go_enter Tryd.func93, Tryd.ntmps93
  go_wp2_with fail
  refine (Q1.out _ H0.out).mono ?_
  rintro e w1 ⟨rfl, hq⟩
  have HB1 := hide (below_step H0.out hq)
  have HF1 := hide (HF0.out.below hq)
  have HG1 := hide (HG0.out.below hq)
  clear hq Q1 HF0 H0 HG0
  go_wp2_with fail
  refine (Q3.out _ HB1.out).mono ?_
  rintro e w3 ⟨⟨gw, n, rfl, hn, hgw, hrd⟩, hq⟩
  have HB3 := hide (below_step HB1.out hq)
  have HF3 := hide (HF1.out.below hq)
  have HG3 := hide (HG1.out.below hq)
  have Hn := hide hn
  have HR := hide hrd
  have hn2 : n ≤ 1048578 := by have := QN.out; omega
  have HLT := hide (show w.heap.size + 1 < w3.heap.size ∧ w.heap.size + 1 < gw ∧ gw < w3.heap.size from ⟨HG3.out.1, Nat.lt_of_lt_of_le HG1.out.1 hgw.1, hgw.2⟩)
  clear hq hn hrd Q3 HF1 HG1 hgw HB1
  obtain ⟨B4, hB4⟩ : ∃ B4, B4 = w.heap.size + 1 := ⟨_, rfl⟩
  rw [← hB4] at HG3 HLT
  have HB4 := hide (show w.heap.size < B4 by omega)
  rw [← hB4]
  clear hB4
  generalize hN3 : w3.heap.size = N3 at HLT
  have HZ3 := hide (Nat.le_of_eq hN3.symm)
  have HBN := hide (show w.heap.size ≤ N3 by have h1 := HLT.out; have h2 := HB4.out; omega)
  clear hN3
  go_wp2_with fail
  go_loopg [26] n (fun g t wr => ∃ (k : Nat) (A : Option Addr) (cap : Nat), t = .int .i64 (k : Int) ∧ k ≤ n ∧ Hid (n ≤ g + k) ∧ Hid ((L.take k).all (wokI 47) = true) ∧ Hid (Row wr B4 [.slice A k cap, .slice none 0 0]) ∧ Hid (wr.ownsRow N3 120 2 (.slice A k cap) k (((L.take k).map (wvI 47)).flatMap mcells)) ∧ Hid (Row wr w.heap.size [.slice none 0 0, .slice none 0 0]) ∧ Hid (Rd wr (some ⟨gw, 0, none⟩) (L.map Value.string)) ∧ Hid (Below w.heap.size w wr) ∧ Hid (N3 ≤ wr.heap.size))
  case atStart => exact ⟨0, none, 0, rfl, by omega, hide (by omega), hide rfl, HG3, hide (World.ownsRow_nil _ _ _ _), HF3, HR, HB3, HZ3⟩
  case round =>
    obtain ⟨k, A, cap, rfl, hk, HGH, HAL, HGB, HO, HFB, HRR, HB, HZ⟩ := hrel
    by_cases hlt : k < n
    · obtain ⟨v, hv⟩ : ∃ v, L[k]? = some v := ⟨_, List.getElem?_eq_getElem (by rw [← Hn.out]; exact hlt)⟩
      have hvm := List.mem_of_getElem? hv
      have hvz := QW.out v hvm
      obtain ⟨b, off, e1, hbs, c0⟩ := HRR.out.get1 (k := k) (u := .string v) (by rw [List.getElem?_map, hv]; rfl)
      injection e1 with e1; injection e1 with e2 e3; subst e2; subst e3
      rw [Nat.zero_add] at c0
      have P1 := hide (readNumbers_any v 47 wr (by omega) (HE.out wr HB.out).txt)
      have HMT := hide (map_take_succ (wvI 47) hv)
      have HAS := hide (fun h => all_take_succ (wokI 47) hv HAL.out h)
      have HVB := hide (B1.out v hvm)
      have HOK : Hid (wokI 47 v = ((splitS v 47).all rnOk && decide ((splitS v 47).length = 2))) := hide rfl
      have HWV : Hid (wvI 47 v = (rnV ((splitS v 47).getD 0 ByteArray.empty), rnV ((splitS v 47).getD 1 ByteArray.empty))) := hide rfl
      generalize wvI 47 v = sv at *
      generalize wokI 47 v = kv at *
      unfold NumsPost at P1
      generalize splitS v 47 = ps at *
      clear hv hvm hvz
      go_wp2_with fail
      refine P1.out.mono ?_
      rintro e x1 ⟨⟨A1, n1, c1, rfl, hps⟩, hq⟩
      have HX := hide hq
      clear hq P1 c0
      have HFX := hide (HFB.out.below HX.out)
      cases hal : ps.all rnOk with
      | false =>
        have HN := hide (HVB.out (by rw [HOK.out, hal]; rfl))
        have HBX := hide (below_step HB.out HX.out)
        have e0 := HFX.out.2.1 0 _ rfl
        have e1 := HFX.out.2.1 1 _ rfl
        have f0 := HFX.out.free 0
        have f1 := HFX.out.free 1
        clear hal hps HOK
        go_wp2
        exact bodyPost_ret (v := .tuple #[.agg #[.slice none 0 0, .slice none 0 0], .bool false]) (by simp [results, Tryd.results93, go_sem, *]) rfl (NetOut.no HN.out ((HBX.out.setCell (by simp) _).setCell (by simp) _))
      | true =>
        obtain ⟨hn1, hrd1⟩ := hps hal
        by_cases h2 : ps.length = 2
        · obtain ⟨pa, pc, rfl⟩ : ∃ pa pc, ps = [pa, pc] := by
            match ps, h2 with
            | [a, c], _ => exact ⟨a, c, rfl⟩
          have HKV := hide (show kv = true by rw [HOK.out, hal]; rfl)
          have HAT := hide (HAS.out HKV.out)
          have HSV := hide (show sv = (rnV pa, rnV pc) from HWV.out)
          obtain rfl : n1 = 2 := by rw [hn1]; rfl
          obtain ⟨b1, off1, rfl, hbs1, d0⟩ := hrd1.get1 (k := 0) (u := .int .i64 (rnV pa)) rfl
          obtain ⟨b3, off3, e3, hbs3, d1⟩ := hrd1.get1 (k := 1) (u := .int .i64 (rnV pc)) rfl
          injection e3 with e3; injection e3 with e4 e5; subst e4; subst e5
          have d0 : x1.cell? ⟨b1, off1, none⟩ = some (.int .i64 (rnV pa)) := d0
          generalize rnV pa = y0 at *
          generalize rnV pc = y1 at *
          have HGX := hide (HGB.out.below HX.out)
          have HRX := hide (HRR.out.below HX.out)
          have HOX := hide (own_below HO.out HX.out)
          have HBX := hide (below_step HB.out HX.out)
          have HZX := hide (Nat.le_trans HZ.out HX.out.size)
          have g1 := HGX.out.2.1 0 _ rfl
          have gz := HGX.out.1
          clear HX HB HRR HFB HGB HO HZ HVB HAS HOK HWV hal hps hn1 hrd1 h2 HKV
          go_wp2_with fail
          refine wpAnyX_start (fun w' => ∃ n : Later x1, w' = n.w) [10, 12] (n := 13) (by kernel_rfl) rfl rfl ?_
          refine wpAnyX_take [0, 1, 2, 3, 4, 5, 6, 7, 8] 4 rfl (by kernel_rfl) (by intro c a d v w h; cases d <;> exact h) (by kernel_rfl) (by kernel_rfl) (by kernel_rfl) (by simp; rfl) rfl (later_drew _) ?_
          repeat (go_big_quiet_step (fail))
          refine wpQuiet_nil ?_
          clear g1 gz d0 d1
          have HX : Hid (Below x1.heap.size x1 x1.drew) := hide (Below.refl _ _).drew
          generalize x1.drew = V1 at *
          refine wpAnyX_only 9 (by kernel_rfl) (by simp; rfl) rfl rfl (fun K hK => ?_)
          go_wp2_with fail
          have HS := hide (Row.new V1 #[.int .i64 y0, .int .i64 y1] 120)
          replace HX := hide (below_alloc HX.out (.cells #[.int .i64 y0, .int .i64 y1] 120))
          refine ⟨later_of HX.out, ?_⟩
          generalize V1.alloc (.cells #[.int .i64 y0, .int .i64 y1] 120) = V5 at *
          generalize V1.heap.size = sb5 at *
          have HGA := hide (HGX.out.below HX.out)
          have HFA := hide (HFX.out.below HX.out)
          have HRA := hide (HRX.out.below HX.out)
          have HOA := hide (own_below HOX.out HX.out)
          have HBA := hide (below_step HBX.out HX.out)
          have HSZ := hide (Nat.le_trans HZX.out HX.out.size)
          clear HGX HFX HRX HOX HBX HX HZX
          refine wpAnyX_last 10 (by kernel_rfl) (by simp; rfl) rfl rfl (by kernel_rfl) (fun K hK => ?_)
          have hml : maxLen = 9223372036854775807 := rfl
          refine wp_append_lies _ (.tmp 44) (.tmp 52) 54 rfl N3 120 i0 _ 2 16 Tryd.underlying54 Hi.out Hz.out.1 Hz.out.2.1 Hz.out.2.2 rfl (by decide) (.slice A k cap) k (((L.take k).map (wvI 47)).flatMap mcells) rfl HOA.out ⟨sb5, 0, none⟩ 1 1 (mcells (y0, y1)) rfl rfl (fun q u hu => by rw [Addr.add_lit, Nat.zero_add]; exact HS.out.2.1 q u hu) (fun u hu => by simp [mcells] at hu; rcases hu with rfl | rfl <;> rfl) (by omega) (by omega) (by omega) HSZ.out V5.heap.size rfl (fun g' cap' w6 hown hgrow _ hlt' => ?_)
          have HO6 : Hid (w6.ownsRow N3 120 2 (.slice (some ⟨g', 0, none⟩) (k + 1) cap') (k + 1) (((L.take (k + 1)).map (wvI 47)).flatMap mcells)) := hide (by rw [HMT.out, List.flatMap_append, HSV.out]; simpa using hown)
          have HNB := hide (fun q hq => (HOA.out.lt q hq).1)
          have HG6 := hide (HGA.out.grown hgrow (fun e => by have h1 := HNB.out _ e.symm; have h2 := HLT.out; omega))
          have HF6 := hide (HFA.out.grown hgrow (fun e => by have h1 := HNB.out _ e.symm; have h2 := HLT.out; have h3 := HB4.out; omega))
          have HR6 := hide (HRA.out.grown hgrow (fun b off sp e e2 => by injection e with e; injection e with e3 e4 e5; subst e3; have h1 := HNB.out _ e2.symm; have h2 := HLT.out; omega))
          have HB6 := hide (HBA.out.grown hgrow HBA.out.size (fun q hq => by have h1 := HNB.out _ hq; have h5 := HBN.out; omega))
          have HZ6 := hide (Nat.le_trans HSZ.out hgrow.size)
          have hg6 := (HO6.out.lt g' rfl).1
          clear hml HS hown hgrow hlt' HOA HGA HFA HRA HBA HSZ
          refine hK _ _ ?_
          simp only [Act.put, List.setIfInBounds_toArray, List.set_cons_succ, List.set_cons_zero]
          refine wpAnyX_last 11 (by kernel_rfl) (by simp; rfl) rfl rfl (by kernel_rfl) (fun K hK => ?_)
          go_wp2_with fail
          refine wpAnyX_last 12 (by kernel_rfl) (by simp; rfl) rfl rfl (by kernel_rfl) (fun K hK => ?_)
          have a1 := HG6.out.2.1 0 _ rfl
          have f1 := HG6.out.free 0
          have z1 := HG6.out.1
          go_wp2_with fail
          refine wpAnyX_done (by kernel_rfl) ?_ _
          go_wp2
          go_roundg (gk - 1)
          case rel =>
            refine ⟨k + 1, _, cap', by go_num, by omega, hide (by have := HGH.out; omega), HAT, hide ((HG6.out.set (by simp) _).cast rfl), hide (own_kept HO6.out (grown_set (g := B4) _ rfl) (fun q hq e => by injection e with e; have h1 := (HO6.out.lt q hq).1; have h2 := HLT.out; omega)), hide (HF6.out.grown (grown_set (g := B4) _ rfl) (fun e => by injection e with e; have h2 := HB4.out; omega)), hide (HR6.out.grown (grown_set (g := B4) _ rfl) (fun b off sp e e2 => by injection e with e; injection e with e3 e4 e5; injection e2 with e2; subst e3; have h2 := HLT.out; omega)), hide (HB6.out.setCell (by have h2 := HB4.out; simp; omega) _), hide (by have := HZ6.out; simpa using this)⟩
          case measure => have := HGH.out; omega
        · have HN := hide (HVB.out (by rw [HOK.out, hal, decide_eq_false h2]; rfl))
          have HBX := hide (below_step HB.out HX.out)
          have g2 : (n1 : Int) ≠ 2 := by omega
          have e0 := HFX.out.2.1 0 _ rfl
          have e1 := HFX.out.2.1 1 _ rfl
          have f0 := HFX.out.free 0
          have f1 := HFX.out.free 1
          clear hal hps HOK hn1 h2 hrd1
          go_wp2
          exact bodyPost_ret (v := .tuple #[.agg #[.slice none 0 0, .slice none 0 0], .bool false]) (by simp [results, Tryd.results93, go_sem, *]) rfl (NetOut.no HN.out ((HBX.out.setCell (by simp) _).setCell (by simp) _))
    · obtain rfl : k = n := by omega
      have HTA := hide (show L.all (wokI 47) = true by have h := HAL.out; rwa [List.take_of_length_le (by have := Hn.out; omega)] at h)
      have HTK := hide (show (L.take k).map (wvI 47) = L.map (wvI 47) by rw [List.take_of_length_le (by have := Hn.out; omega)])
      rw [HTK.out] at HO
      have HLM := hide (show k = (L.map (wvI 47)).length by rw [List.length_map]; exact Hn.out)
      clear HTK HAL HGH HRR HZ QN QW B1 Hn HF3 HG3 HR HB3
      have Hn := HLM
      rename World => wo
      go_wp2_with fail
      refine (Q4.out _ HB.out).mono ?_
      rintro e w4 ⟨⟨gx, m, rfl, hm, hgx, hrd⟩, hq⟩
      have HB5 := hide (below_step HB.out hq)
      have HF5 := hide (HFB.out.below hq)
      have HG5 := hide (HGB.out.below hq)
      have HO5 := hide (own_below HO.out hq)
      have Hm := hide hm
      have HR5 := hide hrd
      have hm2 : m ≤ 1048578 := by have := QM.out; omega
      have HLU := hide (show B4 < w4.heap.size ∧ B4 < gx ∧ gx < w4.heap.size from ⟨HG5.out.1, Nat.lt_of_lt_of_le HGB.out.1 hgx.1, hgx.2⟩)
      have HOL := hide (fun q hq => (HO5.out.lt q hq).2)
      clear hq hm hrd Q4 HFB HGB HO HB hgx QM
      generalize hN4 : w4.heap.size = N4 at HLU HOL
      have HZ5 := hide (Nat.le_of_eq hN4.symm)
      have HBM := hide (show w.heap.size ≤ N4 by have h1 := HLU.out; have h2 := HB4.out; omega)
      clear hN4
      generalize L.map (wvI 47) = M at *
      go_wp2_with fail
      go_loopg [59] m (fun g t wr => ∃ (kq : Nat) (Aq : Option Addr) (cq : Nat), t = .int .i64 (kq : Int) ∧ kq ≤ m ∧ Hid (m ≤ g + kq) ∧ Hid ((R.take kq).all (wokI 58) = true) ∧ Hid (Row wr B4 [.slice A k cap, .slice Aq kq cq]) ∧ Hid (wr.ownsRow N4 118 2 (.slice Aq kq cq) kq (((R.take kq).map (wvI 58)).flatMap mcells)) ∧ Hid (wr.ownsRow N3 120 2 (.slice A k cap) k (M.flatMap mcells)) ∧ Hid (Row wr w.heap.size [.slice none 0 0, .slice none 0 0]) ∧ Hid (Rd wr (some ⟨gx, 0, none⟩) (R.map Value.string)) ∧ Hid (Below w.heap.size w wr) ∧ Hid (N4 ≤ wr.heap.size))
      case atStart => exact ⟨0, none, 0, rfl, by omega, hide (by omega), hide rfl, HG5, hide (World.ownsRow_nil _ _ _ _), HO5, HF5, HR5, HB5, HZ5⟩
      case round =>
        obtain ⟨kq, Aq, cq, rfl, hk, HGH, HAL, HGB, HO, HOM, HFB, HRR, HB, HZ⟩ := hrel
        by_cases hlt : kq < m
        · obtain ⟨v, hv⟩ : ∃ v, R[kq]? = some v := ⟨_, List.getElem?_eq_getElem (by rw [← Hm.out]; exact hlt)⟩
          have hvm := List.mem_of_getElem? hv
          have hvz := QX.out v hvm
          obtain ⟨b, off, e1, hbs, c0⟩ := HRR.out.get1 (k := kq) (u := .string v) (by rw [List.getElem?_map, hv]; rfl)
          injection e1 with e1; injection e1 with e2 e3; subst e2; subst e3
          rw [Nat.zero_add] at c0
          have P1 := hide (readNumbers_any v 58 wr (by omega) (HE.out wr HB.out).txt)
          have HMT := hide (map_take_succ (wvI 58) hv)
          have HAS := hide (fun h => all_take_succ (wokI 58) hv HAL.out h)
          have HVB := hide (B2.out v hvm)
          have HOK : Hid (wokI 58 v = ((splitS v 58).all rnOk && decide ((splitS v 58).length = 2))) := hide rfl
          have HWV : Hid (wvI 58 v = (rnV ((splitS v 58).getD 0 ByteArray.empty), rnV ((splitS v 58).getD 1 ByteArray.empty))) := hide rfl
          generalize wvI 58 v = sv at *
          generalize wokI 58 v = kv at *
          unfold NumsPost at P1
          generalize splitS v 58 = ps at *
          clear hv hvm hvz
          go_wp2_with fail
          refine P1.out.mono ?_
          rintro e x1 ⟨⟨A1, n1, c1, rfl, hps⟩, hq⟩
          have HX := hide hq
          clear hq P1 c0
          have HFX := hide (HFB.out.below HX.out)
          cases hal : ps.all rnOk with
          | false =>
            have HN := hide (HVB.out (by rw [HOK.out, hal]; rfl))
            have HBX := hide (below_step HB.out HX.out)
            have e0 := HFX.out.2.1 0 _ rfl
            have e1 := HFX.out.2.1 1 _ rfl
            have f0 := HFX.out.free 0
            have f1 := HFX.out.free 1
            clear hal hps HOK
            go_wp2
            exact bodyPost_ret (v := .tuple #[.agg #[.slice none 0 0, .slice none 0 0], .bool false]) (by simp [results, Tryd.results93, go_sem, *]) rfl (NetOut.no HN.out ((HBX.out.setCell (by simp) _).setCell (by simp) _))
          | true =>
            obtain ⟨hn1, hrd1⟩ := hps hal
            by_cases h2 : ps.length = 2
            · obtain ⟨pa, pc, rfl⟩ : ∃ pa pc, ps = [pa, pc] := by
                match ps, h2 with
                | [a, c], _ => exact ⟨a, c, rfl⟩
              have HKV := hide (show kv = true by rw [HOK.out, hal]; rfl)
              have HAT := hide (HAS.out HKV.out)
              have HSV := hide (show sv = (rnV pa, rnV pc) from HWV.out)
              obtain rfl : n1 = 2 := by rw [hn1]; rfl
              obtain ⟨b1, off1, rfl, hbs1, d0⟩ := hrd1.get1 (k := 0) (u := .int .i64 (rnV pa)) rfl
              obtain ⟨b3, off3, e3, hbs3, d1⟩ := hrd1.get1 (k := 1) (u := .int .i64 (rnV pc)) rfl
              injection e3 with e3; injection e3 with e4 e5; subst e4; subst e5
              have d0 : x1.cell? ⟨b1, off1, none⟩ = some (.int .i64 (rnV pa)) := d0
              generalize rnV pa = y0 at *
              generalize rnV pc = y1 at *
              have HGX := hide (HGB.out.below HX.out)
              have HRX := hide (HRR.out.below HX.out)
              have HOX := hide (own_below HO.out HX.out)
              have HMX := hide (own_below HOM.out HX.out)
              have HBX := hide (below_step HB.out HX.out)
              have HZX := hide (Nat.le_trans HZ.out HX.out.size)
              have g1 := HGX.out.2.1 1 _ rfl
              have gz := HGX.out.1
              clear HX HB HRR HFB HGB HO HZ HVB HAS HOK HWV hal hps hn1 hrd1 h2 HKV HOM
              go_wp2_with fail
              refine wpAnyX_start (fun w' => ∃ n : Later x1, w' = n.w) [10, 12] (n := 13) (by kernel_rfl) rfl rfl ?_
              refine wpAnyX_take [0, 1, 2, 3, 4, 5, 6, 7, 8] 4 rfl (by kernel_rfl) (by intro c a d v w h; cases d <;> exact h) (by kernel_rfl) (by kernel_rfl) (by kernel_rfl) (by simp; rfl) rfl (later_drew _) ?_
              repeat (go_big_quiet_step (fail))
              refine wpQuiet_nil ?_
              clear g1 gz d0 d1
              have HX : Hid (Below x1.heap.size x1 x1.drew) := hide (Below.refl _ _).drew
              generalize x1.drew = V1 at *
              refine wpAnyX_only 9 (by kernel_rfl) (by simp; rfl) rfl rfl (fun K hK => ?_)
              go_wp2_with fail
              have HS := hide (Row.new V1 #[.int .i64 y0, .int .i64 y1] 118)
              replace HX := hide (below_alloc HX.out (.cells #[.int .i64 y0, .int .i64 y1] 118))
              refine ⟨later_of HX.out, ?_⟩
              generalize V1.alloc (.cells #[.int .i64 y0, .int .i64 y1] 118) = V5 at *
              generalize V1.heap.size = sb5 at *
              have HGA := hide (HGX.out.below HX.out)
              have HFA := hide (HFX.out.below HX.out)
              have HRA := hide (HRX.out.below HX.out)
              have HOA := hide (own_below HOX.out HX.out)
              have HMA := hide (own_below HMX.out HX.out)
              have HBA := hide (below_step HBX.out HX.out)
              have HSZ := hide (Nat.le_trans HZX.out HX.out.size)
              clear HGX HFX HRX HOX HBX HX HZX
              refine wpAnyX_last 10 (by kernel_rfl) (by simp; rfl) rfl rfl (by kernel_rfl) (fun K hK => ?_)
              have hml : maxLen = 9223372036854775807 := rfl
              refine wp_append_lies _ (.tmp 77) (.tmp 85) 55 rfl N4 118 j0 _ 2 16 Tryd.underlying55 Hj.out Hy.out.1 Hy.out.2.1 Hy.out.2.2 rfl (by decide) (.slice Aq kq cq) kq (((R.take kq).map (wvI 58)).flatMap mcells) rfl HOA.out ⟨sb5, 0, none⟩ 1 1 (mcells (y0, y1)) rfl rfl (fun q u hu => by rw [Addr.add_lit, Nat.zero_add]; exact HS.out.2.1 q u hu) (fun u hu => by simp [mcells] at hu; rcases hu with rfl | rfl <;> rfl) (by omega) (by omega) (by omega) HSZ.out V5.heap.size rfl (fun g' cap' w6 hown hgrow _ hlt' => ?_)
              have HO6 : Hid (w6.ownsRow N4 118 2 (.slice (some ⟨g', 0, none⟩) (kq + 1) cap') (kq + 1) (((R.take (kq + 1)).map (wvI 58)).flatMap mcells)) := hide (by rw [HMT.out, List.flatMap_append, HSV.out]; simpa using hown)
              have HNB := hide (fun q hq => (HOA.out.lt q hq).1)
              have HG6 := hide (HGA.out.grown hgrow (fun e => by have h1 := HNB.out _ e.symm; have h2 := HLU.out; omega))
              have HF6 := hide (HFA.out.grown hgrow (fun e => by have h1 := HNB.out _ e.symm; have h2 := HLU.out; have h3 := HB4.out; omega))
              have HR6 := hide (HRA.out.grown hgrow (fun b off sp e e2 => by injection e with e; injection e with e3 e4 e5; subst e3; have h1 := HNB.out _ e2.symm; have h2 := HLU.out; omega))
              have HM6 := hide (own_near HMA.out HOL.out hgrow (fun q hq => HNB.out q hq))
              have HB6 := hide (HBA.out.grown hgrow HBA.out.size (fun q hq => by have h1 := HNB.out _ hq; have h5 := HBM.out; omega))
              have HZ6 := hide (Nat.le_trans HSZ.out hgrow.size)
              have hg6 := (HO6.out.lt g' rfl).1
              clear hml HS hown hgrow hlt' HOA HGA HFA HRA HBA HSZ HMA HMX
              refine hK _ _ ?_
              simp only [Act.put, List.setIfInBounds_toArray, List.set_cons_succ, List.set_cons_zero]
              refine wpAnyX_last 11 (by kernel_rfl) (by simp; rfl) rfl rfl (by kernel_rfl) (fun K hK => ?_)
              go_wp2_with fail
              refine wpAnyX_last 12 (by kernel_rfl) (by simp; rfl) rfl rfl (by kernel_rfl) (fun K hK => ?_)
              have a1 := HG6.out.2.1 1 _ rfl
              have f1 := HG6.out.free 1
              have z1 := HG6.out.1
              go_wp2_with fail
              refine wpAnyX_done (by kernel_rfl) ?_ _
              go_wp2
              go_roundg (gk - 1)
              case rel =>
                refine ⟨kq + 1, _, cap', by go_num, by omega, hide (by have := HGH.out; omega), HAT, hide ((HG6.out.set (by simp) _).cast rfl), hide (own_kept HO6.out (grown_set (g := B4) _ rfl) (fun q hq e => by injection e with e; have h1 := (HO6.out.lt q hq).1; have h2 := HLU.out; omega)), hide (own_kept HM6.out (grown_set (g := B4) _ rfl) (fun q hq e => by injection e with e; have h1 := (HM6.out.lt q hq).1; have h2 := HLT.out; omega)), hide (HF6.out.grown (grown_set (g := B4) _ rfl) (fun e => by injection e with e; have h2 := HB4.out; omega)), hide (HR6.out.grown (grown_set (g := B4) _ rfl) (fun b off sp e e2 => by injection e with e; injection e with e3 e4 e5; injection e2 with e2; subst e3; have h2 := HLU.out; omega)), hide (HB6.out.setCell (by have h2 := HB4.out; simp; omega) _), hide (by have := HZ6.out; simpa using this)⟩
              case measure => have := HGH.out; omega
            · have HN := hide (HVB.out (by rw [HOK.out, hal, decide_eq_false h2]; rfl))
              have HBX := hide (below_step HB.out HX.out)
              have g2 : (n1 : Int) ≠ 2 := by omega
              have e0 := HFX.out.2.1 0 _ rfl
              have e1 := HFX.out.2.1 1 _ rfl
              have f0 := HFX.out.free 0
              have f1 := HFX.out.free 1
              clear hal hps HOK hn1 h2 hrd1
              go_wp2
              exact bodyPost_ret (v := .tuple #[.agg #[.slice none 0 0, .slice none 0 0], .bool false]) (by simp [results, Tryd.results93, go_sem, *]) rfl (NetOut.no HN.out ((HBX.out.setCell (by simp) _).setCell (by simp) _))
        · obtain rfl : kq = m := by omega
          have HTB := hide (show R.all (wokI 58) = true by have h := HAL.out; rwa [List.take_of_length_le (by have := Hm.out; omega)] at h)
          have HTK := hide (show (R.take kq).map (wvI 58) = R.map (wvI 58) by rw [List.take_of_length_le (by have := Hm.out; omega)])
          rw [HTK.out] at HO
          have HLM := hide (show kq = (R.map (wvI 58)).length by rw [List.length_map]; exact Hm.out)
          have HFL := hide (HGD.out HTA.out HTB.out)
          clear HTK HAL HGH HRR HZ QX B2 Hm HF5 HG5 HR5 HB5 HTA HTB HGD HO5
          generalize R.map (wvI 58) = H at *
          have QT := hide (implisNet_any B4 A Aq k cap kq cq M H wr Hn.out HLM.out (by unfold maxLen; omega) (by unfold maxLen; omega) ⟨own_rd HOM.out, own_rd HO.out⟩ (HGB.out.2.1 0 _ rfl) (HGB.out.2.1 1 _ rfl))
          cases hb : netB M H with
          | false =>
            have HN := hide (show o = none by rw [HFL.out, hb]; rfl)
            rw [hb] at QT
            clear hb
            go_wp2_with fail
            refine QT.out.mono ?_
            rintro e w5 ⟨rfl, hq⟩
            have HB6 := hide (below_step HB.out hq)
            have HF6 := hide (HFB.out.below hq)
            have e0 := HF6.out.2.1 0 _ rfl
            have e1 := HF6.out.2.1 1 _ rfl
            have f0 := HF6.out.free 0
            have f1 := HF6.out.free 1
            clear hq QT
            go_wp2
            exact bodyPost_ret (v := .tuple #[.agg #[.slice none 0 0, .slice none 0 0], .bool false]) (by simp [results, Tryd.results93, go_sem, *]) rfl (NetOut.no HN.out ((HB6.out.setCell (by simp) _).setCell (by simp) _))
          | true =>
            have HKK := hide (netB_ok hb)
            rw [hb] at QT HFL
            clear hb
            go_wp2_with fail
            refine QT.out.mono ?_
            rintro e w5 ⟨rfl, hq⟩
            have HB6 := hide (below_step HB.out hq)
            have HF6 := hide (HFB.out.below hq)
            have HG6 := hide (HGB.out.below hq)
            have HO6 := hide (own_below HO.out hq)
            have HM6 := hide (own_below HOM.out hq)
            clear hq QT HB HFB HGB HO HOM
            have QX := hide (netText_any B4 k cap kq cq A Aq M H w5 Hn.out HLM.out HKK.out ⟨own_rd HM6.out, own_rd HO6.out⟩ (HG6.out.2.1 0 _ rfl) (HG6.out.2.1 1 _ rfl) (HE.out _ HB6.out).txt.num.tab)
            generalize nxT M H = x at *
            go_wp2_with fail
            refine QX.out.mono ?_
            rintro e w6 ⟨rfl, hq⟩
            have HB7 := hide (below_step HB6.out hq)
            have HF7 := hide (HF6.out.below hq)
            have HG7 := hide (HG6.out.below hq)
            have HO7 := hide (own_below HO6.out hq)
            have HM7 := hide (own_below HM6.out hq)
            have e0 := HF7.out.2.1 0 _ rfl
            have e1 := HF7.out.2.1 1 _ rfl
            have f0 := HF7.out.free 0
            have f1 := HF7.out.free 1
            have d0 := HG7.out.2.1 0 _ rfl
            have d1 := HG7.out.2.1 1 _ rfl
            clear hq QX HB6 HF6 HG6 HO6 HM6
            by_cases hx : x = s
            · subst hx
              have HS := hide (show o = some (M, H) by rw [HFL.out]; simp)
              have HOE := hide (own_le (B' := w.heap.size) HO7.out HBM.out)
              have HME := hide (own_le (B' := w.heap.size) HM7.out HBN.out)
              have HK1 : Hid (∀ (W : World) (o1 : Nat) (u : Value), W.ownsRow w.heap.size 118 2 (.slice Aq kq cq) kq (H.flatMap mcells) → (W.setCell ⟨w.heap.size, o1, none⟩ u).ownsRow w.heap.size 118 2 (.slice Aq kq cq) kq (H.flatMap mcells)) := hide (fun W o1 u h => own_kept h (grown_set (g := w.heap.size) u rfl) (fun q hq e => by injection e with e; have h1 := (HO7.out.lt q hq).1; have h2 := HLU.out; have h3 := HB4.out; omega))
              have HK2 : Hid (∀ (W : World) (o1 : Nat) (u : Value), W.ownsRow w.heap.size 120 2 (.slice A k cap) k (M.flatMap mcells) → (W.setCell ⟨w.heap.size, o1, none⟩ u).ownsRow w.heap.size 120 2 (.slice A k cap) k (M.flatMap mcells)) := hide (fun W o1 u h => own_kept h (grown_set (g := w.heap.size) u rfl) (fun q hq e => by injection e with e; have h1 := (HM7.out.lt q hq).1; have h2 := HLT.out; have h3 := HB4.out; omega))
              clear HO7 HM7
              go_wp2
              exact bodyPost_ret (v := .tuple #[.agg #[.slice A k cap, .slice Aq kq cq], .bool true]) (by simp [results, Tryd.results93, go_sem, *]) rfl (NetOut.yes HS.out (by rw [← Hn.out]; exact HK2.out _ _ _ (HK2.out _ _ _ HME.out)) (by rw [← HLM.out]; exact HK1.out _ _ _ (HK1.out _ _ _ HOE.out)) ((HB7.out.setCell (by simp) _).setCell (by simp) _))
            · have HN := hide (show o = none by rw [HFL.out]; simp [hx])
              have hne := texts_ne hx
              clear hx
              go_wp2
              exact bodyPost_ret (v := .tuple #[.agg #[.slice none 0 0, .slice none 0 0], .bool false]) (by simp [results, Tryd.results93, go_sem, *]) rfl (NetOut.no HN.out ((HB7.out.setCell (by simp) _).setCell (by simp) _))
end Go.Proofs.YtmoelgbbgepckaaDoor

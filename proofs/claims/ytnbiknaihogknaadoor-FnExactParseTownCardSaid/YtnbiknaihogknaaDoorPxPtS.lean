/- The reference reads a town. -/
import Derived.Test.YtnbiknaihogknaaDoorPxPtO
import Derived.Test.YtnbiknaihogknaaDoorPxParU
import Derived.Deep.LoopGhost
import Derived.Deep.DeepCutAuto
import Derived.Deep.CutBlock
import Derived.Deep.AppendLies
namespace Go.Proofs.YtnbiknaihogknaaDoor
open Go.RowKit
set_option linter.unusedVariables false

theorem ptS_no1 {s : ByteArray} (h : 600 < s.size) : ptS s = none := by rw [ptS, decide_eq_false (by omega)]; rfl
theorem ptS_no2 {s : ByteArray} (h : 41 < (splitS s 32).length) : ptS s = none := by
  rw [ptS, decide_eq_false (show ¬ (splitS s 32).length ≤ 41 by omega)]
  simp
theorem ptS_no3 {s x : ByteArray} {xs : List ByteArray} (h : splitS s 32 = x :: xs) (h2 : x.size < 2) : ptS s = none := by
  rw [ptS, h, decide_eq_false (show ¬ 2 ≤ ((x :: xs).headD ByteArray.empty).size by show ¬ 2 ≤ x.size; omega)]
  simp
theorem ptS_eq {s x : ByteArray} {xs : List ByteArray} (h : splitS s 32 = x :: xs) (h1 : s.size ≤ 600) (h2 : xs.length ≤ 40) (h3 : 2 ≤ x.size) : ptS s = if townB (readS (headS x)) (xs.map strS) && decide (ttN (readS (headS x)).toNat (xs.map strS) (xs.map strS).length = s) then some (readS (headS x), xs.map strS) else none := by
  have e1 : ptNd s = readS (headS x) := by rw [ptNd, h]; rfl
  have e2 : ptL s = xs.map strS := by rw [ptL, h]; rfl
  have e3 : decide ((splitS s 32).length ≤ 41) = true := decide_eq_true (by rw [h, List.length_cons]; omega)
  have e4 : decide (2 ≤ ((splitS s 32).headD ByteArray.empty).size) = true := decide_eq_true (by rw [h]; exact h3)
  rw [ptS, e1, e2, e3, e4, decide_eq_true h1]
  rfl

set_option maxRecDepth 100000 in
set_option maxHeartbeats 8000000 in
theorem specParseTown_any (s : ByteArray) (w : World) (hs : s.size ≤ 1048576) :
    Calls Tryd.prog 4 #[.string s] w (TownOut (ptS s) w) := by
  obtain ⟨x, xs, hx⟩ : ∃ x xs, splitS s 32 = x :: xs := by
    cases h : splitS s 32 with
    | nil => have := splitS_pos s 32; rw [h] at this; simp at this
    | cons a b => exact ⟨a, b, rfl⟩
  have Q := hide (fun W => split_any s 32 W (by omega))
  have HF0 := hide (Row.new w #[.int .i64 0, .slice none 0 0] 24)
  have H0 := hide (below_alloc (Below.refl w.heap.size w) (.cells #[.int .i64 0, .slice none 0 0] 24))
  have HXZ := hide (fun y (hy : y ∈ x :: xs) => show y.size ≤ s.size from splitS_size s 32 (by rw [hx]; exact hy))
  have HL := hide (show xs.length ≤ s.size from by have := splitS_len s 32; rw [hx, List.length_cons] at this; omega)
  have N1 := hide (fun h => ptS_no1 (s := s) h)
  have N2 := hide (fun (h : 40 < xs.length) => ptS_no2 (s := s) (by rw [hx, List.length_cons]; omega))
  have N3 := hide (fun h => ptS_no3 hx h)
  have N4 := hide (fun h1 h2 h3 => ptS_eq hx h1 h2 h3)
  rw [hx] at Q
  generalize ptS s = o at *
  clear hx
  go_enter Tryd.func4, Tryd.ntmps4
  go_wp2_with fail
  refine (Q.out _).mono ?_
  rintro e w1 ⟨⟨v, rfl, ho⟩, hq⟩
  obtain ⟨A, cap, rfl, hrd, hmc, -⟩ := own_open ho
  obtain ⟨b, off, rfl, hbs, c0⟩ := hrd.get1 (k := 0) (u := .string x) rfl
  have c0 : w1.cell? ⟨b, off, none⟩ = some (.string x) := c0
  have HR := hide hrd
  have HB := hide (below_step H0.out hq)
  have HF := hide (HF0.out.below hq)
  have hxz := HXZ.out x (by simp)
  have hl := HL.out
  have HA := hide (ho.lt b rfl)
  clear ho hq hrd Q H0 HF0
  have HBAD : (600 < s.size ∨ 40 < xs.length ∨ x.size < 2) → ∀ _ : o = none, True := fun _ _ => trivial
  clear HBAD
  by_cases h1 : 600 < s.size
  · have HN := hide (N1.out h1)
    have g1 : (600 : Int) < (s.size : Int) := by omega
    have e0 := HF.out.at 0 rfl
    have e1 := HF.out.at 1 rfl
    have f0 := HF.out.free 0
    have f1 := HF.out.free 1
    clear h1 N1 N2 N3 N4
    go_wp2
    exact bodyPost_ret (v := .tuple #[.agg #[.int .i64 0, .slice none 0 0], .bool false]) (by simp [results, Tryd.results4, go_sem, *]) rfl (TownOut.no HN.out ((HB.out.setCell (by simp) _).setCell (by simp) _))
  · have g1 : ¬ (600 : Int) < (s.size : Int) := by omega
    by_cases h2 : 40 < xs.length
    · have HN := hide (N2.out h2)
      have g2 : (41 : Int) < (((x :: xs).length : Nat) : Int) := by rw [List.length_cons]; omega
      have e0 := HF.out.at 0 rfl
      have e1 := HF.out.at 1 rfl
      have f0 := HF.out.free 0
      have f1 := HF.out.free 1
      clear h1 h2 N1 N2 N3 N4
      generalize hm : (x :: xs).length = m at *
      go_wp2
      exact bodyPost_ret (v := .tuple #[.agg #[.int .i64 0, .slice none 0 0], .bool false]) (by simp [results, Tryd.results4, go_sem, *]) rfl (TownOut.no HN.out ((HB.out.setCell (by simp) _).setCell (by simp) _))
    · have g2 : ¬ (41 : Int) < (((x :: xs).length : Nat) : Int) := by rw [List.length_cons]; omega
      have g3 : 0 < (x :: xs).length := by simp
      by_cases h3 : x.size < 2
      · have HN := hide (N3.out h3)
        have g4 : (x.size : Int) < 2 := by omega
        have e0 := HF.out.at 0 rfl
        have e1 := HF.out.at 1 rfl
        have f0 := HF.out.free 0
        have f1 := HF.out.free 1
        clear h1 h2 h3 N1 N2 N3 N4
        generalize hm : (x :: xs).length = m at *
        have g5 : (0 : Int) < (m : Int) := by omega
        go_wp2
        exact bodyPost_ret (v := .tuple #[.agg #[.int .i64 0, .slice none 0 0], .bool false]) (by simp [results, Tryd.results4, go_sem, *]) rfl (TownOut.no HN.out ((HB.out.setCell (by simp) _).setCell (by simp) _))
      · have HV := hide (N4.out (by omega) (by omega) (by omega))
        have g4 : ¬ (x.size : Int) < 2 := by omega
        have hx2 : 2 ≤ x.size := by omega
        have hx6 : x.size ≤ 600 := by omega
        have hl4 : xs.length ≤ 40 := by omega
        clear h1 h2 h3 N1 N2 N3 N4 hxz hl
        generalize hm : (x :: xs).length = m at *
        have HM := hide (show m = xs.length + 1 by rw [← hm, List.length_cons])
        have g5 : (0 : Int) < (m : Int) := by omega
        clear hm
        have QH := hide (fun W => read_any (headS x) W (by have h1 : (headS x).size ≤ x.size := (by rw [headS, ByteArray.size_extract]; omega); unfold maxLen; omega))
        have HHD := hide (show x.extract 0 (x.size - 1) = headS x from rfl)
        have j1 : ((x.size : Int) - 1).toNat = x.size - 1 := by omega
        have j2 : (0 : Int) ≤ (x.size : Int) - 1 := by omega
        have j3 : (x.size : Int) - 1 ≤ (x.size : Int) := by omega
        go_upto_region 4 with fail
        go_cut [5] (fun s5 wx => ∃ tb : Nat, s5 = .pointer (some ⟨tb, 0, none⟩) ∧ Hid (w1.heap.size ≤ tb) ∧ Hid (Row wx tb [.int .i64 (readS (headS x)), .slice none 0 0]) ∧ Hid (Below w1.heap.size w1 wx))
        case first => as_aux_lemma =>
          go_wp2_with fail
          refine wpAnyS_start (fun w' => ∃ n : Later w1, w' = n.w) (n := 13) (by kernel_rfl) rfl rfl ?_
          refine wpAnyS_take_all [0, 1, 2, 3, 4, 5, 6, 7, 8] 4 rfl (by kernel_rfl) (by intro c a d v w h; cases d <;> exact h) (by kernel_rfl) (by simp; rfl) rfl (later_drew _) ?_
          repeat (go_big_quiet_step (fail))
          refine wpQuiet_nil ?_
          clear c0
          have HG : Hid (Below w1.heap.size w1 w1.drew) := hide (Below.refl _ _).drew
          generalize w1.drew = V0 at *
          refine wpAnyN_two 9 11 (by kernel_rfl) (by simp; rfl) (by simp; rfl) rfl rfl rfl rfl (fun K hK => ?_) (fun K hK => ?_)
          · go_wp2_with fail
            rw [HHD.out]
            refine (QH.out _).mono ?_
            rintro e V1 ⟨rfl, hb⟩
            replace HG := hide (below_step HG.out hb)
            clear hb
            go_wp2_with fail
            refine ⟨later_of HG.out, ?_⟩
            refine wpAnyS_take_all [10] 2 rfl (by kernel_rfl) (by intro c a d v w h; cases d <;> exact h) (by kernel_rfl) (by simp; rfl) rfl (later_of HG.out) ?_
            repeat (go_big_quiet_step (fail))
            refine wpQuiet_nil ?_
            refine wpAnyS_only 11 (by kernel_rfl) (by simp; rfl) rfl rfl (fun K hK => ?_)
            go_wp2_with fail
            have HX := hide (Row.new V1 #[.int .i64 0, .slice none 0 0] 24)
            have HTL : Hid (w1.heap.size ≤ V1.heap.size) := hide HG.out.size
            replace HG := hide (below_alloc HG.out (.cells #[.int .i64 0, .slice none 0 0] 24))
            refine ⟨later_of HG.out, ?_⟩
            generalize V1.alloc (.cells #[.int .i64 0, .slice none 0 0] 24) = V9 at *
            generalize V1.heap.size = tb at *
            refine wpAnyS_only 12 (by kernel_rfl) (by simp; rfl) rfl rfl (fun K hK => ?_)
            have t0 := HX.out.at 0 rfl
            have t1 := HX.out.at 1 rfl
            have q0 := HX.out.free 0
            have q1 := HX.out.free 1
            have qz := HX.out.1
            go_wp2_with fail
            have HG9 : Hid (Below w1.heap.size w1 ((V9.setCell ⟨tb, 0, none⟩ (.int .i64 (readS (headS x)))).setCell ⟨tb, 1, none⟩ (.slice none 0 0))) := hide ((HG.out.setCell HTL.out _).setCell HTL.out _)
            refine ⟨later_of HG9.out, ?_⟩
            refine wpAnyH_done (by kernel_rfl) ?_ _
            go_wp2_with fail
            go_meet
            exact ⟨tb, rfl, HTL, hide ((HX.out.set (k := 0) (by simp) _).set (k := 1) (by simp) _), HG9⟩
          · go_wp2_with fail
            have HX := hide (Row.new V0 #[.int .i64 0, .slice none 0 0] 24)
            have HTL : Hid (w1.heap.size ≤ V0.heap.size) := hide HG.out.size
            replace HG := hide (below_alloc HG.out (.cells #[.int .i64 0, .slice none 0 0] 24))
            refine ⟨later_of HG.out, ?_⟩
            generalize V0.alloc (.cells #[.int .i64 0, .slice none 0 0] 24) = V9 at *
            generalize V0.heap.size = tb at *
            refine wpAnyS_only 9 (by kernel_rfl) (by simp; rfl) rfl rfl (fun K hK => ?_)
            go_wp2_with fail
            rw [HHD.out]
            refine (QH.out _).mono ?_
            rintro e V1 ⟨rfl, hb⟩
            replace HX := hide (HX.out.below hb)
            replace HG := hide (below_step HG.out hb)
            clear hb
            go_wp2_with fail
            refine ⟨later_of HG.out, ?_⟩
            refine wpAnyS_take_all [10] 1 rfl (by kernel_rfl) (by intro c a d v w h; cases d <;> exact h) (by kernel_rfl) (by simp; rfl) rfl (later_of HG.out) ?_
            repeat (go_big_quiet_step (fail))
            refine wpQuiet_nil ?_
            refine wpAnyS_only 12 (by kernel_rfl) (by simp; rfl) rfl rfl (fun K hK => ?_)
            have t0 := HX.out.at 0 rfl
            have t1 := HX.out.at 1 rfl
            have q0 := HX.out.free 0
            have q1 := HX.out.free 1
            have qz := HX.out.1
            go_wp2_with fail
            have HG9 : Hid (Below w1.heap.size w1 ((V1.setCell ⟨tb, 0, none⟩ (.int .i64 (readS (headS x)))).setCell ⟨tb, 1, none⟩ (.slice none 0 0))) := hide ((HG.out.setCell HTL.out _).setCell HTL.out _)
            refine ⟨later_of HG9.out, ?_⟩
            refine wpAnyH_done (by kernel_rfl) ?_ _
            go_wp2_with fail
            go_meet
            exact ⟨tb, rfl, HTL, hide ((HX.out.set (k := 0) (by simp) _).set (k := 1) (by simp) _), HG9⟩
        case rest =>
          obtain ⟨tb, rfl, HTL, HT, HBC⟩ := hcut
          rename World => wc
          have HF2 := hide (HF.out.below HBC.out)
          have HR2 := hide (HR.out.below HBC.out)
          have HB2 := hide (below_step HB.out HBC.out)
          have HFT := hide (show w.heap.size < tb by have h1 := HF.out.1; have h2 := HTL.out; omega)
          have HLT := hide (show b < tb by have h1 := HA.out; have h2 := HTL.out; omega)
          have HN3 := hide (show tb < wc.heap.size from HT.out.1)
          obtain ⟨i0, hi0, hz0, hz1, hz2⟩ := info_parts infoStreetP
          have Hi := hide hi0
          have Hz := hide (And.intro hz0 (And.intro hz1 hz2))
          clear hi0 hz0 hz1 hz2 HB HF HR HBC QH HHD j1 j2 j3 c0 g1 g4
          generalize readS (headS x) = nd at *
          have HRX := hide (show Rd wc (some ⟨b, off + 1, none⟩) (xs.map Value.string) from by
            rcases HR2.out with h | ⟨b', off', e, hc⟩
            · cases h
            · injection e with e
              injection e with e1 e2
              subst e1 e2
              exact .inr ⟨_, _, rfl, fun j u hu => by rw [Nat.add_assoc, Nat.add_comm 1 j]; exact hc (j + 1) u (by simpa [strV] using hu)⟩)
          have HNIL := hide (show m = 1 → xs = [] from fun h => List.eq_nil_of_length_eq_zero (by have := HM.out; omega))
          go_upto_region 5 with fail
          go_cut [38, 39, 40] (fun s38 s39 s40 wx => ∃ o2 c2 : Nat, s38 = .slice (some ⟨b, o2, none⟩) (m - 1) c2 ∧ s39 = .int .i64 ((m - 1 : Nat) : Int) ∧ s40 = .int .i64 0 ∧ Hid (Rd wx (some ⟨b, o2, none⟩) (xs.map Value.string)) ∧ Hid (Below wc.heap.size wc wx))
          case first =>
            by_cases hcap : cap = 1
            · subst hcap
              go_wp2_with fail
              go_meet
              exact ⟨off, 0, (by rw [show m - 1 = 0 by omega]), (by rw [show m - 1 = 0 by omega]; rfl), rfl, hide (by rw [HNIL.out (by omega)]; exact Rd.nil _ _), hide (Below.refl _ _)⟩
            · go_wp2_with fail
              go_meet
              exact ⟨_, _, rfl, rfl, rfl, HRX, hide (Below.refl _ _)⟩
          case rest =>
            obtain ⟨o2, c2, rfl, rfl, rfl, HRW, HBD⟩ := hcut
            rename World => wd
            replace HF2 := hide (HF2.out.below HBD.out)
            replace HT := hide (HT.out.below HBD.out)
            replace HB2 := hide (below_step HB2.out HBD.out)
            replace HN3 := hide (show tb < wd.heap.size from HT.out.1)
            clear HBD HR2 HRX HNIL
            obtain ⟨k, hk⟩ : ∃ k, k = m - 1 := ⟨_, rfl⟩
            have Hk := hide (show k = xs.length by have := HM.out; omega)
            have hk40 : k ≤ 40 := by have := HM.out; omega
            rw [← hk]
            clear hk
            generalize hN3 : wd.heap.size = N3 at HN3
            have HZ0 := hide (Nat.le_of_eq hN3.symm)
            have QW := hide (fun (v : ByteArray) (hv : v ∈ xs) => show v.size ≤ 2000000 by have h1 := HXZ.out v (List.mem_cons_of_mem _ hv); omega)
            have HB0 := hide (show w.heap.size ≤ N3 by have h1 := HFT.out; have h2 := HN3.out; omega)
            go_wp2_with fail
            go_loopg [40] k (fun g t wr => ∃ (j : Nat) (A : Option Addr) (cp : Nat), t = .int .i64 (j : Int) ∧ j ≤ k ∧ Hid (k ≤ g + j) ∧ Hid (Row wr tb [.int .i64 nd, .slice A j cp]) ∧ Hid (wr.ownsRow N3 34 3 (.slice A j cp) j (((xs.take j).map strS).flatMap tcells)) ∧ Hid (Row wr w.heap.size [.int .i64 0, .slice none 0 0]) ∧ Hid (Rd wr (some ⟨b, o2, none⟩) (xs.map Value.string)) ∧ Hid (Below w.heap.size w wr) ∧ Hid (N3 ≤ wr.heap.size))
            case atStart => exact ⟨0, none, 0, rfl, by omega, hide (by omega), HT, hide (World.ownsRow_nil _ _ _ _), HF2, HRW, HB2, HZ0⟩
            case round =>
              obtain ⟨j, A, cp, rfl, hj, HGH, HGB, HO, HFB, HRR, HB, HZ⟩ := hrel
              by_cases hlt : j < k
              · obtain ⟨v, hv⟩ : ∃ v, xs[j]? = some v := ⟨_, List.getElem?_eq_getElem (by rw [← Hk.out]; exact hlt)⟩
                have HMT := hide (map_take_succ strS hv)
                obtain ⟨b', off', e1, hbs', c0⟩ := HRR.out.get1 (k := j) (u := .string v) (by rw [List.getElem?_map, hv]; rfl)
                injection e1 with e1; injection e1 with e2 e3; subst e2; subst e3
                have P1 := hide (fun W => toStreetOf_any v W (QW.out v (List.mem_of_getElem? hv)))
                generalize strS v = y at *
                obtain ⟨y0, y1, y2⟩ := y
                dsimp only at P1
                have a1 := HGB.out.at 1 rfl
                have z1 := HGB.out.1
                clear hv
                go_wp2_with fail
                refine wpAnyX_start (fun w' => ∃ n : Later wr, w' = n.w) [5, 7] (n := 8) (by kernel_rfl) rfl rfl ?_
                refine wpAnyX_take [0, 1, 2] 5 rfl (by kernel_rfl) (by intro c a d v w h; cases d <;> exact h) (by kernel_rfl) (by kernel_rfl) (by kernel_rfl) (by simp; rfl) rfl (later_drew _) ?_
                repeat (go_big_quiet_step (fail))
                refine wpQuiet_nil ?_
                clear a1 c0
                have HX : Hid (Below wr.heap.size wr wr.drew) := hide (Below.refl _ _).drew
                generalize wr.drew = V0 at *
                refine wpAnyX_only 3 (by kernel_rfl) (by simp; rfl) rfl rfl (fun K hK => ?_)
                go_wp2_with fail
                refine (P1.out _).mono ?_
                rintro e V1 ⟨rfl, hb⟩
                replace HX := hide (below_step HX.out hb)
                clear hb P1
                go_wp2_with fail
                refine ⟨later_of HX.out, ?_⟩
                refine wpAnyX_only 4 (by kernel_rfl) (by simp; rfl) rfl rfl (fun K hK => ?_)
                go_wp2_with fail
                have HS := hide (Row.new V1 #[.int .i64 y0, .int .i64 y1, .int .i64 y2] 34)
                replace HX := hide (below_alloc HX.out (.cells #[.int .i64 y0, .int .i64 y1, .int .i64 y2] 34))
                refine ⟨later_of HX.out, ?_⟩
                generalize V1.alloc (.cells #[.int .i64 y0, .int .i64 y1, .int .i64 y2] 34) = V5 at *
                generalize V1.heap.size = sb at *
                have HGA := hide (HGB.out.below HX.out)
                have HFA := hide (HFB.out.below HX.out)
                have HRA := hide (HRR.out.below HX.out)
                have HOA := hide (own_below HO.out HX.out)
                have HBA := hide (below_step HB.out HX.out)
                have HSZ := hide (Nat.le_trans HZ.out HX.out.size)
                clear HGB HFB HRR HO HB HX HZ
                refine wpAnyX_last 5 (by kernel_rfl) (by simp; rfl) rfl rfl (by kernel_rfl) (fun K hK => ?_)
                have hml : maxLen = 9223372036854775807 := rfl
                refine wp_append_lies _ (.tmp 45) (.tmp 48) 22 rfl N3 34 i0 _ 3 24 Tryd.underlying22 Hi.out Hz.out.1 Hz.out.2.1 Hz.out.2.2 rfl (by decide) (.slice A j cp) j (((xs.take j).map strS).flatMap tcells) rfl HOA.out ⟨sb, 0, none⟩ 1 1 (tcells (y0, y1, y2)) rfl rfl (fun q u hu => by rw [Addr.add_lit, Nat.zero_add]; exact HS.out.2.1 q u hu) (fun u hu => by simp [tcells] at hu; rcases hu with rfl | rfl | rfl <;> rfl) (by omega) (by omega) (by omega) HSZ.out V5.heap.size rfl (fun g' cap' w6 hown hgrow _ hlt' => ?_)
                have HO6 : Hid (w6.ownsRow N3 34 3 (.slice (some ⟨g', 0, none⟩) (j + 1) cap') (j + 1) (((xs.take (j + 1)).map strS).flatMap tcells)) := hide (by rw [HMT.out, List.flatMap_append]; simpa using hown)
                have HNB := hide (fun q hq => (HOA.out.lt q hq).1)
                have HG6 := hide (HGA.out.grown hgrow (fun e => by have h1 := HNB.out _ e.symm; have h2 := HN3.out; omega))
                have HF6 := hide (HFA.out.grown hgrow (fun e => by have h1 := HNB.out _ e.symm; have h2 := HN3.out; have h3 := HFT.out; omega))
                have HR6 := hide (HRA.out.grown hgrow (fun b off sp e e2 => by injection e with e; injection e with e3 e4 e5; subst e3; have h1 := HNB.out _ e2.symm; have h2 := HN3.out; have h3 := HLT.out; omega))
                have HB6 := hide (HBA.out.grown hgrow HBA.out.size (fun q hq => by have h1 := HNB.out _ hq; have h2 := HB0.out; omega))
                have HZ6 := hide (Nat.le_trans HSZ.out hgrow.size)
                have hg6 := (HO6.out.lt g' rfl).1
                clear hml HS hown hgrow hlt' HOA HGA HFA HRA HBA HSZ
                refine hK _ _ ?_
                simp only [Act.put, List.setIfInBounds_toArray, List.set_cons_succ, List.set_cons_zero]
                refine wpAnyX_last 6 (by kernel_rfl) (by simp; rfl) rfl rfl (by kernel_rfl) (fun K hK => ?_)
                go_wp2_with fail
                refine wpAnyX_last 7 (by kernel_rfl) (by simp; rfl) rfl rfl (by kernel_rfl) (fun K hK => ?_)
                have a1 := HG6.out.at 1 rfl
                have f1 := HG6.out.free 1
                have z1 := HG6.out.1
                go_wp2_with fail
                refine wpAnyX_done (by kernel_rfl) ?_ _
                go_wp2
                go_roundg (gk - 1)
                case rel =>
                  refine ⟨j + 1, _, cap', by go_num, by omega, hide (by have := HGH.out; omega), hide ((HG6.out.set (by simp) _).cast rfl), hide (own_kept HO6.out (grown_set (g := tb) _ rfl) (fun q hq e => by injection e with e; have h1 := (HO6.out.lt q hq).1; have h2 := HN3.out; omega)), hide (HF6.out.grown (grown_set (g := tb) _ rfl) (fun e => by injection e with e; have h2 := HFT.out; omega)), hide (HR6.out.grown (grown_set (g := tb) _ rfl) (fun b off sp e e2 => by injection e with e; injection e with e3 e4 e5; injection e2 with e2; subst e3; have h2 := HLT.out; omega)), hide (HB6.out.setCell (by have h2 := HFT.out; simp; omega) _), hide (by have := HZ6.out; simpa using this)⟩
                case measure => have := HGH.out; omega
              · obtain rfl : j = k := by omega
                have HTK := hide (show (xs.take j).map strS = xs.map strS by rw [List.take_of_length_le (by have := Hk.out; omega)])
                rw [HTK.out] at HO
                have HLen := hide (show j = (xs.map strS).length by rw [List.length_map]; exact Hk.out)
                have HFL := hide (show o = if (townB nd (xs.map strS) && decide (ttN nd.toNat (xs.map strS) j = s)) then some (nd, xs.map strS) else none by rw [HV.out, ← HLen.out])
                generalize hT : xs.map strS = T at *
                clear hT HTK HV
                have QT := hide (fun W (h : Below wr.heap.size wr W) => toGood_any nd A j cp T W HLen.out (by unfold maxLen; omega) ((own_rd HO.out).below h))
                have d0 := HGB.out.at 0 rfl
                have d1 := HGB.out.at 1 rfl
                have z1 := HGB.out.1
                cases hb : townB nd T with
                | false =>
                  have HN := hide (show o = none by rw [HFL.out, hb]; rfl)
                  rw [hb] at QT
                  clear hb
                  go_wp2_with fail
                  refine (QT.out _ (Below.refl _ _)).mono ?_
                  rintro e w4 ⟨rfl, hq⟩
                  have HB4 := hide (below_step HB.out hq)
                  have HF4 := hide (HFB.out.below hq)
                  clear hq QT d0 d1 z1
                  have e0 := HF4.out.at 0 rfl
                  have e1 := HF4.out.at 1 rfl
                  have f0 := HF4.out.free 0
                  have f1 := HF4.out.free 1
                  go_wp2
                  exact bodyPost_ret (v := .tuple #[.agg #[.int .i64 0, .slice none 0 0], .bool false]) (by simp [results, Tryd.results4, go_sem, *]) rfl (TownOut.no HN.out ((HB4.out.setCell (by simp) _).setCell (by simp) _))
                | true =>
                  obtain ⟨kk, rfl, hK⟩ := townB_ok hb
                  rw [hb] at QT HFL
                  rw [Int.toNat_natCast] at HFL
                  have HKK := hide hK
                  have QX := hide (fun W (h : Below wr.heap.size wr W) => toText_any kk j cp A T W HLen.out HKK.out ((own_rd HO.out).below h))
                  generalize ttN kk T j = tx at *
                  clear hb hK
                  go_wp2_with fail
                  refine (QT.out _ (Below.refl _ _)).mono ?_
                  rintro e w4 ⟨rfl, hq⟩
                  have HX := hide hq
                  have HG4 := hide (HGB.out.below hq)
                  clear hq QT d0 d1 z1
                  have d0 := HG4.out.at 0 rfl
                  have d1 := HG4.out.at 1 rfl
                  have z1 := HG4.out.1
                  go_wp2_with fail
                  refine (QX.out _ HX.out).mono ?_
                  rintro e w5 ⟨rfl, hq⟩
                  have HB5 := hide (below_step HB.out (below_step HX.out hq))
                  have HF5 := hide (HFB.out.below (below_step HX.out hq))
                  have HG5 := hide (HG4.out.below hq)
                  have HO5 := hide (own_below HO.out (below_step HX.out hq))
                  clear hq QX d0 d1 z1 HX HB HFB HGB HO HG4
                  have e0 := HF5.out.at 0 rfl
                  have e1 := HF5.out.at 1 rfl
                  have f0 := HF5.out.free 0
                  have f1 := HF5.out.free 1
                  have d0 := HG5.out.at 0 rfl
                  have d1 := HG5.out.at 1 rfl
                  by_cases hx : tx = s
                  · subst hx
                    have HS := hide (show o = some ((kk : Int), T) by rw [HFL.out]; simp)
                    have HOE := hide (own_le (B' := w.heap.size) HO5.out HB0.out)
                    have HOL := hide (fun q hq => (HO5.out.lt q hq).1)
                    have HKP : Hid (∀ (W : World) (o : Nat) (u : Value), W.ownsRow w.heap.size 34 3 (.slice A j cp) j (T.flatMap tcells) → (W.setCell ⟨w.heap.size, o, none⟩ u).ownsRow w.heap.size 34 3 (.slice A j cp) j (T.flatMap tcells)) := hide (fun W o u h => own_kept h (grown_set (g := w.heap.size) u rfl) (fun q hq e => by injection e with e; have h1 := HOL.out q hq; have h2 := HN3.out; have h3 := HFT.out; omega))
                    clear HOL
                    go_wp2
                    exact bodyPost_ret (v := .tuple #[.agg #[.int .i64 (kk : Int), .slice A j cp], .bool true]) (by simp [results, Tryd.results4, go_sem, *]) rfl (TownOut.yes HS.out (by rw [← HLen.out]; exact HKP.out _ _ _ (HKP.out _ _ _ HOE.out)) ((HB5.out.setCell (by simp) _).setCell (by simp) _))
                  · have HN := hide (show o = none by rw [HFL.out]; simp [hx])
                    have hne := texts_ne hx
                    clear hx
                    go_wp2
                    exact bodyPost_ret (v := .tuple #[.agg #[.int .i64 0, .slice none 0 0], .bool false]) (by simp [results, Tryd.results4, go_sem, *]) rfl (TownOut.no HN.out ((HB5.out.setCell (by simp) _).setCell (by simp) _))
end Go.Proofs.YtnbiknaihogknaaDoor

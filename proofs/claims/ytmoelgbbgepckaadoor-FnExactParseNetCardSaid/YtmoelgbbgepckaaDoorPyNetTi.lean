/- A net's text: the program's way. -/
import Derived.Test.YtmoelgbbgepckaaDoorPyNetTs
import Derived.Test.YtmoelgbbgepckaaDoorNetB
import Derived.Test.YtmoelgbbgepckaaDoorPyB
import Derived.Test.YtmoelgbbgepckaaDoorRegX
import Derived.Test.YtmoelgbbgepckaaDoorRowsX
import Derived.Deep.AppendLies
namespace Go.Proofs.YtmoelgbbgepckaaDoor
open Go.RowKit
set_option linter.unusedVariables false

theorem itoaI_any (p : Int) (h0 : -1000000 < p) (h1 : p < 10000000) (w : World) (ht : Tab w) :
    Calls Tryd.prog 115 #[.int .i64 p] w fun e w' => e = .returned (.string (itx p)) ∧ Below w.heap.size w w' :=
  (Tryd.strconv_Itoa p (by omega) (by omega) w ht).mono fun e w' ⟨he, k, os, hw⟩ => ⟨by rw [he]; rfl, by rw [hw]; exact below_grow w k os⟩
theorem map_take_succ {α β : Type} (f : α → β) {l : List α} {k : Nat} {a : α} (h : l[k]? = some a) : (l.take (k + 1)).map f = (l.take k).map f ++ [f a] := by
  rw [List.take_add_one, h, List.map_append]; rfl
theorem nx_len {M H : List (Int × Int)} (hk : NetOk M H) : (Lib.join ((nxW M H).map (·.data.toList)) [32]).length ≤ 140737488355328 := by
  have h1 := nxT_size hk
  rw [← nx_join] at h1
  have h2 : (⟨(Lib.join ((nxW M H).map (·.data.toList)) [32]).toArray⟩ : ByteArray).size = (Lib.join ((nxW M H).map (·.data.toList)) [32]).length := rfl
  omega

set_option maxRecDepth 100000 in
set_option maxHeartbeats 8000000 in
theorem netText_any (b0 n c m d : Nat) (A B : Option Addr) (M H : List (Int × Int)) (w : World) (hn : n = M.length) (hm : m = H.length) (hk : NetOk M H) (hr : NetRd w A B M H) (hc0 : w.cell? ⟨b0, 0, none⟩ = some (.slice A n c)) (hc1 : w.cell? ⟨b0, 1, none⟩ = some (.slice B m d)) (ht : Tab w) :
    Calls Tryd.prog 89 #[.pointer (some ⟨b0, 0, none⟩)] w fun e w' => e = .returned (.string (nxT M H)) ∧ Below w.heap.size w w' := by
  obtain ⟨i0, hi0, hz0, hz1, hz2⟩ := info_parts infoStrV
  have Hi := hide hi0
  have Hz := hide (And.intro hz0 (And.intro hz1 hz2))
  clear hi0 hz0 hz1 hz2
  have Hn := hide hn
  have Hm := hide hm
  have HK := hide hk
  have HR := hide hr.1
  have HS := hide hr.2
  have HT := hide ht
  have HC1 := hide hc1
  have hz := World.block_lt_of_cell? w _ hc0
  dsimp only at hz
  have hn10 : n ≤ 10 := by have := hk.m10; omega
  have hm10 : m ≤ 10 := by have := hk.h10; omega
  clear hn hm hk hr ht hc1
  go_enter Tryd.func89, Tryd.ntmps89
  go_wp2_with fail
  clear hc0
  go_loopg [13, 3] n (fun g t s wr => ∃ (j : Nat) (A2 : Option Addr) (cp : Nat), t = .int .i64 (j : Int) ∧ s = .slice A2 j cp ∧ j ≤ n ∧ Hid (n ≤ g + j) ∧ Hid (wr.ownsRow w.heap.size 9 1 (.slice A2 j cp) j (strV ((M.take j).map nm1))) ∧ Hid (Below w.heap.size w wr))
  case atStart => exact ⟨0, none, 0, rfl, rfl, by omega, hide (by omega), hide (World.ownsRow_nil _ _ _ _), hide (Below.refl _ _)⟩
  case round =>
    obtain ⟨j, A2, cp, rfl, rfl, hj, HG, HO, HW⟩ := hrel
    by_cases hlt : j < n
    · obtain ⟨⟨x0, x1⟩, hx⟩ : ∃ x, M[j]? = some x := ⟨_, List.getElem?_eq_getElem (by rw [← Hn.out]; exact hlt)⟩
      have hf := main_facts HK.out (List.mem_of_getElem? hx)
      dsimp only at hf
      obtain ⟨y1, rfl⟩ := Int.eq_ofNat_of_zero_le (show 0 ≤ x1 by omega)
      have HMT := hide (map_take_succ nm1 hx)
      obtain ⟨bs, os, rfl, zs, t0, t1⟩ := (HR.out.below HW.out).get2 (fun _ => rfl) hx rfl
      dsimp only at t0 t1
      have v0 : -1000000 < x0 := by omega
      have v0' : x0 < 10000000 := by omega
      have v1 : y1 ≤ 9223372036854775807 := by omega
      have s0 := itx_small hf.1 hf.2.1
      have s1 := txt_size y1 (by omega)
      have u4 : (0 : Int) ≤ (j : Int) := by omega
      have u5 : (j : Int) < (n : Int) := by omega
      clear hx hf
      go_wp2_with fail
      have HOA := hide (World.ownsRow.alloc HO.out (.cells #[.int .i64 x0, .int .i64 (y1 : Int)] 120))
      have HWA := hide (below_alloc HW.out (.cells #[.int .i64 x0, .int .i64 (y1 : Int)] 120))
      have HFA := hide (Row.new wr #[.int .i64 x0, .int .i64 (y1 : Int)] 120)
      clear HO HW t0 t1 zs
      generalize wr.alloc (.cells #[.int .i64 x0, .int .i64 (y1 : Int)] 120) = V at *
      generalize wr.heap.size = tb at *
      have t0 := HFA.out.2.1 0 _ rfl
      have t1 := HFA.out.2.1 1 _ rfl
      have zt := HFA.out.1
      refine wpAnyX_start (fun w' => ∃ n : Later V, w' = n.w) [10] (n := 12) (by kernel_rfl) rfl rfl ?_
      refine wpAnyX_take [0, 1, 2, 5, 6] 7 rfl (by kernel_rfl) (by intro c a d v w h; cases d <;> exact h) (by kernel_rfl) (by kernel_rfl) (by kernel_rfl) (by simp; rfl) rfl (later_drew _) ?_
      repeat (go_big_quiet_step (fail))
      refine wpQuiet_nil ?_
      clear t0 t1 zt
      have HX : Hid (Below V.heap.size V V.drew) := hide (Below.refl _ _).drew
      generalize V.drew = V0 at *
      refine wpAnyX_only 3 (by kernel_rfl) (by simp; rfl) rfl rfl (fun K hK => ?_)
      go_wp2_with fail
      refine (itoaI_any x0 v0 v0' _ (tab_below HT.out (below_step HWA.out HX.out))).mono ?_
      rintro e V1 ⟨rfl, hb⟩
      replace HX := hide (below_step HX.out hb)
      clear hb
      go_wp2_with fail
      refine ⟨later_of HX.out, ?_⟩
      refine wpAnyX_take [4] 5 rfl (by kernel_rfl) (by intro c a d v w h; cases d <;> exact h) (by kernel_rfl) (by kernel_rfl) (by kernel_rfl) (by simp; rfl) rfl (later_of HX.out) ?_
      repeat (go_big_quiet_step (fail))
      refine wpQuiet_nil ?_
      refine wpAnyX_only 7 (by kernel_rfl) (by simp; rfl) rfl rfl (fun K hK => ?_)
      go_wp2_with fail
      refine (itoa_any y1 v1 _ (tab_below HT.out (below_step HWA.out HX.out))).mono ?_
      rintro e V2 ⟨rfl, hb⟩
      replace HX := hide (below_step HX.out hb)
      clear hb
      go_wp2_with fail
      refine ⟨later_of HX.out, ?_⟩
      refine wpAnyX_take [8] 3 rfl (by kernel_rfl) (by intro c a d v w h; cases d <;> exact h) (by kernel_rfl) (by kernel_rfl) (by kernel_rfl) (by simp; rfl) rfl (later_of HX.out) ?_
      repeat (go_big_quiet_step (fail))
      refine wpQuiet_nil ?_
      have HSV := hide (show nm1 (x0, (y1 : Int)) = (itx x0 ++ ⟨#[47]⟩) ++ txt y1 from rfl)
      generalize (itx x0 ++ ⟨#[47]⟩) ++ txt y1 = tx at *
      clear s0 s1
      refine wpAnyX_only 9 (by kernel_rfl) (by simp; rfl) rfl rfl (fun K hK => ?_)
      go_wp2_with fail
      have HSB := hide (Row.new V2 #[.string tx] 9)
      replace HX := hide (below_alloc HX.out (.cells #[.string tx] 9))
      refine ⟨later_of HX.out, ?_⟩
      generalize V2.alloc (.cells #[.string tx] 9) = V5 at *
      generalize V2.heap.size = sb at *
      have HO5 := hide (own_below HOA.out HX.out)
      have HW5 := hide (below_step HWA.out HX.out)
      clear HOA HWA HX HFA
      refine wpAnyX_last 10 (by kernel_rfl) (by simp; rfl) rfl rfl (by kernel_rfl) (fun K hK => ?_)
      have hml : maxLen = 9223372036854775807 := rfl
      refine wp_append_lies _ (.tmp 17) (.tmp 26) 69 rfl w.heap.size 9 i0 (.string ByteArray.empty) 1 16 Tryd.underlying69 Hi.out Hz.out.1 Hz.out.2.1 Hz.out.2.2 rfl (by decide) (.slice A2 j cp) j (strV ((M.take j).map nm1)) rfl HO5.out ⟨sb, 0, none⟩ 1 1 [.string tx] rfl rfl (fun q u hu => by rw [Addr.add_lit, Nat.zero_add]; exact HSB.out.2.1 q u hu) (fun u hu => by simp at hu; rw [hu]; rfl) (by omega) (by omega) (by omega) HW5.out.size V5.heap.size rfl (fun g' cap' w6 hown hgrow _ hlt' => ?_)
      have HO6 : Hid (w6.ownsRow w.heap.size 9 1 (.slice (some ⟨g', 0, none⟩) (j + 1) cap') (j + 1) (strV ((M.take (j + 1)).map nm1))) := hide (by rw [HMT.out, HSV.out, strV_append]; exact hown)
      have HB6 := hide (HW5.out.grown hgrow HW5.out.size (fun q hq => (HO5.out.lt q hq).1))
      clear hml HSB hown hgrow hlt' HO5 HW5
      refine hK _ _ ?_
      simp only [Act.put, List.setIfInBounds_toArray, List.set_cons_succ, List.set_cons_zero]
      refine wpAnyX_last 11 (by kernel_rfl) (by simp; rfl) rfl rfl (by kernel_rfl) (fun K hK => ?_)
      go_wp2_with fail
      refine wpAnyX_done (by kernel_rfl) ?_ _
      go_wp2
      go_roundg (gk - 1)
      case rel => exact ⟨j + 1, _, cap', by go_num, rfl, by omega, hide (by have := HG.out; omega), HO6, HB6⟩
      case measure => have := HG.out; omega
    · obtain rfl : j = n := by omega
      have HTK := hide (show (M.take j).map nm1 = M.map nm1 by rw [List.take_of_length_le (by have := Hn.out; omega)])
      rw [HTK.out] at HO
      have a1 := cell_on HC1.out HW.out
      have az : b0 < wr.heap.size := Nat.lt_of_lt_of_le hz HW.out.size
      have HS1 := hide (HS.out.below HW.out)
      have HOA := hide (World.ownsRow.alloc HO.out (.cells #[.string ⟨#[124]⟩] 9))
      have HBA := hide (Row.new wr #[.string ⟨#[124]⟩] 9)
      have HSA := hide (HS1.out.alloc (.cells #[.string ⟨#[124]⟩] 9))
      have HBW := hide (below_alloc HW.out (.cells #[.string ⟨#[124]⟩] 9))
      have a1' := cell_on a1 (below_alloc (Below.refl wr.heap.size wr) (.cells #[.string ⟨#[124]⟩] 9))
      clear HTK a1
      have HA1 := hide a1'
      clear a1'
      have HBZ := hide HBW.out.size
      go_wp2_with (at_builtin; refine wpList_append_any rfl (.tmp 29) (.tmp 30) 69 rfl w.heap.size 9 i0 (.string ByteArray.empty) 1 16 Tryd.underlying69 Hi.out Hz.out.1 Hz.out.2.1 Hz.out.2.2 rfl (by decide) (.slice A2 j cp) j (strV (M.map nm1)) rfl HOA.out (some ⟨wr.heap.size, 0, none⟩) 1 1 [.string ⟨#[124]⟩] rfl rfl (fun e => by cases e) (fun ad e j u hu => by cases e; rw [Addr.add_lit, Nat.zero_add]; exact HBA.out.2.1 j u hu) (fun u hu => by simp at hu; rw [hu]; rfl) (by unfold maxLen; omega) (by omega) HBZ.out ?_)
      intro v6 w6 hown hgrow
      have HNB := hide (fun q hq => (HOA.out.lt q hq).1)
      have HO6 : Hid (w6.ownsRow w.heap.size 9 1 v6 (j + 1) (strV (M.map nm1 ++ [⟨#[124]⟩]))) := hide (by rw [strV_append]; exact hown)
      have HB6 := hide (HBW.out.grown hgrow HBW.out.size (fun q hq => HNB.out q hq))
      have HS6 := hide (HS.out.below HB6.out)
      have a1 := cell_on HC1.out HB6.out
      have az6 : b0 < w6.heap.size := Nat.lt_of_lt_of_le hz HB6.out.size
      clear hown hgrow HOA HBA HSA HBW HA1 az HO HW HS1 HR HNB
      obtain ⟨A6, c6, rfl, -⟩ := own_open HO6.out
      go_wp2_with fail
      clear a1 az6
      generalize hWD : M.map nm1 ++ [⟨#[124]⟩] = WD at *
      have HWD := hide hWD
      clear hWD
      rename World => wo
      go_loopg [37, 3] m (fun g t s wr => ∃ (q : Nat) (A2 : Option Addr) (cp : Nat), t = .int .i64 (q : Int) ∧ s = .slice A2 (j + 1 + q) cp ∧ q ≤ m ∧ Hid (m ≤ g + q) ∧ Hid (wr.ownsRow w.heap.size 9 1 (.slice A2 (j + 1 + q) cp) (j + 1 + q) (strV (WD ++ (H.take q).map nh1))) ∧ Hid (Below w.heap.size w wr))
      case atStart => exact ⟨0, A6, c6, rfl, rfl, by omega, hide (by omega), hide (by simpa using HO6.out), HB6⟩
      case round =>
        obtain ⟨q, A2, cp, rfl, rfl, hq, HG, HO, HW⟩ := hrel
        by_cases hlt : q < m
        · obtain ⟨⟨x0, x1⟩, hx⟩ : ∃ x, H[q]? = some x := ⟨_, List.getElem?_eq_getElem (by rw [← Hm.out]; exact hlt)⟩
          have hf := hyd_facts HK.out (List.mem_of_getElem? hx)
          dsimp only at hf
          obtain ⟨y0, rfl⟩ := Int.eq_ofNat_of_zero_le (show 0 ≤ x0 by omega)
          obtain ⟨y1, rfl⟩ := Int.eq_ofNat_of_zero_le (show 0 ≤ x1 by omega)
          have HMT := hide (map_take_succ nh1 hx)
          obtain ⟨bs, os, rfl, zs, t0, t1⟩ := (HS.out.below HW.out).get2 (fun _ => rfl) hx rfl
          dsimp only at t0 t1
          have v0 : y0 ≤ 9223372036854775807 := by omega
          have v1 : y1 ≤ 9223372036854775807 := by omega
          have s0 := txt_size y0 (by omega)
          have s1 := txt_size y1 (by omega)
          have u4 : (0 : Int) ≤ (q : Int) := by omega
          have u5 : (q : Int) < (m : Int) := by omega
          clear hx hf
          go_wp2_with fail
          have HOA := hide (World.ownsRow.alloc HO.out (.cells #[.int .i64 (y0 : Int), .int .i64 (y1 : Int)] 118))
          have HWA := hide (below_alloc HW.out (.cells #[.int .i64 (y0 : Int), .int .i64 (y1 : Int)] 118))
          have HFA := hide (Row.new wr #[.int .i64 (y0 : Int), .int .i64 (y1 : Int)] 118)
          clear HO HW t0 t1 zs
          generalize wr.alloc (.cells #[.int .i64 (y0 : Int), .int .i64 (y1 : Int)] 118) = V at *
          generalize wr.heap.size = tb at *
          have t0 := HFA.out.2.1 0 _ rfl
          have t1 := HFA.out.2.1 1 _ rfl
          have zt := HFA.out.1
          refine wpAnyX_start (fun w' => ∃ n : Later V, w' = n.w) [10] (n := 12) (by kernel_rfl) rfl rfl ?_
          refine wpAnyX_take [0, 1, 2, 5, 6] 7 rfl (by kernel_rfl) (by intro c a d v w h; cases d <;> exact h) (by kernel_rfl) (by kernel_rfl) (by kernel_rfl) (by simp; rfl) rfl (later_drew _) ?_
          repeat (go_big_quiet_step (fail))
          refine wpQuiet_nil ?_
          clear t0 t1 zt
          have HX : Hid (Below V.heap.size V V.drew) := hide (Below.refl _ _).drew
          generalize V.drew = V0 at *
          refine wpAnyX_only 3 (by kernel_rfl) (by simp; rfl) rfl rfl (fun K hK => ?_)
          go_wp2_with fail
          refine (itoa_any y0 v0 _ (tab_below HT.out (below_step HWA.out HX.out))).mono ?_
          rintro e V1 ⟨rfl, hb⟩
          replace HX := hide (below_step HX.out hb)
          clear hb
          go_wp2_with fail
          refine ⟨later_of HX.out, ?_⟩
          refine wpAnyX_take [4] 5 rfl (by kernel_rfl) (by intro c a d v w h; cases d <;> exact h) (by kernel_rfl) (by kernel_rfl) (by kernel_rfl) (by simp; rfl) rfl (later_of HX.out) ?_
          repeat (go_big_quiet_step (fail))
          refine wpQuiet_nil ?_
          refine wpAnyX_only 7 (by kernel_rfl) (by simp; rfl) rfl rfl (fun K hK => ?_)
          go_wp2_with fail
          refine (itoa_any y1 v1 _ (tab_below HT.out (below_step HWA.out HX.out))).mono ?_
          rintro e V2 ⟨rfl, hb⟩
          replace HX := hide (below_step HX.out hb)
          clear hb
          go_wp2_with fail
          refine ⟨later_of HX.out, ?_⟩
          refine wpAnyX_take [8] 3 rfl (by kernel_rfl) (by intro c a d v w h; cases d <;> exact h) (by kernel_rfl) (by kernel_rfl) (by kernel_rfl) (by simp; rfl) rfl (later_of HX.out) ?_
          repeat (go_big_quiet_step (fail))
          refine wpQuiet_nil ?_
          have HSV := hide (show nh1 ((y0 : Int), (y1 : Int)) = (txt y0 ++ ⟨#[58]⟩) ++ txt y1 from rfl)
          generalize (txt y0 ++ ⟨#[58]⟩) ++ txt y1 = tx at *
          clear s0 s1
          refine wpAnyX_only 9 (by kernel_rfl) (by simp; rfl) rfl rfl (fun K hK => ?_)
          go_wp2_with fail
          have HSB := hide (Row.new V2 #[.string tx] 9)
          replace HX := hide (below_alloc HX.out (.cells #[.string tx] 9))
          refine ⟨later_of HX.out, ?_⟩
          generalize V2.alloc (.cells #[.string tx] 9) = V5 at *
          generalize V2.heap.size = sb at *
          have HO5 := hide (own_below HOA.out HX.out)
          have HW5 := hide (below_step HWA.out HX.out)
          clear HOA HWA HX HFA
          refine wpAnyX_last 10 (by kernel_rfl) (by simp; rfl) rfl rfl (by kernel_rfl) (fun K hK => ?_)
          have hml : maxLen = 9223372036854775807 := rfl
          refine wp_append_lies _ (.tmp 41) (.tmp 50) 69 rfl w.heap.size 9 i0 (.string ByteArray.empty) 1 16 Tryd.underlying69 Hi.out Hz.out.1 Hz.out.2.1 Hz.out.2.2 rfl (by decide) (.slice A2 (j + 1 + q) cp) (j + 1 + q) (strV (WD ++ (H.take q).map nh1)) rfl HO5.out ⟨sb, 0, none⟩ 1 1 [.string tx] rfl rfl (fun k u hu => by rw [Addr.add_lit, Nat.zero_add]; exact HSB.out.2.1 k u hu) (fun u hu => by simp at hu; rw [hu]; rfl) (by omega) (by omega) (by omega) HW5.out.size V5.heap.size rfl (fun g' cap' w6 hown hgrow _ hlt' => ?_)
          have HO6' : Hid (w6.ownsRow w.heap.size 9 1 (.slice (some ⟨g', 0, none⟩) (j + 1 + (q + 1)) cap') (j + 1 + (q + 1)) (strV (WD ++ (H.take (q + 1)).map nh1))) := hide (by rw [HMT.out, HSV.out, ← List.append_assoc, strV_append]; exact hown)
          have HB6' := hide (HW5.out.grown hgrow HW5.out.size (fun q hq => (HO5.out.lt q hq).1))
          clear hml HSB hown hgrow hlt' HO5 HW5
          refine hK _ _ ?_
          simp only [Act.put, List.setIfInBounds_toArray, List.set_cons_succ, List.set_cons_zero]
          refine wpAnyX_last 11 (by kernel_rfl) (by simp; rfl) rfl rfl (by kernel_rfl) (fun K hK => ?_)
          go_wp2_with fail
          refine wpAnyX_done (by kernel_rfl) ?_ _
          go_wp2
          go_roundg (gk - 1)
          case rel => exact ⟨q + 1, _, cap', by go_num, rfl, by omega, hide (by have := HG.out; omega), HO6', HB6'⟩
          case measure => have := HG.out; omega
        · obtain rfl : q = m := by omega
          have HTK := hide (show WD ++ (H.take q).map nh1 = nxW M H by rw [← HWD.out, List.take_of_length_le (by have := Hm.out; omega)]; rfl)
          rw [HTK.out] at HO
          obtain ⟨gj, cj, hv, hg1, hg2, hg3, hg4⟩ := own_some HO.out (by omega)
          injection hv with hv1 hv2 hv3
          subst hv1 hv3
          have HLW := hide (show j + 1 + q = (nxW M H).length by rw [nxW, List.length_append, List.length_append, List.length_map, List.length_map, List.length_singleton, ← Hn.out, ← Hm.out])
          have hrd := own_rd HO.out
          have QJ := hide (Tryd.strings_Join gj 0 cp (nxW M H) ⟨#[32]⟩ wr (fun k x hk => by
            rcases hrd with h | ⟨b', off', e, hc⟩
            · have h0 := strV_at hk
              rw [h] at h0
              cases h0
            · injection e with e
              injection e with e1 e2
              subst e1 e2
              exact hc k _ (strV_at hk)) hg2 (by rw [← HLW.out]; omega) (by rw [← HLW.out]; exact hg3) (nx_len HK.out))
          have HNX := hide (nx_join M H)
          rw [← HLW.out] at QJ
          rw [show (⟨#[32]⟩ : ByteArray).data.toList = [32] from rfl, HNX.out] at QJ
          clear hrd
          go_wp2_with fail
          refine QJ.out.mono ?_
          rintro e w7 ⟨rfl, hq7⟩
          have HEND := hide (below_step HW.out hq7)
          clear hq7 QJ
          go_wp2
          go_ret
          exact ⟨rfl, HEND.out⟩
end Go.Proofs.YtmoelgbbgepckaaDoor

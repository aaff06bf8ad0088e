/- slices.Insert of one street into a row of the call's own. -/
import Derived.Test.YtbhnaakknfienaaGreatDoorInsXT
namespace Go.Proofs.YtbhnaakknfienaaGreatDoor
open Go.RowKit
set_option linter.unusedVariables false

theorem tcells_ones (l : List StT) : ∀ u ∈ l.flatMap tcells, u.oneCell' = true := by
  intro u hu
  obtain ⟨t, _, ht⟩ := List.mem_flatMap.1 hu
  simp [tcells] at ht
  rcases ht with rfl | rfl | rfl <;> rfl

theorem grown_own {w w1 w2 : World} {row r2 : Option Nat} (h : w.grownBy w1 row) (k : w1.grownBy w2 r2) (hr : ∀ j, r2 = some j → w.heap.size ≤ j) : w.grownBy w2 row :=
  ⟨k.os.trans h.os, k.tape.trans h.tape, k.output.trans h.output, Nat.le_trans h.size k.size, fun i hi hne => (k.block i (Nat.lt_of_lt_of_le hi h.size) (fun e => by have := hr i e.symm; omega)).trans (h.block i hi hne)⟩
theorem info_size {T : TypeId} {i0 : TypeInfo} {sz : Nat} (hi : Tryz.prog.info? T = some i0) (h : i0.size = sz) : (Tryz.prog.info? T).map (·.size) = some sz := by rw [hi]; simp [h]
theorem info_sizeOf {T : TypeId} {i0 : TypeInfo} {sz : Nat} (hi : Tryz.prog.info? T = some i0) (h : i0.size = sz) : ∀ w, (Go.sizeOf T).run Tryz.prog w = .ok sz w := fun w => by simp [sizeOf, typeInfo, hi, h]
theorem splice_two {α : Type} (xs sp ys : List α) (a m : Nat) (ha : a ≤ xs.length) (hy : ys.length = m) (hs : m ≤ sp.length) :
    (splice (splice (xs ++ sp) (a + m) (xs.drop a)) a ys).take (xs.length + m) = xs.take a ++ ys ++ xs.drop a := by
  have h1 : splice (xs ++ sp) (a + m) (xs.drop a) = (xs ++ sp).take (a + m) ++ xs.drop a ++ sp.drop m := by
    unfold splice
    rw [List.append_assoc, List.length_drop, show a + m + (xs.length - a) = xs.length + m by omega]
    congr 2
    rw [List.drop_append]
    simp
  rw [h1]
  have hl : ((xs ++ sp).take (a + m)).length = a + m := by rw [List.length_take, List.length_append]; omega
  unfold splice
  rw [hy]
  have h2 : (((xs ++ sp).take (a + m) ++ xs.drop a ++ sp.drop m)).take a = xs.take a := by
    rw [List.append_assoc, List.take_append_of_le_length (by omega), List.take_take, Nat.min_eq_left (by omega), List.take_append_of_le_length ha]
  have h3 : (((xs ++ sp).take (a + m) ++ xs.drop a ++ sp.drop m)).drop (a + m) = xs.drop a ++ sp.drop m := by
    rw [List.append_assoc, List.drop_append_of_le_length (by omega), List.drop_of_length_le (by omega), List.nil_append]
  rw [h2, h3]
  have h4 : (xs.take a).length = a := by rw [List.length_take]; omega
  rw [← List.append_assoc, ← List.append_assoc, List.take_append_of_le_length (by simp; omega), List.take_of_length_le (by simp; omega)]

theorem splice_grow {α : Type} (xs C ys : List α) (a m : Nat) (ha : a ≤ xs.length) (hy : ys.length = m) (hC : C.take a = xs.take a) (hl : a + m ≤ C.length) :
    (splice (splice C a ys) (a + m) (xs.drop a)).take (xs.length + m) = xs.take a ++ ys ++ xs.drop a := by
  have h4 : (xs.take a).length = a := by rw [List.length_take]; omega
  have h1 : (splice C a ys).take (a + m) = xs.take a ++ ys := by
    unfold splice
    rw [hC, ← List.append_assoc, List.take_append_of_le_length (by rw [List.length_append, h4, hy]; omega), List.take_of_length_le (by rw [List.length_append, h4, hy]; omega)]
  unfold splice at h1 ⊢
  rw [h1, ← List.append_assoc, List.take_append_of_le_length (by simp; omega), List.take_of_length_le (by simp; omega)]
theorem src_drop {α : Type} {xs sp : List α} {a j : Nat} {v : α} (h : (xs.drop a)[j]? = some v) : (xs ++ sp)[a + j]? = some v := by
  rw [List.getElem?_drop] at h
  rw [List.getElem?_append_left (List.getElem?_eq_some_iff.1 h).1]
  exact h

set_option maxRecDepth 100000 in
set_option maxHeartbeats 8000000 in
theorem insStreet_any (B : Nat) (v : Value) (n k : Nat) (l : List StT) (x0 x1 x2 : Int) (vb : Nat) (w : World) (ho : w.ownsRow B 39 3 v n (l.flatMap tcells)) (hn : n = l.length) (hk : k ≤ n) (hm : n ≤ 1000)
    (hx : w.heap[vb]? = some (.cells #[.int .i64 x0, .int .i64 x1, .int .i64 x2] 39 (0, 0))) (hne : v.ownBlock ≠ some vb) (hB : B ≤ w.heap.size) :
    Calls Tryz.prog 48 #[v, .int .i64 (k : Int), .slice (some ⟨vb, 0, none⟩) 1 1] w fun e w' => (∃ v', e = .returned v' ∧ w'.ownsRow B 39 3 v' (n + 1) ((l.take k ++ [(x0, x1, x2)] ++ l.drop k).flatMap tcells)) ∧ w.grownBy w' v.ownBlock := by
  obtain ⟨i0, hi0, hz0, hz1, hz2⟩ := info_parts infoStreet
  have Hi := hide hi0
  have Hz := hide (And.intro hz0 (And.intro hz1 hz2))
  have HSZ := hide (info_size hi0 hz1)
  have Hn := hide hn
  have HO := hide ho
  have HX := hide hx
  have HXC := hide (show ∀ j u, (tcells (x0, x1, x2))[j]? = some u → w.cell? ((⟨vb, 0, none⟩ : Addr).add j) = some u from fun j u hu => by
    rw [Addr.add_lit, Nat.zero_add, heap_cell hx]
    simpa [tcells] using hu)
  have HXO : Hid (∀ u ∈ tcells (x0, x1, x2), u.oneCell' = true) := hide (fun u hu => tcells_one [(x0, x1, x2)] u (by simpa using hu))
  clear hi0 hz0 hz1 hz2 hn ho hx
  by_cases hkn : k = n
  · obtain ⟨A, c, rfl, -⟩ := own_open HO.out
    subst hkn
    have HTD := hide (show l.take k ++ [(x0, x1, x2)] ++ l.drop k = l ++ [(x0, x1, x2)] by rw [List.take_of_length_le (by have := Hn.out; omega), List.drop_of_length_le (by have := Hn.out; omega)]; simp)
    go_enter Tryz.func48, Tryz.ntmps48
    go_wp2_with (at_builtin; refine wpList_append_any rfl (.tmp 23) (.tmp 24) 24 rfl B 39 i0 _ 3 24 Tryz.underlying24 Hi.out Hz.out.1 Hz.out.2.1 Hz.out.2.2 rfl (by decide) (.slice A k c) k (l.flatMap tcells) rfl HO.out (some ⟨vb, 0, none⟩) 1 1 (tcells (x0, x1, x2)) rfl rfl (fun e => by cases e) (fun ad e j u hu => by cases e; exact HXC.out j u hu) HXO.out (by unfold maxLen; omega) (by omega) hB ?_)
    all_goals
      intro v' w' hown hgrow
      have HOW := hide hown
      have HGW : Hid (w.grownBy w' (A.map (·.block))) := hide (by cases A <;> simpa [Value.ownBlock] using hgrow)
      clear hown hgrow
      go_wp2
      go_ret
      exact ⟨⟨_, rfl, by rw [HTD.out, List.flatMap_append]; simpa using HOW.out⟩, by cases A <;> simpa [Value.ownBlock] using HGW.out⟩
  · have hlt : k < n := by omega
    rcases HO.out.2 with ⟨-, h0⟩ | ⟨g, cap, cur, rfl, hBg, hg, hnc, hcm, hcs, htk⟩
    · omega
    · have hxl : (l.flatMap tcells).length = n * 3 := HO.out.1
      obtain ⟨sp, hsp, hspl⟩ : ∃ sp, cur.toList = l.flatMap tcells ++ sp ∧ sp.length = (cap - n) * 3 := ⟨cur.toList.drop (n * 3), by rw [← htk, List.take_append_drop], by rw [List.length_drop, Array.length_toList, hcs, Nat.sub_mul]⟩
      have hcur : cur = (l.flatMap tcells ++ sp).toArray := by rw [← hsp]
      subst hcur
      have HG := hide hg
      have HXL := hide hxl
      have HSPL := hide hspl
      have HGB := hide hBg
      have HNE := hide (show g ≠ vb from fun e => hne (by rw [e]; rfl))
      have hkm : k * 3 + 3 ≤ n * 3 := by have : (k + 1) * 3 ≤ n * 3 := Nat.mul_le_mul_right _ hlt; omega
      have HKM := hide hkm
      have HMAX := hide hcm
      unfold maxLen at hcm
      clear hg hxl hsp hspl htk hcs hBg hne hkm
      have hz1 : ¬ ((k : Int) = (n : Int)) := by omega
      have hb1 : (0 : Int) ≤ (k : Int) + 1 := by omega
      have htn : ((k : Int) + 1).toNat = k + 1 := by omega
      have HDL := hide (show ((l.drop k).flatMap tcells).length = (n - k) * 3 by rw [flat_length tcells 3 (fun _ => rfl), List.length_drop]; have := Hn.out; omega)
      have HDE := hide (show (l.flatMap tcells).drop (k * 3) = (l.drop k).flatMap tcells from flat_drop tcells 3 (fun _ => rfl) l k)
      have HTE := hide (show (l.flatMap tcells).take (k * 3) = (l.take k).flatMap tcells from flat_take tcells 3 (fun _ => rfl) l k)
      have HOC := hide (tcells_ones (l.drop k))
      by_cases hroom : n + 1 ≤ cap
      · have hz3 : ¬ ((cap : Int) < (n : Int) + 1) := by omega
        have hb2 : ¬ (cap = k + 1) := by omega
        have hb4 : ¬ (cap = k) := by omega
        have hb3 : (k : Int) ≤ (n : Int) + 1 := by omega
        have hov : ∀ lb cb, (callFunc 81 #[.slice (some ⟨vb, 0, none⟩) 1 1, .slice (some ⟨g, (k + 1) * 3, none⟩) lb cb]).run Tryz.prog w = .ok (.value (.bool false)) w := fun lb cb => by
          rw [run_callFunc_extern Tryz.func81 (by kernel_rfl) (by kernel_rfl) (by kernel_rfl) (e := Extern.SlicesOverlaps.overlaps #[24, 24] #[4]) (by kernel_rfl),
            Lib.run_overlaps_apart w 24 4 39 Tryz.underlying24 3 (info_sizeOf Hi.out Hz.out.2.1) ⟨vb, 0, none⟩ ⟨g, (k + 1) * 3, none⟩ 1 1 lb cb (fun e => HNE.out e.symm) 39 39 3 ((l.flatMap tcells ++ sp).toArray.size) (by unfold World.shape?; rw [HX.out]; rfl) (by unfold World.shape?; rw [HG.out]) (fun e => by have h1 := HXL.out; rw [List.size_toArray, List.length_append] at e; omega) (by simp [World.frozen?, HX.out]) (by simp [World.frozen?, HX.out])]
          rfl
        go_enter Tryz.func48, Tryz.ntmps48
        go_wp2_with (simp only [hov])
        refine wpAnyS_start (fun _ => True) (n := 9) (by kernel_rfl) rfl rfl ?_
        refine wpAnyS_take_all [0, 1, 2, 3, 4, 5, 6, 7] 1 rfl (by kernel_rfl) (by intro c a d v w h; cases d <;> exact h) (by kernel_rfl) (by simp; rfl) rfl trivial ?_
        repeat (go_big_quiet_step (fail))
        refine wpQuiet_nil ?_
        refine wpAnyS_only 8 (by kernel_rfl) (by simp; rfl) rfl rfl (fun K hK => ?_)
        have HSL := hide (show (l.flatMap tcells ++ sp).length = cap * 3 by rw [List.length_append, HXL.out, HSPL.out, ← Nat.add_mul]; congr 1; omega)
        have HCL := hide (show ((l.flatMap tcells).drop (k * 3)).length = (n - k) * 3 by rw [HDE.out]; exact HDL.out)
        refine wp_copy_rows (.tmp 73) (.tmp 76) 24 24 rfl 39 Tryz.underlying24 3 HSZ.out _ _ _ _ g ((k + 1) * 3) ⟨g, k * 3, none⟩ rfl rfl (l.flatMap tcells ++ sp) 39 HG.out (n - k) (by simp only [Nat.min_def]; split <;> omega) ((l.flatMap tcells).drop (k * 3)) HCL.out (fun j u hu => by rw [Addr.add_lit, show w.drew.cell? ⟨g, k * 3 + j, none⟩ = w.cell? ⟨g, k * 3 + j, none⟩ from rfl, heap_cell HG.out]; simpa using src_drop (sp := sp) hu) (by rw [HCL.out, HSL.out]; have : (k + 1 + (n - k)) * 3 ≤ cap * 3 := Nat.mul_le_mul_right _ (by omega); rw [Nat.add_mul] at this; exact this) (by rw [HDE.out]; exact HOC.out) (fun w1 hg1 hgr1 => ?_)
        have HG1 := hg1
        have HGR1 := hide (show w.grownBy w1 (some g) from grown_trans (grown_of_below (Below.refl _ w).drew _) hgr1)
        have HX1 := hide (heap_grown HX.out HGR1.out (fun e => by injection e with e; exact HNE.out e.symm))
        have HXC1 := hide (show ∀ j u, (tcells (x0, x1, x2))[j]? = some u → w1.cell? ((⟨vb, 0, none⟩ : Addr).add j) = some u from fun j u hu => by
          rw [Addr.add_lit, Nat.zero_add, heap_cell HX1.out]
          simpa [tcells] using hu)
        clear hg1 hgr1
        have HSL1 := hide (show (splice (l.flatMap tcells ++ sp) ((k + 1) * 3) ((l.flatMap tcells).drop (k * 3))).length = cap * 3 by rw [length_splice _ _ _ (by rw [HCL.out, HSL.out]; have : (k + 1 + (n - k)) * 3 ≤ cap * 3 := Nat.mul_le_mul_right _ (by omega); rw [Nat.add_mul] at this; exact this)]; exact HSL.out)
        have HTK := hide (splice_two (l.flatMap tcells) sp (tcells (x0, x1, x2)) (k * 3) 3 (by have := HXL.out; have := HKM.out; omega) rfl (by have := HSPL.out; have : 1 * 3 ≤ (cap - n) * 3 := Nat.mul_le_mul_right _ (by omega); omega))
        rw [show k * 3 + 3 = (k + 1) * 3 by omega] at HTK
        refine hK _ _ ⟨trivial, ?_⟩
        simp only [Act.put, List.setIfInBounds_toArray, List.set_cons_succ, List.set_cons_zero]
        refine wpAnyH_done (by kernel_rfl) ?_ _
        generalize splice (l.flatMap tcells ++ sp) ((k + 1) * 3) ((l.flatMap tcells).drop (k * 3)) = S1 at *
        obtain ⟨w2, hrun2, hg2, hgr2⟩ := copy_runs w1 24 24 39 Tryz.underlying24 3 HSZ.out (n + 1 - k) 1 g (k * 3) ⟨vb, 0, none⟩ S1 39 HG1.out 1 (by simp only [Nat.min_def]; split <;> omega) (tcells (x0, x1, x2)) rfl HXC1.out (by rw [HSL1.out]; have := HKM.out; have : n * 3 ≤ cap * 3 := Nat.mul_le_mul_right _ hnc; show k * 3 + 3 ≤ cap * 3; omega) HXO.out
        have HG2 := hide hg2
        clear hg2
        have HGR2 := hide (grown_trans HGR1.out hgr2)
        clear hgr2
        have HSL2 := hide (show (splice S1 (k * 3) (tcells (x0, x1, x2))).length = cap * 3 by rw [length_splice _ _ _ (by rw [HSL1.out]; have := HKM.out; have : n * 3 ≤ cap * 3 := Nat.mul_le_mul_right _ hnc; show k * 3 + 3 ≤ cap * 3; omega)]; exact HSL1.out)
        generalize splice S1 (k * 3) (tcells (x0, x1, x2)) = S2 at *
        go_wp2
        go_ret
        refine ⟨⟨_, rfl, ?_, .inr ⟨g, cap, _, rfl, HGB.out, HG2.out, hroom, HMAX.out, by rw [List.size_toArray]; exact HSL2.out, ?_⟩⟩, HGR2.out⟩
        · rw [flat_length tcells 3 (fun _ => rfl)]
          simp
          have := Hn.out
          omega
        · have h1 := HTK.out
          rw [HXL.out, HTE.out, HDE.out, show n * 3 + 3 = (n + 1) * 3 by omega] at h1
          rw [List.flatMap_append, List.flatMap_append]
          simpa using h1
      · have hz3 : (cap : Int) < (n : Int) + 1 := by omega
        have hcn : ((n : Int) + 1 - (k : Int)) = ((n + 1 - k : Nat) : Int) := by omega
        have hb5 : ¬ ((n : Int) + 1 - (k : Int) < 0) := by omega
        have hb6 : ¬ (cap = k) := by omega
        have hkq : k + (n + 1 - k) = n + 1 := by omega
        obtain ⟨w1, G, C1, hrunA, hgA, hG0, hG1, hCL, hCT, hbA, hltA⟩ := append_zeros_runs w 24 3 39 i0 _ Tryz.underlying24 Tryz.underlying3 Hi.out Hz.out.1 3 24 Hz.out.2.1 Hz.out.2.2 rfl (by decide) ⟨g, 0, none⟩ k (n + 1 - k) cap ((l.flatMap tcells).take (k * 3)) (by rw [List.length_take]; have := HXL.out; have := HKM.out; omega) (fun j u hu => by
          rw [Addr.add_lit, Nat.zero_add, heap_cell HG.out]
          rw [List.getElem?_take] at hu
          split at hu
          · have := (List.getElem?_eq_some_iff.1 hu).1
            simpa [List.getElem?_append_left this] using hu
          · cases hu) (by omega) (by omega) (by omega) (by omega)
        rw [hkq] at hrunA hG0
        have hGk : ¬ (G = k) := by omega
        have hGk1 : ¬ (G = k + 1) := by omega
        have HGA := hide hgA
        have HGM := hide hG1
        have HCL := hide hCL
        have HCT := hide hCT
        have HBA := hide hbA
        have HLA := hide hltA
        unfold maxLen at hG1
        have HC1E := hide (show C1.length = G * 3 from hCL)
        have HX1 := hide ((hbA.block vb (Array.getElem?_eq_some_iff.1 HX.out).1).trans HX.out)
        have HG1 := hide ((hbA.block g (Array.getElem?_eq_some_iff.1 HG.out).1).trans HG.out)
        have HGW := hide (show g < w.heap.size from (Array.getElem?_eq_some_iff.1 HG.out).1)
        have HVW := hide (show vb < w.heap.size from (Array.getElem?_eq_some_iff.1 HX.out).1)
        clear hgA hCL hCT hbA hltA
        have HXC1 := hide (show ∀ j u, (tcells (x0, x1, x2))[j]? = some u → w1.cell? ((⟨vb, 0, none⟩ : Addr).add j) = some u from fun j u hu => by
          rw [Addr.add_lit, Nat.zero_add, heap_cell HX1.out]
          simpa [tcells] using hu)
        have HFT := hide (show k * 3 + 3 ≤ G * 3 ∧ (k + 1) * 3 + (n - k) * 3 ≤ G * 3 from ⟨by have : (k + 1) * 3 ≤ G * 3 := Nat.mul_le_mul_right _ (by omega); omega, by have : (k + 1 + (n - k)) * 3 ≤ G * 3 := Nat.mul_le_mul_right _ (by omega); rw [Nat.add_mul] at this; exact this⟩)
        obtain ⟨w2, hrun2, hg2, hgr2⟩ := copy_runs w1 24 24 39 Tryz.underlying24 3 HSZ.out (n + 1 - k) 1 w.heap.size (k * 3) ⟨vb, 0, none⟩ C1 39 HGA.out 1 (by simp only [Nat.min_def]; split <;> omega) (tcells (x0, x1, x2)) rfl HXC1.out (by rw [HC1E.out]; exact HFT.out.1) HXO.out
        have HG2 := hide hg2
        have HGR2 := hide hgr2
        have HGG2 := hide (heap_grown HG1.out hgr2 (fun e => by injection e with e; have := HGW.out; omega))
        clear hg2 hgr2
        have HCL2 := hide (show ((l.flatMap tcells).drop (k * 3)).length = (n - k) * 3 by rw [HDE.out]; exact HDL.out)
        have HTK := hide (splice_grow (l.flatMap tcells) C1 (tcells (x0, x1, x2)) (k * 3) 3 (by have := HXL.out; have := HKM.out; omega) rfl HCT.out (by rw [HC1E.out]; exact HFT.out.1))
        have HSL1 := hide (show (splice C1 (k * 3) (tcells (x0, x1, x2))).length = G * 3 by rw [length_splice _ _ _ (by rw [HC1E.out]; exact HFT.out.1)]; exact HC1E.out)
        rw [show k * 3 + 3 = (k + 1) * 3 by omega] at HTK
        generalize splice C1 (k * 3) (tcells (x0, x1, x2)) = S1 at *
        go_enter Tryz.func48, Tryz.ntmps48
        go_wp2_with (at_builtin; refine Lib.wpList_append_run w rfl (.tmp 34) (.tmp 39) 24 3 rfl _ _ rfl rfl _ _ (hrunA _) ?_)
        refine wpAnyS_start (fun _ => True) (n := 9) (by kernel_rfl) rfl rfl ?_
        refine wpAnyS_take_all [0, 1, 2, 3, 4, 5, 6, 7] 1 rfl (by kernel_rfl) (by intro c a d v w h; cases d <;> exact h) (by kernel_rfl) (by simp; rfl) rfl trivial ?_
        repeat (go_big_quiet_step (fail))
        refine wpQuiet_nil ?_
        refine wpAnyS_only 8 (by kernel_rfl) (by simp; rfl) rfl rfl (fun K hK => ?_)
        refine wp_copy_rows (.tmp 50) (.tmp 53) 24 24 rfl 39 Tryz.underlying24 3 HSZ.out _ _ _ _ w.heap.size ((k + 1) * 3) ⟨g, k * 3, none⟩ rfl rfl S1 39 HG2.out (n - k) (by simp only [Nat.min_def]; split <;> omega) ((l.flatMap tcells).drop (k * 3)) HCL2.out (fun j u hu => by rw [Addr.add_lit, show w2.drew.cell? ⟨g, k * 3 + j, none⟩ = w2.cell? ⟨g, k * 3 + j, none⟩ from rfl, heap_cell HGG2.out]; simpa using src_drop (sp := sp) hu) (by rw [HCL2.out, HSL1.out]; exact HFT.out.2) (by rw [HDE.out]; exact HOC.out) (fun w3 hg3 hgr3 => ?_)
        have HG3 := hg3
        have HGR3 : Hid (w.grownBy w3 (some g)) := hide (grown_own (grown_own (grown_of_below HBA.out (some g)) HGR2.out (fun j hj => by injection hj with hj; omega)) (grown_trans (grown_of_below (Below.refl _ w2).drew _) hgr3) (fun j hj => by injection hj with hj; omega))
        clear hg3 hgr3
        have HSL2 := hide (show (splice S1 ((k + 1) * 3) ((l.flatMap tcells).drop (k * 3))).length = G * 3 by rw [length_splice _ _ _ (by rw [HCL2.out, HSL1.out]; exact HFT.out.2)]; exact HSL1.out)
        generalize splice S1 ((k + 1) * 3) ((l.flatMap tcells).drop (k * 3)) = S2 at *
        refine hK _ _ ⟨trivial, ?_⟩
        simp only [Act.put, List.setIfInBounds_toArray, List.set_cons_succ, List.set_cons_zero]
        refine wpAnyH_done (by kernel_rfl) ?_ _
        go_wp2
        go_ret
        refine ⟨⟨_, rfl, ?_, .inr ⟨w.heap.size, G, _, rfl, hB, HG3.out, hG0, HGM.out, by rw [List.size_toArray]; exact HSL2.out, ?_⟩⟩, HGR3.out⟩
        · rw [flat_length tcells 3 (fun _ => rfl)]
          simp
          have := Hn.out
          omega
        · have h1 := HTK.out
          rw [HXL.out, HTE.out, HDE.out, show n * 3 + 3 = (n + 1) * 3 by omega] at h1
          rw [List.flatMap_append, List.flatMap_append]
          simpa using h1
end Go.Proofs.YtbhnaakknfienaaGreatDoor

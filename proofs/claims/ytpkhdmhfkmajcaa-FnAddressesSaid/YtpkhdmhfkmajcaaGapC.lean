/- Gaps between houses: the reference's way. -/
import Derived.Test.YtpkhdmhfkmajcaaGapB
namespace Go.Proofs.Ytpkhdmhfkmajcaa
open Go.RowKit
set_option linter.unusedVariables false

theorem grown_new' {w w1 : World} {row : Option Nat} (h : w.grownBy w1 row) (o : Obj) : w.grownBy (w1.alloc o) row := grown_trans h (grown_of_below ((Below.refl _ _).alloc (Nat.le_refl _) _) _)
theorem grown_getD {w w1 : World} {row : Option Nat} (h : w.grownBy w1 row) (d : Nat) : w.grownBy w1 (some (row.getD d)) := by
  cases row with
  | none => exact grown_any h _
  | some k => exact h

set_option maxRecDepth 100000 in
set_option maxHeartbeats 8000000 in
theorem specGapsOf_any (A : Option Addr) (n c : Nat) (l : List (ByteArray × Int × Int × Int × Int)) (s : ByteArray) (w : World) (hn : n = l.length) (hm : n ≤ 1048576) (hs : ∀ x ∈ l, x.1.size ≤ maxLen) (hr : Rd w A (l.flatMap scells)) (hz : s.size ≤ maxLen) :
    Calls Try.prog 14 #[.slice A n c, .string s] w (GapsPost l s w) := by
  have Q := hide (adGood_any A n c l w hn hm hs hr)
  have Q1 := hide (fun w => adName_any s w hz)
  have Hn := hide hn
  have Hr := hide hr
  obtain ⟨i0, hi0, hz0, hz1, hz2⟩ := info_parts infoIntS
  have Hi := hide hi0
  have Hz := hide (And.intro hz0 (And.intro hz1 hz2))
  clear hs hr hn hz hi0 hz0 hz1 hz2
  cases h1 : strsB l with
  | false =>
    have HE := hide (show gapsOk l s = false by rw [gapsOk, h1]; rfl)
    rw [h1] at Q
    clear h1
    go_enter Try.func14, Try.ntmps14
    go_wp2_with fail
    refine Q.out.mono ?_
    rintro e w1 ⟨rfl, hq⟩
    go_wp2
    go_ret2
    exact GapsPost.no HE.out hq
  | true =>
    rw [h1] at Q
    cases h2 : roadB s with
    | false =>
      have HE := hide (show gapsOk l s = false by rw [gapsOk, h1, h2]; rfl)
      have q2 := Q1.out
      rw [h2] at q2
      clear h1 h2
      go_enter Try.func14, Try.ntmps14
      go_wp2_with fail
      refine Q.out.mono ?_
      rintro e w1 ⟨rfl, hq⟩
      go_wp2_with (go_at_call 43; ((with_reducible refine (q2 _).mono ?_); rintro e w' ⟨rfl, rfl⟩))
      go_ret2
      exact GapsPost.no HE.out hq
    | true =>
      have HE := hide (show gapsOk l s = true by rw [gapsOk, h1, h2]; rfl)
      have q2 := Q1.out
      rw [h2] at q2
      have hn30 : n ≤ 30 := by have := strsB_len h1; have := Hn.out; omega
      have HLS := hide h1
      clear h1 h2
      go_enter Try.func14, Try.ntmps14
      go_wp2_with fail
      refine Q.out.mono ?_
      rintro e w1 ⟨rfl, hq⟩
      have HB1 := hide hq
      clear hq
      go_wp2_with (go_at_call 43; ((with_reducible refine (q2 _).mono ?_); rintro e w' ⟨rfl, rfl⟩))
      go_loopw [6, 19] (fun s6 t wr => ∃ (q : Nat) (v : Value), v = s6 ∧ q ≤ n ∧ t = .int .i64 (q : Int) ∧ Hid (Nest wr w.heap.size v (gapsK l s q)) ∧ Hid (Below w.heap.size w wr)) (fun _ t _ => n - (intOf t).toNat)
      case atStart => exact ⟨0, _, rfl, by omega, rfl, hide (Nest.nil _ _), HB1⟩
      case round =>
        obtain ⟨q, v, rfl, hq, rfl, HN, HB⟩ := hrel
        by_cases hlt : q < n
        · match q, hlt, hq, HN with
          | 0, hlt, hq, HN =>
            obtain ⟨⟨y0, y1, y2, y3, y4⟩, hy⟩ : ∃ x, l[0]? = some x := ⟨_, List.getElem?_eq_getElem (by rw [← Hn.out]; omega)⟩
            obtain ⟨b, off, rfl, hbs, d0, d1, d2, d3, d4⟩ := (Hr.out.below HB.out).get5 (fun _ => rfl) hy rfl
            dsimp only at d0 d1 d2 d3 d4
            simp only [Nat.zero_mul, Nat.add_zero] at d0 d1 d2 d3 d4
            clear hy
            have HVB := hide (show ∀ k, v.ownBlock = some k → w.heap.size ≤ k ∧ k < wr.heap.size from fun k hk => by
              obtain ⟨bs', -, -, e3', -, -⟩ := HN.out
              exact e3'.lt k hk)
            have HSY0 := hide (Row.new wr #[.string y0, .int .i64 y1, .int .i64 y2, .int .i64 y3, .int .i64 y4] 25)
            have HBA0 := hide (below_alloc HB.out (.cells #[.string y0, .int .i64 y1, .int .i64 y2, .int .i64 y3, .int .i64 y4] 25))
            have HNA0 := hide (HN.out.below ((Below.refl _ _).alloc (Nat.le_refl _) (.cells #[.string y0, .int .i64 y1, .int .i64 y2, .int .i64 y3, .int .i64 y4] 25)))
            cases g2 : (y0.toList == s.toList) with
            | false =>
              have HNO : Hid (gapAt l s 0 = []) := hide rfl
              go_wp2_with fail
              have r0 := HSY0.out.2.1 0 _ rfl
              have r1 := HSY0.out.2.1 1 _ rfl
              have rz := HSY0.out.1
              generalize wr.alloc (.cells #[.string y0, .int .i64 y1, .int .i64 y2, .int .i64 y3, .int .i64 y4] 25) = W1 at *
              generalize wr.heap.size = B8 at *
              refine wp_region_later (by kernel_rfl) (by kernel_rfl) ?_
              repeat (go_big_quiet_step (fail))
              refine wpQuiet_nil ?_
              refine later_intro fun w3 hb3 => ?_
              have HB3 := hide (below_step HBA0.out hb3)
              have HN3 := hide (HNA0.out.below hb3)
              clear hb3 d0 d1 d2 d3 d4 r0 r1 rz
              go_wp2
              go_roundw
              case rel => exact ⟨1, _, rfl, by omega, by go_num, hide (by rw [gapsK_succ l s 0, HNO.out, List.append_nil]; exact HN3.out), HB3⟩
              case measure => simp [intOf] <;> omega
            | true =>
              have HNO : Hid (gapAt l s 0 = []) := hide rfl
              go_wp2_with fail
              have r0 := HSY0.out.2.1 0 _ rfl
              have r1 := HSY0.out.2.1 1 _ rfl
              have rz := HSY0.out.1
              generalize wr.alloc (.cells #[.string y0, .int .i64 y1, .int .i64 y2, .int .i64 y3, .int .i64 y4] 25) = W1 at *
              generalize wr.heap.size = B8 at *
              refine wp_region_later (by kernel_rfl) (by kernel_rfl) ?_
              repeat (go_big_quiet_step (fail))
              refine wpQuiet_nil ?_
              refine later_intro fun w3 hb3 => ?_
              have HB3 := hide (below_step HBA0.out hb3)
              have HN3 := hide (HNA0.out.below hb3)
              clear hb3 d0 d1 d2 d3 d4 r0 r1 rz
              go_wp2
              go_roundw
              case rel => exact ⟨1, _, rfl, by omega, by go_num, hide (by rw [gapsK_succ l s 0, HNO.out, List.append_nil]; exact HN3.out), HB3⟩
              case measure => simp [intOf] <;> omega
          | j + 1, hlt, hq, HN =>
            obtain ⟨⟨x0, x1, x2, x3, x4⟩, hx⟩ : ∃ x, l[j]? = some x := ⟨_, List.getElem?_eq_getElem (by rw [← Hn.out]; omega)⟩
            obtain ⟨⟨y0, y1, y2, y3, y4⟩, hy⟩ : ∃ x, l[j + 1]? = some x := ⟨_, List.getElem?_eq_getElem (by rw [← Hn.out]; omega)⟩
            have hxb := (elem_bd HLS.out hx)
            have hyb := (elem_bd HLS.out hy)
            dsimp only at hxb hyb
            have HRN := hide (Hr.out.below (below_alloc HB.out (.cells #[.string y0, .int .i64 y1, .int .i64 y2, .int .i64 y3, .int .i64 y4] 25)))
            obtain ⟨b, off, rfl, hbs, c0, c1, c2, c3, c4⟩ := (HRN.out).get5 (fun _ => rfl) hx rfl
            obtain ⟨b', off', hA, -, d0, d1, d2, d3, d4⟩ := (Hr.out.below HB.out).get5 (fun _ => rfl) hy rfl
            simp only [Option.some.injEq, Addr.mk.injEq, and_true] at hA
            obtain ⟨rfl, rfl⟩ := hA
            dsimp only at c0 c1 c2 c3 c4 d0 d1 d2 d3 d4
            have HX := hide hx
            have HY := hide hy
            obtain ⟨bw, offw, hAw, hbw, -, -, cw2, -, -⟩ := (Hr.out).get5 (fun _ => rfl) hx rfl
            simp only [Option.some.injEq, Addr.mk.injEq, and_true] at hAw
            obtain ⟨rfl, rfl⟩ := hAw
            dsimp only at cw2
            have HW2 := hide cw2
            have HWB := hide hbw
            clear cw2 hbw hx hy
            have hq1 : ((j : Int) + 1 - 1) = (j : Int) := by omega
            have hq0 : (0 : Int) < (j : Int) + 1 := by omega
            have hq2 : ((j : Int) + 1).toNat = j + 1 := by omega
            have hq3 : (0 : Int) ≤ (j : Int) + 1 := by omega
            have hjc : ((j + 1 : Nat) : Int) = (j : Int) + 1 := by omega
            have HVB := hide (show ∀ k, v.ownBlock = some k → w.heap.size ≤ k ∧ k < wr.heap.size from fun k hk => by
              obtain ⟨bs', -, -, e3', -, -⟩ := HN.out
              exact e3'.lt k hk)
            have HSY0 := hide (Row.new wr #[.string y0, .int .i64 y1, .int .i64 y2, .int .i64 y3, .int .i64 y4] 25)
            have HBA0 := hide (below_alloc HB.out (.cells #[.string y0, .int .i64 y1, .int .i64 y2, .int .i64 y3, .int .i64 y4] 25))
            have HNA0 := hide (HN.out.below ((Below.refl _ _).alloc (Nat.le_refl _) (.cells #[.string y0, .int .i64 y1, .int .i64 y2, .int .i64 y3, .int .i64 y4] 25)))
            cases g2 : (y0.toList == s.toList) with
            | false =>
              have HNO := hide (gapAt_no HX.out HY.out (by dsimp only; rw [g2, Bool.and_false, Bool.false_and]))
              go_wp2_with fail
              have r0 := HSY0.out.2.1 0 _ rfl
              have r1 := HSY0.out.2.1 1 _ rfl
              have rz := HSY0.out.1
              generalize wr.alloc (.cells #[.string y0, .int .i64 y1, .int .i64 y2, .int .i64 y3, .int .i64 y4] 25) = W1 at *
              generalize wr.heap.size = B8 at *
              refine wp_region_later (by kernel_rfl) (by kernel_rfl) ?_
              repeat (go_big_quiet_step (fail))
              refine wpQuiet_nil ?_
              refine later_intro fun w3 hb3 => ?_
              have HB3 := hide (below_step HBA0.out hb3)
              have HN3 := hide (HNA0.out.below hb3)
              clear hb3 c0 c1 c2 c3 c4 d0 d1 d2 d3 d4 hbs r0 r1 rz
              go_wp2
              go_roundw
              case rel => exact ⟨j + 1 + 1, _, rfl, by omega, by go_num, hide (by rw [gapsK_succ l s (j + 1), HNO.out, List.append_nil]; exact HN3.out), HB3⟩
              case measure => simp [intOf]; omega
            | true =>
              cases g1 : (x0.toList == s.toList) with
              | false =>
                have HNO := hide (gapAt_no HX.out HY.out (by dsimp only; rw [g1, Bool.false_and, Bool.false_and]))
                go_wp2_with fail
                have r0 := HSY0.out.2.1 0 _ rfl
                have r1 := HSY0.out.2.1 1 _ rfl
                have rz := HSY0.out.1
                generalize wr.alloc (.cells #[.string y0, .int .i64 y1, .int .i64 y2, .int .i64 y3, .int .i64 y4] 25) = W1 at *
                generalize wr.heap.size = B8 at *
                refine wp_region_later (by kernel_rfl) (by kernel_rfl) ?_
                repeat (go_big_quiet_step (fail))
                refine wpQuiet_nil ?_
                refine later_intro fun w3 hb3 => ?_
                have HB3 := hide (below_step HBA0.out hb3)
                have HN3 := hide (HNA0.out.below hb3)
                clear hb3 c0 c1 c2 c3 c4 d0 d1 d2 d3 d4 hbs r0 r1 rz
                go_wp2
                go_roundw
                case rel => exact ⟨j + 1 + 1, _, rfl, by omega, by go_num, hide (by rw [gapsK_succ l s (j + 1), HNO.out, List.append_nil]; exact HN3.out), HB3⟩
                case measure => simp [intOf]; omega
              | true =>
                by_cases g3 : x2 + 1 < y1
                · skip
                  have HYE := hide (gapAt_yes HX.out HY.out (by dsimp only; rw [g1, g2, decide_eq_true g3]; rfl))
                  go_wp2_with fail
                  have r0 := HSY0.out.2.1 0 _ rfl
                  have r1 := HSY0.out.2.1 1 _ rfl
                  have rz := HSY0.out.1
                  generalize wr.alloc (.cells #[.string y0, .int .i64 y1, .int .i64 y2, .int .i64 y3, .int .i64 y4] 25) = W1 at *
                  generalize wr.heap.size = B8 at *
                  refine wp_region_later (by kernel_rfl) (by kernel_rfl) ?_
                  repeat (go_big_quiet_step (fail))
                  refine wpQuiet_nil ?_
                  refine later_intro fun w3 hb3 => ?_
                  have HB3 := hide (below_step HBA0.out hb3)
                  have HN3 := hide (HNA0.out.below hb3)
                  have HSY3 := hide (HSY0.out.below hb3)
                  clear hb3 c0 c1 c2 c3 c4 d0 d1 d2 d3 d4 g1 g2 hbs r0 r1 rz
                  have hgl := gapsK_len l s (j + 1)
                  have HGL := hide hgl
                  clear hgl
                  go_wp2_with fail
                  have c2 := cell_on HW2.out HB3.out
                  have hbs : b < w3.heap.size := World.block_lt_of_cell? _ ⟨b, _, none⟩ c2
                  have r1 := HSY3.out.2.1 1 _ rfl
                  have rz := HSY3.out.1
                  obtain ⟨gv, hgv⟩ : ∃ gv, gv = v.ownBlock.getD w3.heap.size := ⟨_, rfl⟩
                  have HGV := hide hgv
                  have hne1 : b ≠ gv := fun e => by
                    cases hv : v.ownBlock with
                    | none => rw [hv] at hgv; simp at hgv; omega
                    | some k =>
                      rw [hv] at hgv
                      simp at hgv
                      have h1 := HVB.out k hv
                      have h2 := HWB.out
                      omega
                  have hne2 : B8 ≠ gv := fun e => by
                    cases hv : v.ownBlock with
                    | none => rw [hv] at hgv; simp at hgv; omega
                    | some k =>
                      rw [hv] at hgv
                      simp at hgv
                      have h1 := HVB.out k hv
                      omega
                  clear hgv
                  refine wpAnyS_start (fun w' => ∃ n : LaterX w3 gv, w' = n.w) (n := 15) (by kernel_rfl) rfl rfl ?_
                  refine wpAnyS_take_all [0, 1, 2, 3, 4, 5, 6, 7, 8, 9, 10] 4 rfl (by kernel_rfl) (by intro c a d v w h; cases d <;> exact h) (by kernel_rfl) (by simp; rfl) rfl (laterX_drew _ _) ?_
                  repeat (go_big_quiet_step (fail))
                  refine wpQuiet_nil ?_
                  clear c2 r1 hbs rz hne1 hne2
                  have HGG : Hid (w3.grownBy w3.drew (some gv)) := hide (grown_of_below (Below.refl _ _).drew _)
                  have HC0 : Hid (Below w.heap.size w w3.drew) := hide HB3.out.drew
                  have HL : Hid (Below w3.heap.size w3 w3.drew) := hide (Below.refl _ _).drew
                  have HV : Hid (w3.heap.size = w3.drew.heap.size) := hide rfl
                  generalize w3.drew = V0 at *
                  refine wpAnyS_only 11 (by kernel_rfl) (by simp; rfl) rfl rfl (fun K hK => ?_)
                  go_wp2_with fail
                  have HL1 := hide (below_alloc HL.out (.cells #[.int .i64 (x2 + 1), .int .i64 (y1 - 1)] 3))
                  have HG1 := hide (heap_new V0 #[.int .i64 (x2 + 1), .int .i64 (y1 - 1)] 3)
                  refine ⟨laterX_of (grown_new' HGG.out _), ?_⟩
                  replace HC0 := hide (below_alloc HC0.out (.cells #[.int .i64 (x2 + 1), .int .i64 (y1 - 1)] 3))
                  replace HGG := hide (grown_new' HGG.out (.cells #[.int .i64 (x2 + 1), .int .i64 (y1 - 1)] 3))
                  have HZ1 : Hid (V0.heap.size < (V0.alloc (.cells #[.int .i64 (x2 + 1), .int .i64 (y1 - 1)] 3)).heap.size) := hide (by simp)
                  generalize V0.alloc (.cells #[.int .i64 (x2 + 1), .int .i64 (y1 - 1)] 3) = V1 at *
                  generalize V0.heap.size = G1 at *
                  refine wpAnyS_only 12 (by kernel_rfl) (by simp; rfl) rfl rfl (fun K hK => ?_)
                  go_wp2_with fail
                  have HL2 := hide (below_alloc HL1.out (.cells #[.slice (some ⟨G1, 0, none⟩) 2 2] 49))
                  have HG2 := hide (heap_grown HG1.out (grown_of_below ((Below.refl _ _).alloc (Nat.le_refl _) (.cells #[.slice (some ⟨G1, 0, none⟩) 2 2] 49)) none) (by simp))
                  have HA2 := hide (Row.new V1 #[.slice (some ⟨G1, 0, none⟩) 2 2] 49)
                  have HZ2 : Hid (G1 < (V1.alloc (.cells #[.slice (some ⟨G1, 0, none⟩) 2 2] 49)).heap.size) := hide (by have := HZ1.out; simp; omega)
                  refine ⟨laterX_of (grown_new' HGG.out _), ?_⟩
                  replace HC0 := hide (below_alloc HC0.out (.cells #[.slice (some ⟨G1, 0, none⟩) 2 2] 49))
                  replace HGG := hide (grown_new' HGG.out (.cells #[.slice (some ⟨G1, 0, none⟩) 2 2] 49))
                  generalize V1.alloc (.cells #[.slice (some ⟨G1, 0, none⟩) 2 2] 49) = V2 at *
                  generalize V1.heap.size = G2 at *
                  refine wpAnyS_only 13 (by kernel_rfl) (by simp; rfl) rfl rfl (fun K hK => ?_)
                  obtain ⟨bs, ⟨e1, e2, e3', e4, e5'⟩, hbl, hvl⟩ := HN3.out.lt
                  have e3 := own_low e3' HL2.out hvl
                  have e5 : ∀ (i : Nat) (b : Nat) (p : Int × Int), bs[i]? = some b → (gapsK l s (j + 1))[i]? = some p → V2.heap[b]? = some (.cells #[.int .i64 p.1, .int .i64 p.2] 3 (0, 0)) := fun i b p hi hp => by rw [HL2.out.block b (hbl b (List.mem_of_getElem? hi))]; exact e5' i b p hi hp
                  refine wp_append_lies V2 (.tmp 54) (.tmp 66) 37 rfl w.heap.size 49 i0 _ 1 24 Try.underlying37 Hi.out Hz.out.1 Hz.out.2.1 Hz.out.2.2 rfl (by decide) v (gapsK l s (j + 1)).length (bs.map hdr) rfl e3 ⟨G2, 0, none⟩ 1 1 [hdr G1] rfl rfl (fun j u hu => by rw [Addr.add_lit, Nat.zero_add]; exact HA2.out.2.1 j u hu) (fun u hu => by simp at hu; subst hu; rfl) (by omega) (by unfold maxLen; have := HGL.out; omega) (by have := HGL.out; omega) (Nat.le_trans HB3.out.size HL2.out.size) _ rfl (fun g' cap' w4 hown hgr hor hlt4 => ?_)
                  have HNM := hide (Nest.more e1 e2 e4 e5 (fun b' hb' => by have := hbl b' hb'; have := HV.out; omega) HG2.out (by have := HB3.out.size; have := HV.out; omega) (fun e => by have := hvl _ e; have := HV.out; omega) hown hgr (hor.imp (fun h => h.symm) (fun h => by omega)))
                  have HG4 : Hid (w3.grownBy w4 (some gv)) := hide (grown_trans HGG.out (by rw [HGV.out]; exact grown_getD hgr _))
                  have HC4 := hide ((below_step HB3.out HL2.out).grown hgr (Nat.le_trans HB3.out.size HL2.out.size) (fun j hj => (e3'.lt j hj).1))
                  clear hown hgr hor hlt4 e1 e2 e3 e4 e5 e3' e5' hbl hvl HL HL1 HL2
                  refine hK _ _ ⟨laterX_of HG4.out, ?_⟩
                  simp only [Act.put, List.setIfInBounds_toArray, List.set_cons_succ, List.set_cons_zero]
                  refine wpAnyS_only 14 (by kernel_rfl) (by simp; rfl) rfl rfl (fun K hK => ?_)
                  go_wp2_with fail
                  refine ⟨laterX_of HG4.out, ?_⟩
                  refine wpAnyH_done (by kernel_rfl) ?_ _
                  go_wp2
                  go_roundw
                  case rel => exact ⟨j + 1 + 1, _, rfl, by omega, by go_num, hide (by rw [gapsK_succ l s (j + 1), HYE.out]; exact HNM.out), HC4⟩
                  case measure => simp [intOf]; omega
                · have g4 : ¬ (x2 + 1 < y1) := g3
                  have HNO := hide (gapAt_no HX.out HY.out (by dsimp only; rw [g1, g2, decide_eq_false g3, Bool.and_false]))
                  go_wp2_with fail
                  have r0 := HSY0.out.2.1 0 _ rfl
                  have r1 := HSY0.out.2.1 1 _ rfl
                  have rz := HSY0.out.1
                  generalize wr.alloc (.cells #[.string y0, .int .i64 y1, .int .i64 y2, .int .i64 y3, .int .i64 y4] 25) = W1 at *
                  generalize wr.heap.size = B8 at *
                  refine wp_region_later (by kernel_rfl) (by kernel_rfl) ?_
                  repeat (go_big_quiet_step (fail))
                  refine wpQuiet_nil ?_
                  refine later_intro fun w3 hb3 => ?_
                  have HB3 := hide (below_step HBA0.out hb3)
                  have HN3 := hide (HNA0.out.below hb3)
                  clear hb3 c0 c1 c2 c3 c4 d0 d1 d2 d3 d4 hbs r0 r1 rz
                  go_wp2
                  go_roundw
                  case rel => exact ⟨j + 1 + 1, _, rfl, by omega, by go_num, hide (by rw [gapsK_succ l s (j + 1), HNO.out, List.append_nil]; exact HN3.out), HB3⟩
                  case measure => simp [intOf]; omega
        · have hqn : q = n := by omega
          subst hqn
          have HQE := hide (show gapsK l s q = gapsK l s l.length by rw [← Hn.out])
          go_wp2
          go_ret2
          exact GapsPost.yes HE.out (by rw [← HQE.out]; exact HN.out) HB.out
end Go.Proofs.Ytpkhdmhfkmajcaa

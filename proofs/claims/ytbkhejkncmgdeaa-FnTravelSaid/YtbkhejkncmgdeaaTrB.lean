/- Several texts in one. Draws of towns: a node. Draws of towns: any. -/
import Derived.Test.YtbkhejkncmgdeaaDrawA
import Derived.Test.YtbkhejkncmgdeaaAstA
import Derived.Test.YtbkhejkncmgdeaaTrDrawT
namespace Go.Proofs.Ytbkhejkncmgdeaa
open Go.RowKit
set_option linter.unusedVariables false

set_option maxHeartbeats 8000000 in
theorem nodeOf_any (d : Drw) (N : Nat) (nd : Int) (A : Option Addr) (k c : Nat) (w : World) (hd : d.ok) (h : d.st N w) (hN : N ≤ 100000000000) :
    Calls Try.prog 53 #[.pointer (some ⟨d.g, 0, none⟩), .agg #[.int .i64 nd, .slice A k c]] w (DrwInt d (N + 14) w fun _ => True) := by
  have H := hide (h.alloc (.cells #[.int .i64 nd, .slice A k c] 30))
  have HG := hide (grown_of_below ((Below.refl _ _).alloc (Nat.le_refl w.heap.size) (.cells #[.int .i64 nd, .slice A k c] 30)) (some d.g))
  clear h
  go_enter Try.func53, Try.ntmps53
  go_wp2_with fail
  refine (l1Least_any 14 nd _).mono ?_
  rintro e w' ⟨rfl, rfl⟩
  go_wp2_with fail
  refine (l1Most_any 1 (min 14 nd) _).mono ?_
  rintro e w' ⟨rfl, rfl⟩
  have hn1 : 1 ≤ max 1 (min 14 nd) := by omega
  have hn2 : max 1 (min 14 nd) ≤ 14 := by omega
  generalize max 1 (min 14 nd) = n at *
  generalize w.alloc (.cells #[.int .i64 nd, .slice A k c] 30) = w0 at *
  go_wp2_with fail
  refine (pick_any d (N + 0) n w0 hd H.out (by omega) (by omega)).mono ?_
  rintro e w1 ⟨⟨x1, rfl, -, -, -⟩, hs, hg⟩
  replace H := hide hs
  replace HG := hide (grown_trans HG.out hg)
  clear hs hg
  go_wp2_with fail
  refine (pick_any d (N + 2) n w1 hd H.out (by omega) (by omega)).mono ?_
  rintro e w2 ⟨⟨x2, rfl, -, -, -⟩, hs, hg⟩
  replace H := hide hs
  replace HG := hide (grown_trans HG.out hg)
  clear hs hg
  go_wp2_with fail
  refine (pick_any d (N + 4) n w2 hd H.out (by omega) (by omega)).mono ?_
  rintro e w3 ⟨⟨x3, rfl, -, -, -⟩, hs, hg⟩
  replace H := hide hs
  replace HG := hide (grown_trans HG.out hg)
  clear hs hg
  go_wp2_with fail
  refine (pick_any d (N + 6) n w3 hd H.out (by omega) (by omega)).mono ?_
  rintro e w4 ⟨⟨x4, rfl, -, -, -⟩, hs, hg⟩
  replace H := hide hs
  replace HG := hide (grown_trans HG.out hg)
  clear hs hg
  go_wp2_with fail
  refine (pick_any d (N + 8) n w4 hd H.out (by omega) (by omega)).mono ?_
  rintro e w5 ⟨⟨x5, rfl, -, -, -⟩, hs, hg⟩
  replace H := hide hs
  replace HG := hide (grown_trans HG.out hg)
  clear hs hg
  go_wp2_with fail
  refine (among_lit d (N + 10) [-1, n] _ _ (by simp) hd H.out (by omega) (by simp) (by simp)).mono ?_
  rintro e w6 ⟨⟨x6, rfl, -⟩, hs, hg⟩
  replace H := hide hs
  replace HG := hide (grown_trans HG.out hg)
  clear hs hg
  go_wp2_with fail
  refine (among_lit d (N + 12) [0, n - 1, x1, x2, x3, x4, x5, x6] _ _ (by simp) hd H.out (by omega) (by simp) (by simp)).mono ?_
  rintro e w7 ⟨⟨x7, rfl, -⟩, hs, hg⟩
  replace H := hide hs
  replace HG := hide (grown_trans HG.out hg)
  clear hs hg
  go_wp2
  go_ret
  exact ⟨⟨x7, rfl, trivial⟩, H.out, HG.out⟩
end Go.Proofs.Ytbkhejkncmgdeaa
namespace Go.Proofs.Ytbkhejkncmgdeaa
open Go.RowKit
set_option linter.unusedVariables false

theorem infoStreetD : (Try.prog.info? 34).map (fun i => (i.zero, i.size, i.bytes)) = some (some (.agg #[.int .i64 0, .int .i64 0, .int .i64 0]), 3, 24) := by kernel_rfl

set_option maxRecDepth 100000 in
set_option maxHeartbeats 16000000 in
theorem anyTown_any (d : Drw) (N : Nat) (w : World) (hd : d.ok) (h : d.st N w) (hN : N ≤ 1000000000) :
    Calls Try.prog 52 #[.pointer (some ⟨d.g, 0, none⟩)] w (DrwTown d (N + 5000) 41 (fun _ => True) w) := by
  have H := hide h
  have HD := hide (show d.g < w.heap.size ∧ d.W0.heap.size ≤ d.g from ⟨h.lt, hd.2.2.2.2⟩)
  obtain ⟨i0, hi0, hz0, hz1, hz2⟩ := info_parts infoStreetD
  have Hi := hide hi0
  have Hz := hide (And.intro hz0 (And.intro hz1 hz2))
  clear h hi0 hz0 hz1 hz2
  go_enter Try.func52, Try.ntmps52
  go_wp2_with fail
  have HR := hide (Row.new w #[.int .i64 0, .slice none 0 0] 30)
  refine (town_any d N _ hd (H.out.alloc _) (by omega)).mono ?_
  rintro e w1 ⟨⟨nd, A, c, l, rfl, -, hl, ho⟩, hs, hg⟩
  have HL : Hid (l.length ≤ 40) := hide hl
  have HG := hide (grown_trans (grown_of_below ((Below.refl _ _).alloc (Nat.le_refl _) (.cells #[.int .i64 0, .slice none 0 0] 30)) _) hg)
  replace HR := hide (HR.out.grown hg (fun e => by injection e with e; have := HD.out; omega))
  go_wp2_with fail
  have HT : Hid (TwAt d w w.heap.size w1.heap.size nd A c l (N + 4000) (w1.alloc (.cells #[.int .i64 nd, .slice A l.length c] 30))) := hide ⟨HD.out.2, hs.alloc _, grown_new HG.out _, HR.out.alloc _, Row.new _ _ _, World.ownsRow.alloc (own_le ho (by simp)) _, ⟨HD.out.1, Nat.le_refl _, HR.out.1⟩, fun q hq => by
    have h1 := ho.lt q hq
    have h2 : (w.alloc (.cells #[.int .i64 0, .slice none 0 0] 30)).heap.size = w.heap.size + 1 := by simp
    rw [h2] at h1
    exact ⟨by omega, by omega⟩⟩
  clear HR HG HD hs hg ho hl H
  generalize w1.alloc (.cells #[.int .i64 nd, .slice A l.length c] 30) = w2 at *
  generalize w1.heap.size = tb at *
  obtain ⟨rb, hrb⟩ : ∃ rb, rb = w.heap.size := ⟨_, rfl⟩
  rw [← hrb] at HT ⊢
  clear hrb
  refine (pick_any d (N + 4000) 30 _ hd HT.out.st (by omega) (by omega)).mono ?_
  rintro e w4 ⟨⟨p, rfl, hp0, hp1, hp2⟩, hs, hg⟩
  replace HT : Hid (TwAt d w rb tb nd A c l (N + 4002) w4) := hide (HT.out.draw hs hg)
  clear hs hg hp1
  by_cases h0 : p = 0
  · have h0' : (p == 0) = true := by simpa using h0
    clear h0 hp0 hp2
    go_wp2_with fail
    refine (among_lit d (N + 4002) [0, -1, 15, 4611686018427387904] _ _ (by simp) hd HT.out.st (by omega) (by simp) (by simp)).mono ?_
    rintro e w5 ⟨⟨y, rfl, -⟩, hs, hg⟩
    replace HT := hide (HT.out.draw hs hg)
    clear hs hg
    have b0 := HT.out.box.2.1 0 _ rfl
    have b1 := HT.out.box.2.1 1 _ rfl
    have g0 := HT.out.box.free 0
    have g1 := HT.out.box.free 1
    have r0 := HT.out.res.2.1 0 _ rfl
    have r1 := HT.out.res.2.1 1 _ rfl
    have q0 := HT.out.res.free 0
    have q1 := HT.out.res.free 1
    have bz := HT.out.box.1
    have rz := HT.out.res.1
    have n1 : tb ≠ rb := by have := HT.out.ord; omega
    have n2 : rb ≠ tb := Ne.symm n1
    go_wp2
    exact bodyPost_ret (v := .agg #[.int .i64 y, .slice A l.length c]) (by simp [results, Try.results52, go_sem, *]) rfl ((HT.out.setN y).done trivial (Nat.le_trans HL.out (by omega)) (by omega) _ _)
  · have h0' : (p == 0) = false := by simpa using h0
    by_cases h1 : p = 1
    · have h1' : (p == 1) = true := by simpa using h1
      clear h0 h1 hp0 hp2
      as_aux_lemma =>
        have t0 := HT.out.box.2.1 0 _ rfl
        have t1 := HT.out.box.2.1 1 _ rfl
        have tz := HT.out.box.1
        have tg : tb ≠ d.g := by have := HT.out.ord; omega
        go_wp2_with fail
        refine wpAnyX_start (fun w' => ∃ n : LaterX w4 d.g, w' = n.w) [12, 14] (n := 15) (by kernel_rfl) rfl rfl ?_
        refine wpAnyX_take [0, 1, 2, 5, 7] 10 rfl (by kernel_rfl) (by intro c a d v w h; cases d <;> exact h) (by kernel_rfl) (by kernel_rfl) (by kernel_rfl) (by simp; rfl) rfl (laterX_drew _ _) ?_
        repeat (go_big_quiet_step (fail))
        refine wpQuiet_nil ?_
        have HG : Hid (w4.grownBy w4.drew (some d.g)) := hide (grown_of_below (Below.refl _ _).drew _)
        replace HT := hide HT.out.drew
        clear t0 t1 tz tg
        generalize w4.drew = V0 at *
        refine wpAnyX_two 3 8 (by kernel_rfl) (by simp; rfl) (by simp; rfl) rfl rfl rfl rfl (fun K hK => ?_) (fun K hK => ?_)
        · go_wp2_with fail
          refine (pick_any d (N + 4002) 3 _ hd HT.out.st (by omega) (by omega)).mono ?_
          rintro e V1 ⟨⟨x, rfl, x0, x1, x2⟩, hs, hg⟩
          clear x1
          replace HT : Hid (TwAt d w rb tb nd A c l (N + 4004) V1) := hide (HT.out.draw hs hg)
          replace HG := hide (grown_trans HG.out hg)
          clear hs hg
          go_wp2_with fail
          refine ⟨laterX_of HG.out, ?_⟩
          have hw1 : IntKind.i64.wrap (x - 1) = x - 1 := IntWalk.i64_in _ (by omega)
          refine wpAnyX_take [4] 8 rfl (by kernel_rfl) (by intro c a d v w h; cases d <;> exact h) (by kernel_rfl) (by kernel_rfl) (by kernel_rfl) (by simp; rfl) rfl (laterX_of HG.out) ?_
          repeat (go_big_quiet_step (fail))
          refine wpQuiet_nil ?_
          clear hw1
          refine wpAnyX_two 6 8 (by kernel_rfl) (by simp; rfl) (by simp; rfl) rfl rfl rfl rfl (fun K hK => ?_) (fun K hK => ?_)
          · go_wp2_with fail
            refine (pick_any d (N + 4004) 4 _ hd HT.out.st (by omega) (by omega)).mono ?_
            rintro e V2 ⟨⟨y, rfl, y0, y1, y2⟩, hs, hg⟩
            clear y1
            replace HT : Hid (TwAt d w rb tb nd A c l (N + 4006) V2) := hide (HT.out.draw hs hg)
            replace HG := hide (grown_trans HG.out hg)
            clear hs hg
            go_wp2_with fail
            refine ⟨laterX_of HG.out, ?_⟩
            refine wpAnyX_only 8 (by kernel_rfl) (by simp; rfl) rfl rfl (fun K hK => ?_)
            have HB := hide (Row.new V2 #[.int .i64 60, .int .i64 0, .int .i64 3601] 3)
            have HBG : Hid (V2.heap.size ≠ d.g) := hide (by have := HT.out.st.lt; omega)
            replace HT := hide (HT.out.alloc (.cells #[.int .i64 60, .int .i64 0, .int .i64 3601] 3))
            replace HG := hide (grown_new HG.out (.cells #[.int .i64 60, .int .i64 0, .int .i64 3601] 3))
            refine wp_ints3 60 0 3601 (.const (.int .i64 60)) (.const (.int .i64 0)) (.const (.int .i64 3601)) rfl rfl rfl rfl (hK _ _ ⟨laterX_of HG.out, ?_⟩)
            simp only [Act.put, List.setIfInBounds_toArray, List.set_cons_succ, List.set_cons_zero]
            generalize V2.alloc (.cells #[.int .i64 60, .int .i64 0, .int .i64 3601] 3) = V3 at *
            generalize V2.heap.size = lb at *
            refine wpAnyX_only 9 (by kernel_rfl) (by simp; rfl) rfl rfl (fun K hK => ?_)
            go_wp2_with fail
            refine (among_any d (N + 4006) (some ⟨lb, 0, none⟩) 3 3 [60, 0, 3601] _ hd HT.out.st (by omega) rfl (by omega) (by omega) (by exact HB.out.rd) (fun b o sp e => by injection e with e; injection e with e; have := HBG.out; omega)).mono ?_
            rintro e V4 ⟨⟨z, rfl, -⟩, hs, hg⟩
            clear HB HBG
            replace HT : Hid (TwAt d w rb tb nd A c l (N + 4008) V4) := hide (HT.out.draw hs hg)
            replace HG := hide (grown_trans HG.out hg)
            clear hs hg
            go_wp2_with fail
            refine ⟨laterX_of HG.out, ?_⟩
            refine wpAnyX_take [10] 4 rfl (by kernel_rfl) (by intro c a d v w h; cases d <;> exact h) (by kernel_rfl) (by kernel_rfl) (by kernel_rfl) (by simp; rfl) rfl (laterX_of HG.out) ?_
            repeat (go_big_quiet_step (fail))
            refine wpQuiet_nil ?_
            refine wpAnyX_only 11 (by kernel_rfl) (by simp; rfl) rfl rfl (fun K hK => ?_)
            go_wp2_with fail
            have HS := hide (Row.new V4 #[.int .i64 (x - 1), .int .i64 y, .int .i64 z] 34)
            replace HT := hide (HT.out.alloc (.cells #[.int .i64 (x - 1), .int .i64 y, .int .i64 z] 34))
            replace HG := hide (grown_new HG.out (.cells #[.int .i64 (x - 1), .int .i64 y, .int .i64 z] 34))
            refine ⟨laterX_of HG.out, ?_⟩
            generalize V4.alloc (.cells #[.int .i64 (x - 1), .int .i64 y, .int .i64 z] 34) = V5 at *
            generalize V4.heap.size = sb at *
            refine wpAnyX_last 12 (by kernel_rfl) (by simp; rfl) rfl rfl (by kernel_rfl) (fun K hK => ?_)
            have hml : maxLen = 9223372036854775807 := rfl
            have HLE := hide (show l.length ≤ 40 from HL.out)
            refine wp_append_lies _ (.tmp 19) (.tmp 29) 28 rfl w.heap.size 34 i0 _ 3 24 Try.underlying28 Hi.out Hz.out.1 Hz.out.2.1 Hz.out.2.2 rfl (by decide) (.slice A l.length c) l.length (l.flatMap tcells) rfl HT.out.own ⟨sb, 0, none⟩ 1 1 (tcells (x - 1, y, z)) rfl rfl (fun j u hu => by rw [Addr.add_lit, Nat.zero_add]; exact HS.out.2.1 j u hu) (fun u hu => tcells_ones [(x - 1, y, z)] u (by simpa using hu)) (by omega) (by have := HLE.out; omega) (by have := HLE.out; omega) HT.out.gr.size V5.heap.size rfl (fun g' cap' V9 ho' hg' hw' hlt' => ?_)
            have HF := hide (HT.out.far hg')
            have HT9 := hide (HT.out.append hg' hw' ho')
            clear HS hml hg' hw' ho' hlt' HG
            refine hK _ _ ?_
            simp only [Act.put, List.setIfInBounds_toArray, List.set_cons_succ, List.set_cons_zero]
            refine wpAnyX_last 13 (by kernel_rfl) (by simp; rfl) rfl rfl (by kernel_rfl) (fun K hK => ?_)
            go_wp2_with fail
            refine wpAnyX_last 14 (by kernel_rfl) (by simp; rfl) rfl rfl (by kernel_rfl) (fun K hK => ?_)
            have t0 := HF.out.2.2.1 0 _ rfl
            have t1 := HF.out.2.2.1 1 _ rfl
            have f1 := HF.out.2.free 1
            have tz := HF.out.2.1
            go_wp2_with fail
            refine wpAnyX_done (by kernel_rfl) ?_ _
            clear t0 t1 f1 tz HF
            replace HT := HT9
            clear HT9
            have HLL := hide (show (l ++ [(x - 1, y, z)]).length ≤ 41 by have := HL.out; simp; omega)
            generalize V9.setCell ⟨tb, 1, none⟩ (.slice (some ⟨g', 0, none⟩) (l.length + 1) cap') = W9 at *
            generalize l ++ [(x - 1, y, z)] = LL at *
            have b0 := HT.out.box.2.1 0 _ rfl
            have b1 := HT.out.box.2.1 1 _ rfl
            have g0 := HT.out.box.free 0
            have g1 := HT.out.box.free 1
            have r0 := HT.out.res.2.1 0 _ rfl
            have r1 := HT.out.res.2.1 1 _ rfl
            have q0 := HT.out.res.free 0
            have q1 := HT.out.res.free 1
            have bz := HT.out.box.1
            have rz := HT.out.res.1
            have n1 : tb ≠ rb := by have := HT.out.ord; omega
            have n2 : rb ≠ tb := Ne.symm n1
            go_wp2
            exact bodyPost_ret (v := .agg #[.int .i64 nd, .slice (some ⟨g', 0, none⟩) LL.length cap']) (by simp [results, Try.results52, go_sem, *]) rfl (HT.out.done trivial HLL.out (by omega) _ _)
          · have HB := hide (Row.new V1 #[.int .i64 60, .int .i64 0, .int .i64 3601] 3)
            have HBG : Hid (V1.heap.size ≠ d.g) := hide (by have := HT.out.st.lt; omega)
            replace HT := hide (HT.out.alloc (.cells #[.int .i64 60, .int .i64 0, .int .i64 3601] 3))
            replace HG := hide (grown_new HG.out (.cells #[.int .i64 60, .int .i64 0, .int .i64 3601] 3))
            refine wp_ints3 60 0 3601 (.const (.int .i64 60)) (.const (.int .i64 0)) (.const (.int .i64 3601)) rfl rfl rfl rfl (hK _ _ ⟨laterX_of HG.out, ?_⟩)
            simp only [Act.put, List.setIfInBounds_toArray, List.set_cons_succ, List.set_cons_zero]
            generalize V1.alloc (.cells #[.int .i64 60, .int .i64 0, .int .i64 3601] 3) = V2 at *
            generalize V1.heap.size = lb at *
            refine wpAnyX_only 6 (by kernel_rfl) (by simp; rfl) rfl rfl (fun K hK => ?_)
            go_wp2_with fail
            refine (pick_any d (N + 4004) 4 _ hd HT.out.st (by omega) (by omega)).mono ?_
            rintro e V3 ⟨⟨y, rfl, y0, y1, y2⟩, hs, hg⟩
            clear y1
            replace HB := hide (HB.out.grown hg (fun e => by injection e with e; have := HBG.out; omega))
            replace HT : Hid (TwAt d w rb tb nd A c l (N + 4006) V3) := hide (HT.out.draw hs hg)
            replace HG := hide (grown_trans HG.out hg)
            clear hs hg
            go_wp2_with fail
            refine ⟨laterX_of HG.out, ?_⟩
            refine wpAnyX_only 9 (by kernel_rfl) (by simp; rfl) rfl rfl (fun K hK => ?_)
            go_wp2_with fail
            refine (among_any d (N + 4006) (some ⟨lb, 0, none⟩) 3 3 [60, 0, 3601] _ hd HT.out.st (by omega) rfl (by omega) (by omega) (by exact HB.out.rd) (fun b o sp e => by injection e with e; injection e with e; have := HBG.out; omega)).mono ?_
            rintro e V4 ⟨⟨z, rfl, -⟩, hs, hg⟩
            clear HB HBG
            replace HT : Hid (TwAt d w rb tb nd A c l (N + 4008) V4) := hide (HT.out.draw hs hg)
            replace HG := hide (grown_trans HG.out hg)
            clear hs hg
            go_wp2_with fail
            refine ⟨laterX_of HG.out, ?_⟩
            refine wpAnyX_take [10] 4 rfl (by kernel_rfl) (by intro c a d v w h; cases d <;> exact h) (by kernel_rfl) (by kernel_rfl) (by kernel_rfl) (by simp; rfl) rfl (laterX_of HG.out) ?_
            repeat (go_big_quiet_step (fail))
            refine wpQuiet_nil ?_
            refine wpAnyX_only 11 (by kernel_rfl) (by simp; rfl) rfl rfl (fun K hK => ?_)
            go_wp2_with fail
            have HS := hide (Row.new V4 #[.int .i64 (x - 1), .int .i64 y, .int .i64 z] 34)
            replace HT := hide (HT.out.alloc (.cells #[.int .i64 (x - 1), .int .i64 y, .int .i64 z] 34))
            replace HG := hide (grown_new HG.out (.cells #[.int .i64 (x - 1), .int .i64 y, .int .i64 z] 34))
            refine ⟨laterX_of HG.out, ?_⟩
            generalize V4.alloc (.cells #[.int .i64 (x - 1), .int .i64 y, .int .i64 z] 34) = V5 at *
            generalize V4.heap.size = sb at *
            refine wpAnyX_last 12 (by kernel_rfl) (by simp; rfl) rfl rfl (by kernel_rfl) (fun K hK => ?_)
            have hml : maxLen = 9223372036854775807 := rfl
            have HLE := hide (show l.length ≤ 40 from HL.out)
            refine wp_append_lies _ (.tmp 19) (.tmp 29) 28 rfl w.heap.size 34 i0 _ 3 24 Try.underlying28 Hi.out Hz.out.1 Hz.out.2.1 Hz.out.2.2 rfl (by decide) (.slice A l.length c) l.length (l.flatMap tcells) rfl HT.out.own ⟨sb, 0, none⟩ 1 1 (tcells (x - 1, y, z)) rfl rfl (fun j u hu => by rw [Addr.add_lit, Nat.zero_add]; exact HS.out.2.1 j u hu) (fun u hu => tcells_ones [(x - 1, y, z)] u (by simpa using hu)) (by omega) (by have := HLE.out; omega) (by have := HLE.out; omega) HT.out.gr.size V5.heap.size rfl (fun g' cap' V9 ho' hg' hw' hlt' => ?_)
            have HF := hide (HT.out.far hg')
            have HT9 := hide (HT.out.append hg' hw' ho')
            clear HS hml hg' hw' ho' hlt' HG
            refine hK _ _ ?_
            simp only [Act.put, List.setIfInBounds_toArray, List.set_cons_succ, List.set_cons_zero]
            refine wpAnyX_last 13 (by kernel_rfl) (by simp; rfl) rfl rfl (by kernel_rfl) (fun K hK => ?_)
            go_wp2_with fail
            refine wpAnyX_last 14 (by kernel_rfl) (by simp; rfl) rfl rfl (by kernel_rfl) (fun K hK => ?_)
            have t0 := HF.out.2.2.1 0 _ rfl
            have t1 := HF.out.2.2.1 1 _ rfl
            have f1 := HF.out.2.free 1
            have tz := HF.out.2.1
            go_wp2_with fail
            refine wpAnyX_done (by kernel_rfl) ?_ _
            clear t0 t1 f1 tz HF
            replace HT := HT9
            clear HT9
            have HLL := hide (show (l ++ [(x - 1, y, z)]).length ≤ 41 by have := HL.out; simp; omega)
            generalize V9.setCell ⟨tb, 1, none⟩ (.slice (some ⟨g', 0, none⟩) (l.length + 1) cap') = W9 at *
            generalize l ++ [(x - 1, y, z)] = LL at *
            have b0 := HT.out.box.2.1 0 _ rfl
            have b1 := HT.out.box.2.1 1 _ rfl
            have g0 := HT.out.box.free 0
            have g1 := HT.out.box.free 1
            have r0 := HT.out.res.2.1 0 _ rfl
            have r1 := HT.out.res.2.1 1 _ rfl
            have q0 := HT.out.res.free 0
            have q1 := HT.out.res.free 1
            have bz := HT.out.box.1
            have rz := HT.out.res.1
            have n1 : tb ≠ rb := by have := HT.out.ord; omega
            have n2 : rb ≠ tb := Ne.symm n1
            go_wp2
            exact bodyPost_ret (v := .agg #[.int .i64 nd, .slice (some ⟨g', 0, none⟩) LL.length cap']) (by simp [results, Try.results52, go_sem, *]) rfl (HT.out.done trivial HLL.out (by omega) _ _)
        · have HB := hide (Row.new V0 #[.int .i64 60, .int .i64 0, .int .i64 3601] 3)
          have HBG : Hid (V0.heap.size ≠ d.g) := hide (by have := HT.out.st.lt; omega)
          replace HT := hide (HT.out.alloc (.cells #[.int .i64 60, .int .i64 0, .int .i64 3601] 3))
          replace HG := hide (grown_new HG.out (.cells #[.int .i64 60, .int .i64 0, .int .i64 3601] 3))
          refine wp_ints3 60 0 3601 (.const (.int .i64 60)) (.const (.int .i64 0)) (.const (.int .i64 3601)) rfl rfl rfl rfl (hK _ _ ⟨laterX_of HG.out, ?_⟩)
          simp only [Act.put, List.setIfInBounds_toArray, List.set_cons_succ, List.set_cons_zero]
          generalize V0.alloc (.cells #[.int .i64 60, .int .i64 0, .int .i64 3601] 3) = V1 at *
          generalize V0.heap.size = lb at *
          refine wpAnyX_only 3 (by kernel_rfl) (by simp; rfl) rfl rfl (fun K hK => ?_)
          go_wp2_with fail
          refine (pick_any d (N + 4002) 3 _ hd HT.out.st (by omega) (by omega)).mono ?_
          rintro e V2 ⟨⟨x, rfl, x0, x1, x2⟩, hs, hg⟩
          clear x1
          replace HB := hide (HB.out.grown hg (fun e => by injection e with e; have := HBG.out; omega))
          replace HT : Hid (TwAt d w rb tb nd A c l (N + 4004) V2) := hide (HT.out.draw hs hg)
          replace HG := hide (grown_trans HG.out hg)
          clear hs hg
          go_wp2_with fail
          refine ⟨laterX_of HG.out, ?_⟩
          have hw1 : IntKind.i64.wrap (x - 1) = x - 1 := IntWalk.i64_in _ (by omega)
          refine wpAnyX_take [4] 7 rfl (by kernel_rfl) (by intro c a d v w h; cases d <;> exact h) (by kernel_rfl) (by kernel_rfl) (by kernel_rfl) (by simp; rfl) rfl (laterX_of HG.out) ?_
          repeat (go_big_quiet_step (fail))
          refine wpQuiet_nil ?_
          clear hw1
          refine wpAnyX_only 6 (by kernel_rfl) (by simp; rfl) rfl rfl (fun K hK => ?_)
          go_wp2_with fail
          refine (pick_any d (N + 4004) 4 _ hd HT.out.st (by omega) (by omega)).mono ?_
          rintro e V3 ⟨⟨y, rfl, y0, y1, y2⟩, hs, hg⟩
          clear y1
          replace HB := hide (HB.out.grown hg (fun e => by injection e with e; have := HBG.out; omega))
          replace HT : Hid (TwAt d w rb tb nd A c l (N + 4006) V3) := hide (HT.out.draw hs hg)
          replace HG := hide (grown_trans HG.out hg)
          clear hs hg
          go_wp2_with fail
          refine ⟨laterX_of HG.out, ?_⟩
          refine wpAnyX_only 9 (by kernel_rfl) (by simp; rfl) rfl rfl (fun K hK => ?_)
          go_wp2_with fail
          refine (among_any d (N + 4006) (some ⟨lb, 0, none⟩) 3 3 [60, 0, 3601] _ hd HT.out.st (by omega) rfl (by omega) (by omega) (by exact HB.out.rd) (fun b o sp e => by injection e with e; injection e with e; have := HBG.out; omega)).mono ?_
          rintro e V4 ⟨⟨z, rfl, -⟩, hs, hg⟩
          clear HB HBG
          replace HT : Hid (TwAt d w rb tb nd A c l (N + 4008) V4) := hide (HT.out.draw hs hg)
          replace HG := hide (grown_trans HG.out hg)
          clear hs hg
          go_wp2_with fail
          refine ⟨laterX_of HG.out, ?_⟩
          refine wpAnyX_take [10] 4 rfl (by kernel_rfl) (by intro c a d v w h; cases d <;> exact h) (by kernel_rfl) (by kernel_rfl) (by kernel_rfl) (by simp; rfl) rfl (laterX_of HG.out) ?_
          repeat (go_big_quiet_step (fail))
          refine wpQuiet_nil ?_
          refine wpAnyX_only 11 (by kernel_rfl) (by simp; rfl) rfl rfl (fun K hK => ?_)
          go_wp2_with fail
          have HS := hide (Row.new V4 #[.int .i64 (x - 1), .int .i64 y, .int .i64 z] 34)
          replace HT := hide (HT.out.alloc (.cells #[.int .i64 (x - 1), .int .i64 y, .int .i64 z] 34))
          replace HG := hide (grown_new HG.out (.cells #[.int .i64 (x - 1), .int .i64 y, .int .i64 z] 34))
          refine ⟨laterX_of HG.out, ?_⟩
          generalize V4.alloc (.cells #[.int .i64 (x - 1), .int .i64 y, .int .i64 z] 34) = V5 at *
          generalize V4.heap.size = sb at *
          refine wpAnyX_last 12 (by kernel_rfl) (by simp; rfl) rfl rfl (by kernel_rfl) (fun K hK => ?_)
          have hml : maxLen = 9223372036854775807 := rfl
          have HLE := hide (show l.length ≤ 40 from HL.out)
          refine wp_append_lies _ (.tmp 19) (.tmp 29) 28 rfl w.heap.size 34 i0 _ 3 24 Try.underlying28 Hi.out Hz.out.1 Hz.out.2.1 Hz.out.2.2 rfl (by decide) (.slice A l.length c) l.length (l.flatMap tcells) rfl HT.out.own ⟨sb, 0, none⟩ 1 1 (tcells (x - 1, y, z)) rfl rfl (fun j u hu => by rw [Addr.add_lit, Nat.zero_add]; exact HS.out.2.1 j u hu) (fun u hu => tcells_ones [(x - 1, y, z)] u (by simpa using hu)) (by omega) (by have := HLE.out; omega) (by have := HLE.out; omega) HT.out.gr.size V5.heap.size rfl (fun g' cap' V9 ho' hg' hw' hlt' => ?_)
          have HF := hide (HT.out.far hg')
          have HT9 := hide (HT.out.append hg' hw' ho')
          clear HS hml hg' hw' ho' hlt' HG
          refine hK _ _ ?_
          simp only [Act.put, List.setIfInBounds_toArray, List.set_cons_succ, List.set_cons_zero]
          refine wpAnyX_last 13 (by kernel_rfl) (by simp; rfl) rfl rfl (by kernel_rfl) (fun K hK => ?_)
          go_wp2_with fail
          refine wpAnyX_last 14 (by kernel_rfl) (by simp; rfl) rfl rfl (by kernel_rfl) (fun K hK => ?_)
          have t0 := HF.out.2.2.1 0 _ rfl
          have t1 := HF.out.2.2.1 1 _ rfl
          have f1 := HF.out.2.free 1
          have tz := HF.out.2.1
          go_wp2_with fail
          refine wpAnyX_done (by kernel_rfl) ?_ _
          clear t0 t1 f1 tz HF
          replace HT := HT9
          clear HT9
          have HLL := hide (show (l ++ [(x - 1, y, z)]).length ≤ 41 by have := HL.out; simp; omega)
          generalize V9.setCell ⟨tb, 1, none⟩ (.slice (some ⟨g', 0, none⟩) (l.length + 1) cap') = W9 at *
          generalize l ++ [(x - 1, y, z)] = LL at *
          have b0 := HT.out.box.2.1 0 _ rfl
          have b1 := HT.out.box.2.1 1 _ rfl
          have g0 := HT.out.box.free 0
          have g1 := HT.out.box.free 1
          have r0 := HT.out.res.2.1 0 _ rfl
          have r1 := HT.out.res.2.1 1 _ rfl
          have q0 := HT.out.res.free 0
          have q1 := HT.out.res.free 1
          have bz := HT.out.box.1
          have rz := HT.out.res.1
          have n1 : tb ≠ rb := by have := HT.out.ord; omega
          have n2 : rb ≠ tb := Ne.symm n1
          go_wp2
          exact bodyPost_ret (v := .agg #[.int .i64 nd, .slice (some ⟨g', 0, none⟩) LL.length cap']) (by simp [results, Try.results52, go_sem, *]) rfl (HT.out.done trivial HLL.out (by omega) _ _)
    · have h1' : (p == 1) = false := by simpa using h1
      by_cases h2 : p = 2
      · have h2' : (p == 2) = true := by simpa using h2
        clear h0 h1 h2 hp0 hp2
        have b0 := HT.out.box.2.1 0 _ rfl
        have b1 := HT.out.box.2.1 1 _ rfl
        have g0 := HT.out.box.free 0
        have g1 := HT.out.box.free 1
        have r0 := HT.out.res.2.1 0 _ rfl
        have r1 := HT.out.res.2.1 1 _ rfl
        have q0 := HT.out.res.free 0
        have q1 := HT.out.res.free 1
        have bz := HT.out.box.1
        have rz := HT.out.res.1
        have n1 : tb ≠ rb := by have := HT.out.ord; omega
        have n2 : rb ≠ tb := Ne.symm n1
        go_wp2_with fail
        clear b0 b1 g0 g1 r0 r1 q0 q1 bz rz n1 n2
        have HTN := hide ((HT.out.setN 14).setL (A' := none) (c' := 0) (l' := []) (World.ownsRow_nil _ _ _ _) (fun q hq => by cases hq))
        clear HT
        generalize (w4.setCell ⟨tb, 0, none⟩ (.int .i64 14)).setCell ⟨tb, 1, none⟩ (.slice none ([] : List StT).length 0) = w5 at *
        go_loopg [4] 4 (fun g t wr => ∃ (a : Nat) (A : Option Addr) (c : Nat) (l : List StT), t = .int .i64 (a : Int) ∧ a ≤ 4 ∧ Hid (4 ≤ g + a) ∧ Hid (l.length ≤ 41) ∧ Hid (TwAt d w rb tb 14 A c l (N + 4002 + 40 * a) wr))
        case atStart => exact ⟨0, none, 0, [], rfl, by omega, hide (by omega), hide (by simp), HTN⟩
        case round =>
          clear HTN HL
          obtain ⟨a, A, c, l, rfl, ha, HGK, HL, HT⟩ := hrel
          by_cases hlt : a < 4
          · have hlt' : ((a : Int) < 4) = True := by simp; omega
            go_wp2_with fail
            clear hlt'
            go_loopg [5] 14 (fun g t wr => ∃ (b : Nat) (A : Option Addr) (c : Nat) (l : List StT), t = .int .i64 (b : Int) ∧ b ≤ 14 ∧ Hid (14 ≤ g + b) ∧ Hid (l.length ≤ 41) ∧ Hid (TwAt d w rb tb 14 A c l (N + 4002 + 40 * a + 2 * b) wr))
            case atStart => exact ⟨a + 1, A, c, l, by go_num, by omega, hide (by omega), HL, hide (HT.out.more (by omega))⟩
            case round =>
              clear HT HL
              obtain ⟨b, A, c, l, rfl, hb, HGB, HL, HT⟩ := hrel
              have t0 := HT.out.box.2.1 0 _ rfl
              have t1 := HT.out.box.2.1 1 _ rfl
              have tz := HT.out.box.1
              have tg : tb ≠ d.g := by have := HT.out.ord; omega
              by_cases hlb : b < 14
              · have hlb' : ((b : Int) < 14) = True := by simp; omega
                go_wp2_with fail
                refine wpAnyS_start (fun w' => ∃ n : LaterX wr d.g, w' = n.w) (n := 11) (by kernel_rfl) rfl rfl ?_
                refine wpAnyS_take_allE [0, 1, 2, 3, 4, 5, 6] 4 rfl (by kernel_rfl) (by intro c a d v w h; cases d <;> exact h) (by kernel_rfl) (by simp; rfl) rfl (laterX_drew _ _) ?_
                repeat (go_big_quiet_step (fail))
                refine wpQuiet_nil ?_
                have HG : Hid (wr.grownBy wr.drew (some d.g)) := hide (grown_of_below (Below.refl _ _).drew _)
                replace HT := hide HT.out.drew
                clear t0 t1 tz tg hlb'
                generalize wr.drew = V0 at *
                refine wpAnyS_want 7 (by kernel_rfl) (by simp; rfl) rfl (by first | rfl | simp [Region.wanted, yielded]) (fun K hK => ?_)
                go_wp2_with fail
                refine (pick_any d (N + 4002 + 40 * a + 2 * b) 2 _ hd HT.out.st (by omega) (by omega)).mono ?_
                rintro e V1 ⟨⟨y, rfl, y0, y1, y2⟩, hs, hg⟩
                replace HT : Hid (TwAt d w rb tb 14 A c l (N + 4002 + 40 * a + 2 * b + 2) V1) := hide (HT.out.draw hs hg)
                replace HG := hide (grown_trans HG.out hg)
                have y3 : y ≤ 1 := by omega
                clear hs hg y1
                go_wp2_with fail
                refine ⟨laterX_of HG.out, ?_⟩
                have hw1 : IntKind.i64.wrap (40 + y) = 40 + y := IntWalk.i64_in _ (by omega)
                refine wpAnyS_take_allE [8, 9, 10] 0 rfl (by kernel_rfl) (by intro c a d v w h; cases d <;> exact h) (by kernel_rfl) (by simp; rfl) rfl (laterX_of HG.out) ?_
                repeat (go_big_quiet_step (fail))
                refine wpQuiet_nil ?_
                refine wpAnyH_done (by kernel_rfl) ?_ _
                clear HG hw1
                by_cases hc : (l.length : Int) < 40 + y
                · have hcd : decide ((l.length : Int) < 40 + y) = true := by simpa using hc
                  have HL40 := hide (show l.length ≤ 40 by omega)
                  have HTA := hide (HT.out.alloc (.cells #[.int .i64 (a : Int), .int .i64 (b : Int), .int .i64 60] 34))
                  have HSB := hide (Row.new V1 #[.int .i64 (a : Int), .int .i64 (b : Int), .int .i64 60] 34)
                  have hml : maxLen = 9223372036854775807 := rfl
                  have t0 := HT.out.box.2.1 0 _ rfl
                  have t1 := HT.out.box.2.1 1 _ rfl
                  have tz := HT.out.box.1
                  have tf := HT.out.box.free 1
                  go_wp2_with (at_builtin; refine wpList_append_lies _ rfl (.tmp 56) (.tmp 60) 28 rfl w.heap.size 34 i0 _ 3 24 Try.underlying28 Hi.out Hz.out.1 Hz.out.2.1 Hz.out.2.2 rfl (by decide) (.slice A l.length c) l.length (l.flatMap tcells) rfl HTA.out.own ⟨V1.heap.size, 0, none⟩ 1 1 (tcells ((a : Int), (b : Int), 60)) rfl rfl (fun j u hu => by rw [Addr.add_lit, Nat.zero_add]; exact HSB.out.2.1 j u hu) (fun u hu => tcells_ones [((a : Int), (b : Int), 60)] u (by simpa using hu)) (by omega) (by have := HL40.out; omega) (by have := HL40.out; omega) HTA.out.gr.size _ rfl ?_)
                  intro g' cap' V9 ho' hg' hw' hlt'
                  have HF := hide (HTA.out.far hg')
                  have HT9 := hide (HTA.out.append hg' (hw'.imp id (fun e => by rw [e]; simp)) ho')
                  have HL9 := hide (show (l ++ [((a : Int), (b : Int), (60 : Int))]).length ≤ 41 by have := HL40.out; simp; omega)
                  clear t0 t1 tz tf hml hg' hw' ho' hlt' HSB HTA hc hcd
                  have t0 := HF.out.2.2.1 0 _ rfl
                  have t1 := HF.out.2.2.1 1 _ rfl
                  have tf := HF.out.2.free 1
                  have tz := HF.out.2.1
                  go_wp2
                  go_roundg (gk - 1)
                  case rel => exact ⟨b + 1, _, cap', _, by go_num, by omega, hide (by have := HGB.out; omega), HL9, hide (HT9.out.more (by omega))⟩
                  case measure => have := HGB.out; omega
                · have hcd : decide ((l.length : Int) < 40 + y) = false := by simpa using hc
                  go_wp2
                  go_roundg (3 - a)
                  case rel => exact ⟨a + 1, A, c, l, by go_num, by omega, hide (by omega), HL, hide (HT.out.more (by omega))⟩
                  case measure => have := HGK.out; omega
              · have hlb' : ((b : Int) < 14) = False := by simp; omega
                go_wp2_with fail
                refine wpAnyS_start (fun w' => ∃ n : LaterX wr d.g, w' = n.w) (n := 11) (by kernel_rfl) rfl rfl ?_
                refine wpAnyS_take_allE [0, 1, 2, 3, 4, 5, 6] 4 rfl (by kernel_rfl) (by intro c a d v w h; cases d <;> exact h) (by kernel_rfl) (by simp; rfl) rfl (laterX_drew _ _) ?_
                repeat (go_big_quiet_step (fail))
                refine wpQuiet_nil ?_
                replace HT := hide HT.out.drew
                have HG : Hid (wr.grownBy wr.drew (some d.g)) := hide (grown_of_below (Below.refl _ _).drew _)
                clear t0 t1 tz tg
                generalize wr.drew = V0 at *
                refine wpAnyS_skip 7 (by kernel_rfl) (by simp; rfl) rfl (by first | rfl | simp [Region.wanted, yielded]) (laterX_of HG.out) ?_
                simp only [Act.put, List.setIfInBounds_toArray, List.set_cons_succ, List.set_cons_zero]
                refine wpAnyS_take_allE [8, 9, 10] 0 rfl (by kernel_rfl) (by intro c a d v w h; cases d <;> exact h) (by kernel_rfl) (by simp; rfl) rfl (laterX_of HG.out) ?_
                repeat (go_big_quiet_step (fail))
                refine wpQuiet_nil ?_
                refine wpAnyH_done (by kernel_rfl) ?_ _
                clear HG
                go_wp2
                go_roundg (3 - a)
                case rel => exact ⟨a + 1, A, c, l, by go_num, by omega, hide (by omega), HL, hide (HT.out.more (by omega))⟩
                case measure => have := HGK.out; omega
          · have hlt' : ((a : Int) < 4) = False := by simp; omega
            have b0 := HT.out.box.2.1 0 _ rfl
            have b1 := HT.out.box.2.1 1 _ rfl
            have g0 := HT.out.box.free 0
            have g1 := HT.out.box.free 1
            have r0 := HT.out.res.2.1 0 _ rfl
            have r1 := HT.out.res.2.1 1 _ rfl
            have q0 := HT.out.res.free 0
            have q1 := HT.out.res.free 1
            have bz := HT.out.box.1
            have rz := HT.out.res.1
            have n1 : tb ≠ rb := by have := HT.out.ord; omega
            have n2 : rb ≠ tb := Ne.symm n1
            go_wp2
            exact bodyPost_ret (v := .agg #[.int .i64 14, .slice A l.length c]) (by simp [results, Try.results52, go_sem, *]) rfl (HT.out.done trivial HL.out (by omega) _ _)
      · have h2' : (p == 2) = false := by simpa using h2
        have b0 := HT.out.box.2.1 0 _ rfl
        have b1 := HT.out.box.2.1 1 _ rfl
        have g0 := HT.out.box.free 0
        have g1 := HT.out.box.free 1
        have r0 := HT.out.res.2.1 0 _ rfl
        have r1 := HT.out.res.2.1 1 _ rfl
        have q0 := HT.out.res.free 0
        have q1 := HT.out.res.free 1
        have bz := HT.out.box.1
        have rz := HT.out.res.1
        have n1 : tb ≠ rb := by have := HT.out.ord; omega
        have n2 : rb ≠ tb := Ne.symm n1
        go_wp2
        exact bodyPost_ret (v := .agg #[.int .i64 nd, .slice A l.length c]) (by simp [results, Try.results52, go_sem, *]) rfl (HT.out.done trivial (Nat.le_trans HL.out (by omega)) (by omega) _ _)
end Go.Proofs.Ytbkhejkncmgdeaa

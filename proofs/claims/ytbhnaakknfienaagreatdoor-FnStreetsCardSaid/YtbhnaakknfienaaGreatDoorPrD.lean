/- Several texts in one. A list of integers written out in a call, made in a region that draws its order. Draws of towns: a valid one. Draws of towns: a node. Draws of towns: any. Draws of towns: the arguments of TravelTime and RouteBetween. Draws of towns: what is known while the arguments of RouteTime are drawn. Draws of towns: the arguments of CloseStreet. Draws of towns: the arguments of AddStreet. Draws of towns: the arguments of NearestOf. Draws of towns: a town alone. Draws: a text with one or two edits. Draws of towns: a text to read. -/
import Derived.Test.YtbhnaakknfienaaGreatDoorDrawA
import Derived.Test.YtbhnaakknfienaaGreatDoorRegX
import Derived.Test.YtbhnaakknfienaaGreatDoorDrawTM
import Derived.Test.YtbhnaakknfienaaGreatDoorAstA
import Derived.Test.YtbhnaakknfienaaGreatDoorPrA
import Derived.IntWalk
import Derived.Deep.DeepCutAuto
import Derived.Deep.CutBlock
import Derived.Deep.LoopGhost
import Derived.BigRegion
import Derived.Laws.IdiomStrings
namespace Go.Proofs.YtbhnaakknfienaaGreatDoor
open Go.RowKit
set_option linter.unusedVariables false

theorem wp_of_run {P : Program} {Q : Exit → Act → World → Prop} {o : Oper} {a : Act} {w w' : World} {K : Act → World → Prop} {v : Value} (hrun : (execOp a.eval o).run P w = .ok (.value v) w') (h : K (a.put o.dst v) w') : Oper.wp P o a w K Q := by
  unfold Oper.wp
  rw [hrun]
  exact h
theorem run_ints3 (a b c : Int) (w : World) : (Instr.buildSlice 43 3 #[(0, .int .i64 a), (1, .int .i64 b), (2, .int .i64 c)]).run Tryz.prog w = .ok (.slice (some ⟨w.heap.size, 0, none⟩) 3 3) (w.alloc (.cells #[.int .i64 a, .int .i64 b, .int .i64 c] 3)) := by kernel_rfl
theorem wp_ints3 {Q : Exit → Act → World → Prop} {o : Oper} {ac : Act} {w : World} {K : Act → World → Prop} (a b c : Int) (x0 x1 x2 : Operand) (ho : o.op = .buildSlice 43 3 #[(0, x0), (1, x1), (2, x2)]) (e0 : ac.eval x0 = .int .i64 a) (e1 : ac.eval x1 = .int .i64 b) (e2 : ac.eval x2 = .int .i64 c) (h : K (ac.put o.dst (.slice (some ⟨w.heap.size, 0, none⟩) 3 3)) (w.alloc (.cells #[.int .i64 a, .int .i64 b, .int .i64 c] 3))) : Oper.wp Tryz.prog o ac w K Q := by
  refine wp_of_run ?_ h
  have := run_ints3 a b c w
  unfold execOp
  simp only [ho, List.map_toArray, List.map_cons, List.map_nil, e0, e1, e2, Sem.run_bind, this, Result.andThen_ok, Sem.run_pure]
theorem run_ints5 (a b c d e : Int) (w : World) : (Instr.buildSlice 43 5 #[(0, .int .i64 a), (1, .int .i64 b), (2, .int .i64 c), (3, .int .i64 d), (4, .int .i64 e)]).run Tryz.prog w = .ok (.slice (some ⟨w.heap.size, 0, none⟩) 5 5) (w.alloc (.cells #[.int .i64 a, .int .i64 b, .int .i64 c, .int .i64 d, .int .i64 e] 3)) := by kernel_rfl
theorem wp_ints5 {Q : Exit → Act → World → Prop} {o : Oper} {ac : Act} {w : World} {K : Act → World → Prop} (a b c d e : Int) (x0 x1 x2 x3 x4 : Operand) (ho : o.op = .buildSlice 43 5 #[(0, x0), (1, x1), (2, x2), (3, x3), (4, x4)]) (e0 : ac.eval x0 = .int .i64 a) (e1 : ac.eval x1 = .int .i64 b) (e2 : ac.eval x2 = .int .i64 c) (e3 : ac.eval x3 = .int .i64 d) (e4 : ac.eval x4 = .int .i64 e) (h : K (ac.put o.dst (.slice (some ⟨w.heap.size, 0, none⟩) 5 5)) (w.alloc (.cells #[.int .i64 a, .int .i64 b, .int .i64 c, .int .i64 d, .int .i64 e] 3))) : Oper.wp Tryz.prog o ac w K Q := by
  refine wp_of_run ?_ h
  have := run_ints5 a b c d e w
  unfold execOp
  simp only [ho, List.map_toArray, List.map_cons, List.map_nil, e0, e1, e2, e3, e4, Sem.run_bind, this, Result.andThen_ok, Sem.run_pure]
theorem run_ints6 (a b c d e f : Int) (w : World) : (Instr.buildSlice 43 6 #[(0, .int .i64 a), (1, .int .i64 b), (2, .int .i64 c), (3, .int .i64 d), (4, .int .i64 e), (5, .int .i64 f)]).run Tryz.prog w = .ok (.slice (some ⟨w.heap.size, 0, none⟩) 6 6) (w.alloc (.cells #[.int .i64 a, .int .i64 b, .int .i64 c, .int .i64 d, .int .i64 e, .int .i64 f] 3)) := by kernel_rfl
theorem wp_ints6 {Q : Exit → Act → World → Prop} {o : Oper} {ac : Act} {w : World} {K : Act → World → Prop} (a b c d e f : Int) (x0 x1 x2 x3 x4 x5 : Operand) (ho : o.op = .buildSlice 43 6 #[(0, x0), (1, x1), (2, x2), (3, x3), (4, x4), (5, x5)]) (e0 : ac.eval x0 = .int .i64 a) (e1 : ac.eval x1 = .int .i64 b) (e2 : ac.eval x2 = .int .i64 c) (e3 : ac.eval x3 = .int .i64 d) (e4 : ac.eval x4 = .int .i64 e) (e5 : ac.eval x5 = .int .i64 f) (h : K (ac.put o.dst (.slice (some ⟨w.heap.size, 0, none⟩) 6 6)) (w.alloc (.cells #[.int .i64 a, .int .i64 b, .int .i64 c, .int .i64 d, .int .i64 e, .int .i64 f] 3))) : Oper.wp Tryz.prog o ac w K Q := by
  refine wp_of_run ?_ h
  have := run_ints6 a b c d e f w
  unfold execOp
  simp only [ho, List.map_toArray, List.map_cons, List.map_nil, e0, e1, e2, e3, e4, e5, Sem.run_bind, this, Result.andThen_ok, Sem.run_pure]
end Go.Proofs.YtbhnaakknfienaaGreatDoor
namespace Go.Proofs.YtbhnaakknfienaaGreatDoor
open Go.RowKit
set_option linter.unusedVariables false

set_option maxRecDepth 100000 in
set_option maxHeartbeats 16000000 in
theorem town_any (d : Drw) (N : Nat) (w : World) (hd : d.ok) (h : d.st N w) (hN : N ≤ 10000000000) :
    Calls Tryz.prog 64 #[.pointer (some ⟨d.g, 0, none⟩)] w (DrwTown d (N + 4000) 40 (fun nd l => townB nd l = true) w) := by
  have H := hide h
  have HD := hide (show d.g < w.heap.size ∧ d.W0.heap.size ≤ d.g from ⟨h.lt, hd.2.2.2.2⟩)
  clear h
  go_enter Tryz.func64, Tryz.ntmps64
  go_wp2_with fail
  have HR := hide (Row.new w #[.int .i64 0, .slice none 0 0] 26)
  refine (pick_any d N 8 _ hd (H.out.alloc _) (by omega) (by omega)).mono ?_
  rintro e w1 ⟨⟨p, rfl, hp0, hp1, hp2⟩, hs, hg⟩
  replace HR := hide (HR.out.grown hg (fun e => by injection e with e; have := HD.out; omega))
  have HS := hide hs
  have HG := hide (grown_trans (grown_of_below ((Below.refl _ _).alloc (Nat.le_refl _) (.cells #[.int .i64 0, .slice none 0 0] 26)) _) hg)
  have hp7 : p ≤ 7 := by omega
  clear hs hg hp1 hp2 H
  obtain ⟨nd0, hq⟩ := Int.eq_ofNat_of_zero_le (show 0 ≤ 1 + p by omega)
  have HQ0 := hide hq
  have h1 : 1 ≤ nd0 := by omega
  have h14 : nd0 ≤ 14 := by omega
  clear hq
  go_wp2_with fail
  rw [HQ0.out]
  clear hp7 hp0 HQ0
  have HB := hide (Row.new w1 #[.int .i64 (nd0 : Int), .slice none 0 0] 26)
  have HT : Hid (TwAt d w w.heap.size w1.heap.size (nd0 : Int) none 0 [] (N + 2) (w1.alloc (.cells #[.int .i64 (nd0 : Int), .slice none 0 0] 26))) := hide ⟨HD.out.2, HS.out.alloc _, grown_new HG.out _, HR.out.alloc _, HB.out, World.ownsRow_nil _ _ _ _, ⟨HD.out.1, Nat.le_refl _, HR.out.1⟩, fun q hq => by cases hq⟩
  clear HR HS HG HB HD
  generalize w1.alloc (.cells #[.int .i64 (nd0 : Int), .slice none 0 0] 26) = w2 at *
  generalize w1.heap.size = tb at *
  obtain ⟨rb, hrb⟩ : ∃ rb, rb = w.heap.size := ⟨_, rfl⟩
  rw [← hrb] at HT ⊢
  clear hrb
  refine (one_any d (N + 2) 12 _ hd HT.out.st (by omega) (by omega)).mono ?_
  rintro e w3 ⟨⟨b, rfl⟩, hs, hg⟩
  replace HT := hide (HT.out.draw hs hg)
  clear hs hg
  go_upto_if 15 with fail
  go_cut [] (fun wx => ∃ nd : Nat, 1 ≤ nd ∧ nd ≤ 14 ∧ Hid (TwAt d w rb tb (nd : Int) none 0 [] (N + 2 + 2) wx))
  case first =>
    cases b with
    | false =>
      go_wp2_with fail
      go_meet
      exact ⟨nd0, h1, h14, HT⟩
    | true =>
      have t0 := HT.out.box.2.1 0 _ rfl
      have f0 := HT.out.box.free 0
      have tz := HT.out.box.1
      go_wp2_with fail
      go_meet
      exact ⟨14, by omega, by omega, hide (HT.out.setN 14)⟩
  clear HT h1 h14
  obtain ⟨nd, h1, h14, HT⟩ := hcut
  go_wp2_with fail
  go_loopg [4] 14 (fun g t wr => ∃ (k : Nat) (A : Option Addr) (c : Nat) (l : List StT), t = .int .i64 (k : Int) ∧ k ≤ nd ∧ Hid (nd ≤ g + k) ∧ Hid (townB (nd : Int) l = true) ∧ Hid (TwAt d w rb tb (nd : Int) A c l (N + 4 + 8 * k) wr))
  case atStart => exact ⟨1, none, 0, [], rfl, h1, hide (by omega), hide (townB_nil h1 h14), hide (HT.out.more (by omega))⟩
  case round =>
    clear HT
    obtain ⟨k, A, c, l, rfl, hk, HGK, HLE, HT⟩ := hrel
    have t0 := HT.out.box.2.1 0 _ rfl
    have tz := HT.out.box.1
    by_cases hlt : k < nd
    · go_wp2_with fail
      refine (one_any d (N + 4 + 8 * k) 20 wr hd HT.out.st (by omega) (by omega)).mono ?_
      rintro e w5 ⟨⟨b, rfl⟩, hs, hg⟩
      replace HT := hide (HT.out.draw hs hg)
      clear hs hg t0 tz
      cases b with
      | true =>
        go_wp2
        go_roundg (gk - 1)
        case rel => exact ⟨k + 1, A, c, l, by go_num, by omega, hide (by have := HGK.out; omega), HLE, hide (HT.out.more (by omega))⟩
        case measure => have := HGK.out; omega
      | false =>
        go_upto_region 8 with fail
        go_cut [5, 6] (fun sa sb wx => ∃ (nb : Nat) (AA : Option Addr) (kk : Nat) (LL : List StT) (bb : Bool) (nn : Int), sa = .pointer (some ⟨nb, 0, none⟩) ∧ sb = .bool bb ∧ Hid (Row wx nb [.int .i64 nn, .slice AA LL.length kk]) ∧ Hid (wx.ownsRow w.heap.size 39 3 (.slice AA LL.length kk) LL.length (LL.flatMap tcells)) ∧ Hid (bb = true → nn = (nd : Int) ∧ townB (nd : Int) LL = true) ∧ Hid (∀ q, (Value.slice AA LL.length kk).ownBlock = some q → q ≠ rb ∧ q ≠ tb) ∧ Hid (TwAt d w rb tb (nd : Int) A c l (N + 4 + 8 * k + 2 + 6) wx))
        case first => as_aux_lemma =>
          have t0 := HT.out.box.2.1 0 _ rfl
          have t1 := HT.out.box.2.1 1 _ rfl
          have tz := HT.out.box.1
          have tg : tb ≠ d.g := by have := HT.out.ord; omega
          go_wp2_with fail
          refine wpAnyS_start (fun w' => ∃ n : LaterX w5 d.g, w' = n.w) (n := 19) (by kernel_rfl) rfl rfl ?_
          refine wpAnyS_take_allE [0, 1, 2, 4, 5, 6] 13 rfl (by kernel_rfl) (by intro c a d v w h; cases d <;> exact h) (by kernel_rfl) (by simp; rfl) rfl (laterX_drew _ _) ?_
          repeat (go_big_quiet_step (fail))
          refine wpQuiet_nil ?_
          have HG : Hid (w5.grownBy w5.drew (some d.g)) := hide (grown_of_below (Below.refl _ _).drew _)
          replace HT := hide HT.out.drew
          clear t0 t1 tz tg
          generalize w5.drew = V0 at *
          refine wpAnyS_two 3 16 (by kernel_rfl) (by simp; rfl) (by simp; rfl) rfl rfl rfl rfl (fun K hK => ?_) (fun K hK => ?_)
          · go_wp2_with fail
            refine (pick_any d (N + 4 + 8 * k + 2 + 0) (k : Int) _ hd HT.out.st (by omega) (by omega)).mono ?_
            rintro e V1 ⟨⟨x, rfl, x0, x1, x2⟩, hs, hg⟩
            clear x1
            replace HT : Hid (TwAt d w rb tb (nd : Int) A c l (N + 4 + 8 * k + 2 + 2) V1) := hide (HT.out.draw hs hg)
            replace HG := hide (grown_trans HG.out hg)
            clear hs hg
            go_wp2_with fail
            refine ⟨laterX_of HG.out, ?_⟩
            refine wpAnyS_two 7 16 (by kernel_rfl) (by simp; rfl) (by simp; rfl) rfl rfl rfl rfl (fun K hK => ?_) (fun K hK => ?_)
            · go_wp2_with fail
              refine (pick_any d (N + 4 + 8 * k + 2 + 2) 200 _ hd HT.out.st (by omega) (by omega)).mono ?_
              rintro e V2 ⟨⟨y, rfl, y0, y1, y2⟩, hs, hg⟩
              clear y1
              replace HT : Hid (TwAt d w rb tb (nd : Int) A c l (N + 4 + 8 * k + 2 + 4) V2) := hide (HT.out.draw hs hg)
              replace HG := hide (grown_trans HG.out hg)
              clear hs hg
              go_wp2_with fail
              refine ⟨laterX_of HG.out, ?_⟩
              have hw1 : IntKind.i64.wrap (1 + y) = 1 + y := IntWalk.i64_in _ (by omega)
              refine wpAnyS_take_allE [8] 10 rfl (by kernel_rfl) (by intro c a d v w h; cases d <;> exact h) (by kernel_rfl) (by simp; rfl) rfl (laterX_of HG.out) ?_
              repeat (go_big_quiet_step (fail))
              refine wpQuiet_nil ?_
              clear hw1
              refine wpAnyS_two 9 16 (by kernel_rfl) (by simp; rfl) (by simp; rfl) rfl rfl rfl rfl (fun K hK => ?_) (fun K hK => ?_)
              · have HB := hide (Row.new V2 #[.int .i64 (30), .int .i64 (60), .int .i64 (90), .int .i64 (120), .int .i64 (1 + y)] 3)
                have HBG : Hid (V2.heap.size ≠ d.g) := hide (by have := HT.out.st.lt; omega)
                replace HT := hide (HT.out.alloc (.cells #[.int .i64 30, .int .i64 60, .int .i64 90, .int .i64 120, .int .i64 (1 + y)] 3))
                replace HG := hide (grown_new HG.out (.cells #[.int .i64 30, .int .i64 60, .int .i64 90, .int .i64 120, .int .i64 (1 + y)] 3))
                refine wp_ints5 (30) (60) (90) (120) (1 + y) (.const (.int .i64 30)) (.const (.int .i64 60)) (.const (.int .i64 90)) (.const (.int .i64 120)) (.tmp 34) rfl rfl rfl rfl rfl rfl (hK _ _ ⟨laterX_of HG.out, ?_⟩)
                simp only [Act.put, List.setIfInBounds_toArray, List.set_cons_succ, List.set_cons_zero]
                generalize V2.alloc (.cells #[.int .i64 30, .int .i64 60, .int .i64 90, .int .i64 120, .int .i64 (1 + y)] 3) = V3 at *
                generalize V2.heap.size = lb at *
                refine wpAnyS_two 10 16 (by kernel_rfl) (by simp; rfl) (by simp; rfl) rfl rfl rfl rfl (fun K hK => ?_) (fun K hK => ?_)
                · go_wp2_with fail
                  refine (among_any d (N + 4 + 8 * k + 2 + 4) (some ⟨lb, 0, none⟩) 5 5 [30, 60, 90, 120, 1 + y] _ hd HT.out.st (by omega) rfl (by omega) (by omega) (by exact HB.out.rd) (fun b o sp e => by injection e with e; injection e with e; have := HBG.out; omega)).mono ?_
                  rintro e V4 ⟨⟨z, rfl, -⟩, hs, hg⟩
                  clear HB HBG
                  replace HT : Hid (TwAt d w rb tb (nd : Int) A c l (N + 4 + 8 * k + 2 + 6) V4) := hide (HT.out.draw hs hg)
                  replace HG := hide (grown_trans HG.out hg)
                  clear hs hg
                  go_wp2_with fail
                  refine ⟨laterX_of HG.out, ?_⟩
                  refine wpAnyS_take_allE [11] 7 rfl (by kernel_rfl) (by intro c a d v w h; cases d <;> exact h) (by kernel_rfl) (by simp; rfl) rfl (laterX_of HG.out) ?_
                  repeat (go_big_quiet_step (fail))
                  refine wpQuiet_nil ?_
                  refine wpAnyS_two 12 16 (by kernel_rfl) (by simp; rfl) (by simp; rfl) rfl rfl rfl rfl (fun K hK => ?_) (fun K hK => ?_)
                  · go_wp2_with fail
                    obtain ⟨p1, p2, p3, p4⟩ := own_pre HT.out.own
                    have HP := hide (And.intro p1 (And.intro p2 (And.intro p3 p4)))
                    clear p1 p2 p3 p4
                    refine (specAddStreet_all (nd : Int) A l.length c l x (k : Int) z _ rfl HP.out.1 HP.out.2.1 HP.out.2.2.1 HP.out.2.2.2).mono ?_
                    rintro e V5 ⟨⟨v', rfl, ho⟩, hq⟩
                    have HAB := hide (fun h => ads_town (nd := (nd : Int)) (l := l) (s := (x, (k : Int), z)) h)
                    have HQ0 : Hid (∀ q, v'.ownBlock = some q → q ≠ rb ∧ q ≠ tb ∧ (V4.heap.size ≤ q ∧ q < V5.heap.size)) := hide (fun q hq => by have h1 := ho.lt q hq; have h2 := HT.out.res.1; have h3 := HT.out.box.1; refine ⟨by omega, by omega, h1⟩)
                    have HO := hide (own_le ho HT.out.gr.size)
                    clear ho HP
                    replace HT := hide (HT.out.below hq)
                    replace HG := hide (grown_trans HG.out (grown_of_below hq _))
                    clear hq
                    generalize adsL (nd : Int) l (x, (k : Int), z) = LL at *
                    generalize adsOk (nd : Int) l (x, (k : Int), z) = bb at *
                    generalize adsN (nd : Int) l (x, (k : Int), z) = nn at *
                    obtain ⟨AA, kk, hv, -⟩ := own_open HO.out
                    subst hv
                    go_wp2_with fail
                    refine ⟨laterX_of HG.out, ?_⟩
                    refine wpAnyS_take_allE [13, 14, 15] 3 rfl (by kernel_rfl) (by intro c a d v w h; cases d <;> exact h) (by kernel_rfl) (by simp; rfl) rfl (laterX_of HG.out) ?_
                    repeat (go_big_quiet_step (fail))
                    refine wpQuiet_nil ?_
                    refine wpAnyS_only 16 (by kernel_rfl) (by simp; rfl) rfl rfl (fun K hK => ?_)
                    go_wp2_with fail
                    have HN := hide (Row.new V5 #[.int .i64 0, .slice none 0 0] 26)
                    have HNO : Hid (w.heap.size ≤ V5.heap.size ∧ V5.heap.size ≠ rb ∧ V5.heap.size ≠ tb ∧ ∀ q, (Value.slice A l.length c).ownBlock = some q → q ≠ V5.heap.size) := hide ⟨HT.out.gr.size, by have := HT.out.res.1; omega, by have := HT.out.box.1; omega, fun q hq => by have := (HT.out.own.lt q hq).2; omega⟩
                    have HNG : Hid (V5.heap.size ≠ d.g) := hide (by have := HT.out.st.lt; omega)
                    have HNW : Hid (w5.heap.size ≤ V5.heap.size) := hide HG.out.size
                    replace HO := hide (World.ownsRow.alloc HO.out (.cells #[.int .i64 0, .slice none 0 0] 26))
                    have HQ : Hid (∀ q, (Value.slice AA LL.length kk).ownBlock = some q → q ≠ rb ∧ q ≠ tb ∧ q ≠ V5.heap.size) := hide (fun q hq => ⟨(HQ0.out q hq).1, (HQ0.out q hq).2.1, by have := (HQ0.out q hq).2.2; omega⟩)
                    replace HT := hide (HT.out.alloc (.cells #[.int .i64 0, .slice none 0 0] 26))
                    replace HG := hide (grown_new HG.out (.cells #[.int .i64 0, .slice none 0 0] 26))
                    have HNL : Hid (V5.heap.size < (V5.alloc (.cells #[.int .i64 0, .slice none 0 0] 26)).heap.size) := hide (by simp)
                    refine ⟨laterX_of HG.out, ?_⟩
                    generalize V5.alloc (.cells #[.int .i64 0, .slice none 0 0] 26) = V6 at *
                    generalize V5.heap.size = nb at *
                    refine wpAnyS_only 17 (by kernel_rfl) (by simp; rfl) rfl rfl (fun K hK => ?_)
                    have u0 := HN.out.2.1 0 _ rfl
                    have u1 := HN.out.2.1 1 _ rfl
                    have f0 := HN.out.free 0
                    have f1 := HN.out.free 1
                    have nz := HN.out.1
                    have HN9 := hide ((HN.out.set (k := 0) (by simp) (.int .i64 nn)).set (k := 1) (by simp) (.slice AA LL.length kk))
                    have HO9 := hide (own_put (p := ⟨nb, 1, none⟩) (own_put (p := ⟨nb, 0, none⟩) HO.out (fun q hq => (HQ.out q hq).2.2) (.int .i64 nn)) (fun q hq => (HQ.out q hq).2.2) (.slice AA LL.length kk))
                    have HT9 := hide ((HT.out.put (p := ⟨nb, 0, none⟩) HNO.out.1 HNO.out.2.1 HNO.out.2.2.1 HNO.out.2.2.2 (.int .i64 nn)).put (p := ⟨nb, 1, none⟩) HNO.out.1 HNO.out.2.1 HNO.out.2.2.1 HNO.out.2.2.2 (.slice AA LL.length kk))
                    have HG9 := hide (grown_put (grown_put HG.out (p := ⟨nb, 0, none⟩) HNW.out (.int .i64 nn)) (p := ⟨nb, 1, none⟩) HNW.out (.slice AA LL.length kk))
                    go_wp2_with fail
                    refine ⟨laterX_of HG9.out, ?_⟩
                    clear u0 u1 f0 f1 nz HG
                    have HG := HG9
                    refine wpAnyS_take_allE [18] 0 rfl (by kernel_rfl) (by intro c a d v w h; cases d <;> exact h) (by kernel_rfl) (by simp; rfl) rfl (laterX_of HG.out) ?_
                    repeat (go_big_quiet_step (fail))
                    refine wpQuiet_nil ?_
                    refine wpAnyH_done (by kernel_rfl) ?_ _
                    go_wp2_with fail
                    go_meet
                    exact ⟨nb, AA, kk, LL, bb, nn, rfl, rfl, HN9, HO9, HAB, hide (fun q hq => ⟨(HQ.out q hq).1, (HQ.out q hq).2.1⟩), HT9⟩
                  · go_wp2_with fail
                    have HN := hide (Row.new V4 #[.int .i64 0, .slice none 0 0] 26)
                    have HNO : Hid (w.heap.size ≤ V4.heap.size ∧ V4.heap.size ≠ rb ∧ V4.heap.size ≠ tb ∧ ∀ q, (Value.slice A l.length c).ownBlock = some q → q ≠ V4.heap.size) := hide ⟨HT.out.gr.size, by have := HT.out.res.1; omega, by have := HT.out.box.1; omega, fun q hq => by have := (HT.out.own.lt q hq).2; omega⟩
                    have HNG : Hid (V4.heap.size ≠ d.g) := hide (by have := HT.out.st.lt; omega)
                    have HNW : Hid (w5.heap.size ≤ V4.heap.size) := hide HG.out.size
                    replace HT := hide (HT.out.alloc (.cells #[.int .i64 0, .slice none 0 0] 26))
                    replace HG := hide (grown_new HG.out (.cells #[.int .i64 0, .slice none 0 0] 26))
                    have HNL : Hid (V4.heap.size < (V4.alloc (.cells #[.int .i64 0, .slice none 0 0] 26)).heap.size) := hide (by simp)
                    refine ⟨laterX_of HG.out, ?_⟩
                    generalize V4.alloc (.cells #[.int .i64 0, .slice none 0 0] 26) = V5 at *
                    generalize V4.heap.size = nb at *
                    refine wpAnyS_only 12 (by kernel_rfl) (by simp; rfl) rfl rfl (fun K hK => ?_)
                    go_wp2_with fail
                    obtain ⟨p1, p2, p3, p4⟩ := own_pre HT.out.own
                    have HP := hide (And.intro p1 (And.intro p2 (And.intro p3 p4)))
                    clear p1 p2 p3 p4
                    refine (specAddStreet_all (nd : Int) A l.length c l x (k : Int) z _ rfl HP.out.1 HP.out.2.1 HP.out.2.2.1 HP.out.2.2.2).mono ?_
                    rintro e V6 ⟨⟨v', rfl, ho⟩, hq⟩
                    have HAB := hide (fun h => ads_town (nd := (nd : Int)) (l := l) (s := (x, (k : Int), z)) h)
                    have HQ0 : Hid (∀ q, v'.ownBlock = some q → q ≠ rb ∧ q ≠ tb ∧ (V5.heap.size ≤ q ∧ q < V6.heap.size)) := hide (fun q hq => by have h1 := ho.lt q hq; have h2 := HT.out.res.1; have h3 := HT.out.box.1; refine ⟨by omega, by omega, h1⟩)
                    have HO := hide (own_le ho HT.out.gr.size)
                    clear ho HP
                    replace HN := hide (HN.out.below hq)
                    have HQ : Hid (∀ q, v'.ownBlock = some q → q ≠ rb ∧ q ≠ tb ∧ q ≠ nb) := hide (fun q hq => ⟨(HQ0.out q hq).1, (HQ0.out q hq).2.1, by have := (HQ0.out q hq).2.2; have := HNL.out; omega⟩)
                    clear HQ0
                    replace HNL := hide (Nat.lt_of_lt_of_le HNL.out hq.size)
                    replace HT := hide (HT.out.below hq)
                    replace HG := hide (grown_trans HG.out (grown_of_below hq _))
                    clear hq
                    generalize adsL (nd : Int) l (x, (k : Int), z) = LL at *
                    generalize adsOk (nd : Int) l (x, (k : Int), z) = bb at *
                    generalize adsN (nd : Int) l (x, (k : Int), z) = nn at *
                    obtain ⟨AA, kk, hv, -⟩ := own_open HO.out
                    subst hv
                    go_wp2_with fail
                    refine ⟨laterX_of HG.out, ?_⟩
                    refine wpAnyS_take_allE [13, 14, 15] 2 rfl (by kernel_rfl) (by intro c a d v w h; cases d <;> exact h) (by kernel_rfl) (by simp; rfl) rfl (laterX_of HG.out) ?_
                    repeat (go_big_quiet_step (fail))
                    refine wpQuiet_nil ?_
                    refine wpAnyS_only 17 (by kernel_rfl) (by simp; rfl) rfl rfl (fun K hK => ?_)
                    have u0 := HN.out.2.1 0 _ rfl
                    have u1 := HN.out.2.1 1 _ rfl
                    have f0 := HN.out.free 0
                    have f1 := HN.out.free 1
                    have nz := HN.out.1
                    have HN9 := hide ((HN.out.set (k := 0) (by simp) (.int .i64 nn)).set (k := 1) (by simp) (.slice AA LL.length kk))
                    have HO9 := hide (own_put (p := ⟨nb, 1, none⟩) (own_put (p := ⟨nb, 0, none⟩) HO.out (fun q hq => (HQ.out q hq).2.2) (.int .i64 nn)) (fun q hq => (HQ.out q hq).2.2) (.slice AA LL.length kk))
                    have HT9 := hide ((HT.out.put (p := ⟨nb, 0, none⟩) HNO.out.1 HNO.out.2.1 HNO.out.2.2.1 HNO.out.2.2.2 (.int .i64 nn)).put (p := ⟨nb, 1, none⟩) HNO.out.1 HNO.out.2.1 HNO.out.2.2.1 HNO.out.2.2.2 (.slice AA LL.length kk))
                    have HG9 := hide (grown_put (grown_put HG.out (p := ⟨nb, 0, none⟩) HNW.out (.int .i64 nn)) (p := ⟨nb, 1, none⟩) HNW.out (.slice AA LL.length kk))
                    go_wp2_with fail
                    refine ⟨laterX_of HG9.out, ?_⟩
                    clear u0 u1 f0 f1 nz HG
                    have HG := HG9
                    refine wpAnyS_take_allE [18] 0 rfl (by kernel_rfl) (by intro c a d v w h; cases d <;> exact h) (by kernel_rfl) (by simp; rfl) rfl (laterX_of HG.out) ?_
                    repeat (go_big_quiet_step (fail))
                    refine wpQuiet_nil ?_
                    refine wpAnyH_done (by kernel_rfl) ?_ _
                    go_wp2_with fail
                    go_meet
                    exact ⟨nb, AA, kk, LL, bb, nn, rfl, rfl, HN9, HO9, HAB, hide (fun q hq => ⟨(HQ.out q hq).1, (HQ.out q hq).2.1⟩), HT9⟩
                · go_wp2_with fail
                  have HN := hide (Row.new V3 #[.int .i64 0, .slice none 0 0] 26)
                  have HNO : Hid (w.heap.size ≤ V3.heap.size ∧ V3.heap.size ≠ rb ∧ V3.heap.size ≠ tb ∧ ∀ q, (Value.slice A l.length c).ownBlock = some q → q ≠ V3.heap.size) := hide ⟨HT.out.gr.size, by have := HT.out.res.1; omega, by have := HT.out.box.1; omega, fun q hq => by have := (HT.out.own.lt q hq).2; omega⟩
                  have HNG : Hid (V3.heap.size ≠ d.g) := hide (by have := HT.out.st.lt; omega)
                  have HNW : Hid (w5.heap.size ≤ V3.heap.size) := hide HG.out.size
                  replace HB := hide (HB.out.alloc (.cells #[.int .i64 0, .slice none 0 0] 26))
                  replace HT := hide (HT.out.alloc (.cells #[.int .i64 0, .slice none 0 0] 26))
                  replace HG := hide (grown_new HG.out (.cells #[.int .i64 0, .slice none 0 0] 26))
                  have HNL : Hid (V3.heap.size < (V3.alloc (.cells #[.int .i64 0, .slice none 0 0] 26)).heap.size) := hide (by simp)
                  refine ⟨laterX_of HG.out, ?_⟩
                  generalize V3.alloc (.cells #[.int .i64 0, .slice none 0 0] 26) = V4 at *
                  generalize V3.heap.size = nb at *
                  refine wpAnyS_only 10 (by kernel_rfl) (by simp; rfl) rfl rfl (fun K hK => ?_)
                  go_wp2_with fail
                  refine (among_any d (N + 4 + 8 * k + 2 + 4) (some ⟨lb, 0, none⟩) 5 5 [30, 60, 90, 120, 1 + y] _ hd HT.out.st (by omega) rfl (by omega) (by omega) (by exact HB.out.rd) (fun b o sp e => by injection e with e; injection e with e; have := HBG.out; omega)).mono ?_
                  rintro e V5 ⟨⟨z, rfl, -⟩, hs, hg⟩
                  clear HB HBG
                  replace HN := hide (HN.out.grown hg (fun e => by injection e with e; have := HNG.out; omega))
                  replace HNL := hide (Nat.lt_of_lt_of_le HNL.out hg.size)
                  replace HT : Hid (TwAt d w rb tb (nd : Int) A c l (N + 4 + 8 * k + 2 + 6) V5) := hide (HT.out.draw hs hg)
                  replace HG := hide (grown_trans HG.out hg)
                  clear hs hg
                  go_wp2_with fail
                  refine ⟨laterX_of HG.out, ?_⟩
                  refine wpAnyS_take_allE [11] 6 rfl (by kernel_rfl) (by intro c a d v w h; cases d <;> exact h) (by kernel_rfl) (by simp; rfl) rfl (laterX_of HG.out) ?_
                  repeat (go_big_quiet_step (fail))
                  refine wpQuiet_nil ?_
                  refine wpAnyS_only 12 (by kernel_rfl) (by simp; rfl) rfl rfl (fun K hK => ?_)
                  go_wp2_with fail
                  obtain ⟨p1, p2, p3, p4⟩ := own_pre HT.out.own
                  have HP := hide (And.intro p1 (And.intro p2 (And.intro p3 p4)))
                  clear p1 p2 p3 p4
                  refine (specAddStreet_all (nd : Int) A l.length c l x (k : Int) z _ rfl HP.out.1 HP.out.2.1 HP.out.2.2.1 HP.out.2.2.2).mono ?_
                  rintro e V6 ⟨⟨v', rfl, ho⟩, hq⟩
                  have HAB := hide (fun h => ads_town (nd := (nd : Int)) (l := l) (s := (x, (k : Int), z)) h)
                  have HQ0 : Hid (∀ q, v'.ownBlock = some q → q ≠ rb ∧ q ≠ tb ∧ (V5.heap.size ≤ q ∧ q < V6.heap.size)) := hide (fun q hq => by have h1 := ho.lt q hq; have h2 := HT.out.res.1; have h3 := HT.out.box.1; refine ⟨by omega, by omega, h1⟩)
                  have HO := hide (own_le ho HT.out.gr.size)
                  clear ho HP
                  replace HN := hide (HN.out.below hq)
                  have HQ : Hid (∀ q, v'.ownBlock = some q → q ≠ rb ∧ q ≠ tb ∧ q ≠ nb) := hide (fun q hq => ⟨(HQ0.out q hq).1, (HQ0.out q hq).2.1, by have := (HQ0.out q hq).2.2; have := HNL.out; omega⟩)
                  clear HQ0
                  replace HNL := hide (Nat.lt_of_lt_of_le HNL.out hq.size)
                  replace HT := hide (HT.out.below hq)
                  replace HG := hide (grown_trans HG.out (grown_of_below hq _))
                  clear hq
                  generalize adsL (nd : Int) l (x, (k : Int), z) = LL at *
                  generalize adsOk (nd : Int) l (x, (k : Int), z) = bb at *
                  generalize adsN (nd : Int) l (x, (k : Int), z) = nn at *
                  obtain ⟨AA, kk, hv, -⟩ := own_open HO.out
                  subst hv
                  go_wp2_with fail
                  refine ⟨laterX_of HG.out, ?_⟩
                  refine wpAnyS_take_allE [13, 14, 15] 2 rfl (by kernel_rfl) (by intro c a d v w h; cases d <;> exact h) (by kernel_rfl) (by simp; rfl) rfl (laterX_of HG.out) ?_
                  repeat (go_big_quiet_step (fail))
                  refine wpQuiet_nil ?_
                  refine wpAnyS_only 17 (by kernel_rfl) (by simp; rfl) rfl rfl (fun K hK => ?_)
                  have u0 := HN.out.2.1 0 _ rfl
                  have u1 := HN.out.2.1 1 _ rfl
                  have f0 := HN.out.free 0
                  have f1 := HN.out.free 1
                  have nz := HN.out.1
                  have HN9 := hide ((HN.out.set (k := 0) (by simp) (.int .i64 nn)).set (k := 1) (by simp) (.slice AA LL.length kk))
                  have HO9 := hide (own_put (p := ⟨nb, 1, none⟩) (own_put (p := ⟨nb, 0, none⟩) HO.out (fun q hq => (HQ.out q hq).2.2) (.int .i64 nn)) (fun q hq => (HQ.out q hq).2.2) (.slice AA LL.length kk))
                  have HT9 := hide ((HT.out.put (p := ⟨nb, 0, none⟩) HNO.out.1 HNO.out.2.1 HNO.out.2.2.1 HNO.out.2.2.2 (.int .i64 nn)).put (p := ⟨nb, 1, none⟩) HNO.out.1 HNO.out.2.1 HNO.out.2.2.1 HNO.out.2.2.2 (.slice AA LL.length kk))
                  have HG9 := hide (grown_put (grown_put HG.out (p := ⟨nb, 0, none⟩) HNW.out (.int .i64 nn)) (p := ⟨nb, 1, none⟩) HNW.out (.slice AA LL.length kk))
                  go_wp2_with fail
                  refine ⟨laterX_of HG9.out, ?_⟩
                  clear u0 u1 f0 f1 nz HG
                  have HG := HG9
                  refine wpAnyS_take_allE [18] 0 rfl (by kernel_rfl) (by intro c a d v w h; cases d <;> exact h) (by kernel_rfl) (by simp; rfl) rfl (laterX_of HG.out) ?_
                  repeat (go_big_quiet_step (fail))
                  refine wpQuiet_nil ?_
                  refine wpAnyH_done (by kernel_rfl) ?_ _
                  go_wp2_with fail
                  go_meet
                  exact ⟨nb, AA, kk, LL, bb, nn, rfl, rfl, HN9, HO9, HAB, hide (fun q hq => ⟨(HQ.out q hq).1, (HQ.out q hq).2.1⟩), HT9⟩
              · go_wp2_with fail
                have HN := hide (Row.new V2 #[.int .i64 0, .slice none 0 0] 26)
                have HNO : Hid (w.heap.size ≤ V2.heap.size ∧ V2.heap.size ≠ rb ∧ V2.heap.size ≠ tb ∧ ∀ q, (Value.slice A l.length c).ownBlock = some q → q ≠ V2.heap.size) := hide ⟨HT.out.gr.size, by have := HT.out.res.1; omega, by have := HT.out.box.1; omega, fun q hq => by have := (HT.out.own.lt q hq).2; omega⟩
                have HNG : Hid (V2.heap.size ≠ d.g) := hide (by have := HT.out.st.lt; omega)
                have HNW : Hid (w5.heap.size ≤ V2.heap.size) := hide HG.out.size
                replace HT := hide (HT.out.alloc (.cells #[.int .i64 0, .slice none 0 0] 26))
                replace HG := hide (grown_new HG.out (.cells #[.int .i64 0, .slice none 0 0] 26))
                have HNL : Hid (V2.heap.size < (V2.alloc (.cells #[.int .i64 0, .slice none 0 0] 26)).heap.size) := hide (by simp)
                refine ⟨laterX_of HG.out, ?_⟩
                generalize V2.alloc (.cells #[.int .i64 0, .slice none 0 0] 26) = V3 at *
                generalize V2.heap.size = nb at *
                refine wpAnyS_only 9 (by kernel_rfl) (by simp; rfl) rfl rfl (fun K hK => ?_)
                have HB := hide (Row.new V3 #[.int .i64 (30), .int .i64 (60), .int .i64 (90), .int .i64 (120), .int .i64 (1 + y)] 3)
                have HBG : Hid (V3.heap.size ≠ d.g) := hide (by have := HT.out.st.lt; omega)
                replace HN := hide (HN.out.alloc (.cells #[.int .i64 30, .int .i64 60, .int .i64 90, .int .i64 120, .int .i64 (1 + y)] 3))
                replace HNL : Hid (nb < (V3.alloc (.cells #[.int .i64 30, .int .i64 60, .int .i64 90, .int .i64 120, .int .i64 (1 + y)] 3)).heap.size) := hide (by have := HNL.out; simp; omega)
                replace HT := hide (HT.out.alloc (.cells #[.int .i64 30, .int .i64 60, .int .i64 90, .int .i64 120, .int .i64 (1 + y)] 3))
                replace HG := hide (grown_new HG.out (.cells #[.int .i64 30, .int .i64 60, .int .i64 90, .int .i64 120, .int .i64 (1 + y)] 3))
                refine wp_ints5 (30) (60) (90) (120) (1 + y) (.const (.int .i64 30)) (.const (.int .i64 60)) (.const (.int .i64 90)) (.const (.int .i64 120)) (.tmp 34) rfl rfl rfl rfl rfl rfl (hK _ _ ⟨laterX_of HG.out, ?_⟩)
                simp only [Act.put, List.setIfInBounds_toArray, List.set_cons_succ, List.set_cons_zero]
                generalize V3.alloc (.cells #[.int .i64 30, .int .i64 60, .int .i64 90, .int .i64 120, .int .i64 (1 + y)] 3) = V4 at *
                generalize V3.heap.size = lb at *
                refine wpAnyS_only 10 (by kernel_rfl) (by simp; rfl) rfl rfl (fun K hK => ?_)
                go_wp2_with fail
                refine (among_any d (N + 4 + 8 * k + 2 + 4) (some ⟨lb, 0, none⟩) 5 5 [30, 60, 90, 120, 1 + y] _ hd HT.out.st (by omega) rfl (by omega) (by omega) (by exact HB.out.rd) (fun b o sp e => by injection e with e; injection e with e; have := HBG.out; omega)).mono ?_
                rintro e V5 ⟨⟨z, rfl, -⟩, hs, hg⟩
                clear HB HBG
                replace HN := hide (HN.out.grown hg (fun e => by injection e with e; have := HNG.out; omega))
                replace HNL := hide (Nat.lt_of_lt_of_le HNL.out hg.size)
                replace HT : Hid (TwAt d w rb tb (nd : Int) A c l (N + 4 + 8 * k + 2 + 6) V5) := hide (HT.out.draw hs hg)
                replace HG := hide (grown_trans HG.out hg)
                clear hs hg
                go_wp2_with fail
                refine ⟨laterX_of HG.out, ?_⟩
                refine wpAnyS_take_allE [11] 6 rfl (by kernel_rfl) (by intro c a d v w h; cases d <;> exact h) (by kernel_rfl) (by simp; rfl) rfl (laterX_of HG.out) ?_
                repeat (go_big_quiet_step (fail))
                refine wpQuiet_nil ?_
                refine wpAnyS_only 12 (by kernel_rfl) (by simp; rfl) rfl rfl (fun K hK => ?_)
                go_wp2_with fail
                obtain ⟨p1, p2, p3, p4⟩ := own_pre HT.out.own
                have HP := hide (And.intro p1 (And.intro p2 (And.intro p3 p4)))
                clear p1 p2 p3 p4
                refine (specAddStreet_all (nd : Int) A l.length c l x (k : Int) z _ rfl HP.out.1 HP.out.2.1 HP.out.2.2.1 HP.out.2.2.2).mono ?_
                rintro e V6 ⟨⟨v', rfl, ho⟩, hq⟩
                have HAB := hide (fun h => ads_town (nd := (nd : Int)) (l := l) (s := (x, (k : Int), z)) h)
                have HQ0 : Hid (∀ q, v'.ownBlock = some q → q ≠ rb ∧ q ≠ tb ∧ (V5.heap.size ≤ q ∧ q < V6.heap.size)) := hide (fun q hq => by have h1 := ho.lt q hq; have h2 := HT.out.res.1; have h3 := HT.out.box.1; refine ⟨by omega, by omega, h1⟩)
                have HO := hide (own_le ho HT.out.gr.size)
                clear ho HP
                replace HN := hide (HN.out.below hq)
                have HQ : Hid (∀ q, v'.ownBlock = some q → q ≠ rb ∧ q ≠ tb ∧ q ≠ nb) := hide (fun q hq => ⟨(HQ0.out q hq).1, (HQ0.out q hq).2.1, by have := (HQ0.out q hq).2.2; have := HNL.out; omega⟩)
                clear HQ0
                replace HNL := hide (Nat.lt_of_lt_of_le HNL.out hq.size)
                replace HT := hide (HT.out.below hq)
                replace HG := hide (grown_trans HG.out (grown_of_below hq _))
                clear hq
                generalize adsL (nd : Int) l (x, (k : Int), z) = LL at *
                generalize adsOk (nd : Int) l (x, (k : Int), z) = bb at *
                generalize adsN (nd : Int) l (x, (k : Int), z) = nn at *
                obtain ⟨AA, kk, hv, -⟩ := own_open HO.out
                subst hv
                go_wp2_with fail
                refine ⟨laterX_of HG.out, ?_⟩
                refine wpAnyS_take_allE [13, 14, 15] 2 rfl (by kernel_rfl) (by intro c a d v w h; cases d <;> exact h) (by kernel_rfl) (by simp; rfl) rfl (laterX_of HG.out) ?_
                repeat (go_big_quiet_step (fail))
                refine wpQuiet_nil ?_
                refine wpAnyS_only 17 (by kernel_rfl) (by simp; rfl) rfl rfl (fun K hK => ?_)
                have u0 := HN.out.2.1 0 _ rfl
                have u1 := HN.out.2.1 1 _ rfl
                have f0 := HN.out.free 0
                have f1 := HN.out.free 1
                have nz := HN.out.1
                have HN9 := hide ((HN.out.set (k := 0) (by simp) (.int .i64 nn)).set (k := 1) (by simp) (.slice AA LL.length kk))
                have HO9 := hide (own_put (p := ⟨nb, 1, none⟩) (own_put (p := ⟨nb, 0, none⟩) HO.out (fun q hq => (HQ.out q hq).2.2) (.int .i64 nn)) (fun q hq => (HQ.out q hq).2.2) (.slice AA LL.length kk))
                have HT9 := hide ((HT.out.put (p := ⟨nb, 0, none⟩) HNO.out.1 HNO.out.2.1 HNO.out.2.2.1 HNO.out.2.2.2 (.int .i64 nn)).put (p := ⟨nb, 1, none⟩) HNO.out.1 HNO.out.2.1 HNO.out.2.2.1 HNO.out.2.2.2 (.slice AA LL.length kk))
                have HG9 := hide (grown_put (grown_put HG.out (p := ⟨nb, 0, none⟩) HNW.out (.int .i64 nn)) (p := ⟨nb, 1, none⟩) HNW.out (.slice AA LL.length kk))
                go_wp2_with fail
                refine ⟨laterX_of HG9.out, ?_⟩
                clear u0 u1 f0 f1 nz HG
                have HG := HG9
                refine wpAnyS_take_allE [18] 0 rfl (by kernel_rfl) (by intro c a d v w h; cases d <;> exact h) (by kernel_rfl) (by simp; rfl) rfl (laterX_of HG.out) ?_
                repeat (go_big_quiet_step (fail))
                refine wpQuiet_nil ?_
                refine wpAnyH_done (by kernel_rfl) ?_ _
                go_wp2_with fail
                go_meet
                exact ⟨nb, AA, kk, LL, bb, nn, rfl, rfl, HN9, HO9, HAB, hide (fun q hq => ⟨(HQ.out q hq).1, (HQ.out q hq).2.1⟩), HT9⟩
            · go_wp2_with fail
              have HN := hide (Row.new V1 #[.int .i64 0, .slice none 0 0] 26)
              have HNO : Hid (w.heap.size ≤ V1.heap.size ∧ V1.heap.size ≠ rb ∧ V1.heap.size ≠ tb ∧ ∀ q, (Value.slice A l.length c).ownBlock = some q → q ≠ V1.heap.size) := hide ⟨HT.out.gr.size, by have := HT.out.res.1; omega, by have := HT.out.box.1; omega, fun q hq => by have := (HT.out.own.lt q hq).2; omega⟩
              have HNG : Hid (V1.heap.size ≠ d.g) := hide (by have := HT.out.st.lt; omega)
              have HNW : Hid (w5.heap.size ≤ V1.heap.size) := hide HG.out.size
              replace HT := hide (HT.out.alloc (.cells #[.int .i64 0, .slice none 0 0] 26))
              replace HG := hide (grown_new HG.out (.cells #[.int .i64 0, .slice none 0 0] 26))
              have HNL : Hid (V1.heap.size < (V1.alloc (.cells #[.int .i64 0, .slice none 0 0] 26)).heap.size) := hide (by simp)
              refine ⟨laterX_of HG.out, ?_⟩
              generalize V1.alloc (.cells #[.int .i64 0, .slice none 0 0] 26) = V2 at *
              generalize V1.heap.size = nb at *
              refine wpAnyS_only 7 (by kernel_rfl) (by simp; rfl) rfl rfl (fun K hK => ?_)
              go_wp2_with fail
              refine (pick_any d (N + 4 + 8 * k + 2 + 2) 200 _ hd HT.out.st (by omega) (by omega)).mono ?_
              rintro e V3 ⟨⟨y, rfl, y0, y1, y2⟩, hs, hg⟩
              clear y1
              replace HN := hide (HN.out.grown hg (fun e => by injection e with e; have := HNG.out; omega))
              replace HNL := hide (Nat.lt_of_lt_of_le HNL.out hg.size)
              replace HT : Hid (TwAt d w rb tb (nd : Int) A c l (N + 4 + 8 * k + 2 + 4) V3) := hide (HT.out.draw hs hg)
              replace HG := hide (grown_trans HG.out hg)
              clear hs hg
              go_wp2_with fail
              refine ⟨laterX_of HG.out, ?_⟩
              have hw1 : IntKind.i64.wrap (1 + y) = 1 + y := IntWalk.i64_in _ (by omega)
              refine wpAnyS_take_allE [8] 9 rfl (by kernel_rfl) (by intro c a d v w h; cases d <;> exact h) (by kernel_rfl) (by simp; rfl) rfl (laterX_of HG.out) ?_
              repeat (go_big_quiet_step (fail))
              refine wpQuiet_nil ?_
              clear hw1
              refine wpAnyS_only 9 (by kernel_rfl) (by simp; rfl) rfl rfl (fun K hK => ?_)
              have HB := hide (Row.new V3 #[.int .i64 (30), .int .i64 (60), .int .i64 (90), .int .i64 (120), .int .i64 (1 + y)] 3)
              have HBG : Hid (V3.heap.size ≠ d.g) := hide (by have := HT.out.st.lt; omega)
              replace HN := hide (HN.out.alloc (.cells #[.int .i64 30, .int .i64 60, .int .i64 90, .int .i64 120, .int .i64 (1 + y)] 3))
              replace HNL : Hid (nb < (V3.alloc (.cells #[.int .i64 30, .int .i64 60, .int .i64 90, .int .i64 120, .int .i64 (1 + y)] 3)).heap.size) := hide (by have := HNL.out; simp; omega)
              replace HT := hide (HT.out.alloc (.cells #[.int .i64 30, .int .i64 60, .int .i64 90, .int .i64 120, .int .i64 (1 + y)] 3))
              replace HG := hide (grown_new HG.out (.cells #[.int .i64 30, .int .i64 60, .int .i64 90, .int .i64 120, .int .i64 (1 + y)] 3))
              refine wp_ints5 (30) (60) (90) (120) (1 + y) (.const (.int .i64 30)) (.const (.int .i64 60)) (.const (.int .i64 90)) (.const (.int .i64 120)) (.tmp 34) rfl rfl rfl rfl rfl rfl (hK _ _ ⟨laterX_of HG.out, ?_⟩)
              simp only [Act.put, List.setIfInBounds_toArray, List.set_cons_succ, List.set_cons_zero]
              generalize V3.alloc (.cells #[.int .i64 30, .int .i64 60, .int .i64 90, .int .i64 120, .int .i64 (1 + y)] 3) = V4 at *
              generalize V3.heap.size = lb at *
              refine wpAnyS_only 10 (by kernel_rfl) (by simp; rfl) rfl rfl (fun K hK => ?_)
              go_wp2_with fail
              refine (among_any d (N + 4 + 8 * k + 2 + 4) (some ⟨lb, 0, none⟩) 5 5 [30, 60, 90, 120, 1 + y] _ hd HT.out.st (by omega) rfl (by omega) (by omega) (by exact HB.out.rd) (fun b o sp e => by injection e with e; injection e with e; have := HBG.out; omega)).mono ?_
              rintro e V5 ⟨⟨z, rfl, -⟩, hs, hg⟩
              clear HB HBG
              replace HN := hide (HN.out.grown hg (fun e => by injection e with e; have := HNG.out; omega))
              replace HNL := hide (Nat.lt_of_lt_of_le HNL.out hg.size)
              replace HT : Hid (TwAt d w rb tb (nd : Int) A c l (N + 4 + 8 * k + 2 + 6) V5) := hide (HT.out.draw hs hg)
              replace HG := hide (grown_trans HG.out hg)
              clear hs hg
              go_wp2_with fail
              refine ⟨laterX_of HG.out, ?_⟩
              refine wpAnyS_take_allE [11] 6 rfl (by kernel_rfl) (by intro c a d v w h; cases d <;> exact h) (by kernel_rfl) (by simp; rfl) rfl (laterX_of HG.out) ?_
              repeat (go_big_quiet_step (fail))
              refine wpQuiet_nil ?_
              refine wpAnyS_only 12 (by kernel_rfl) (by simp; rfl) rfl rfl (fun K hK => ?_)
              go_wp2_with fail
              obtain ⟨p1, p2, p3, p4⟩ := own_pre HT.out.own
              have HP := hide (And.intro p1 (And.intro p2 (And.intro p3 p4)))
              clear p1 p2 p3 p4
              refine (specAddStreet_all (nd : Int) A l.length c l x (k : Int) z _ rfl HP.out.1 HP.out.2.1 HP.out.2.2.1 HP.out.2.2.2).mono ?_
              rintro e V6 ⟨⟨v', rfl, ho⟩, hq⟩
              have HAB := hide (fun h => ads_town (nd := (nd : Int)) (l := l) (s := (x, (k : Int), z)) h)
              have HQ0 : Hid (∀ q, v'.ownBlock = some q → q ≠ rb ∧ q ≠ tb ∧ (V5.heap.size ≤ q ∧ q < V6.heap.size)) := hide (fun q hq => by have h1 := ho.lt q hq; have h2 := HT.out.res.1; have h3 := HT.out.box.1; refine ⟨by omega, by omega, h1⟩)
              have HO := hide (own_le ho HT.out.gr.size)
              clear ho HP
              replace HN := hide (HN.out.below hq)
              have HQ : Hid (∀ q, v'.ownBlock = some q → q ≠ rb ∧ q ≠ tb ∧ q ≠ nb) := hide (fun q hq => ⟨(HQ0.out q hq).1, (HQ0.out q hq).2.1, by have := (HQ0.out q hq).2.2; have := HNL.out; omega⟩)
              clear HQ0
              replace HNL := hide (Nat.lt_of_lt_of_le HNL.out hq.size)
              replace HT := hide (HT.out.below hq)
              replace HG := hide (grown_trans HG.out (grown_of_below hq _))
              clear hq
              generalize adsL (nd : Int) l (x, (k : Int), z) = LL at *
              generalize adsOk (nd : Int) l (x, (k : Int), z) = bb at *
              generalize adsN (nd : Int) l (x, (k : Int), z) = nn at *
              obtain ⟨AA, kk, hv, -⟩ := own_open HO.out
              subst hv
              go_wp2_with fail
              refine ⟨laterX_of HG.out, ?_⟩
              refine wpAnyS_take_allE [13, 14, 15] 2 rfl (by kernel_rfl) (by intro c a d v w h; cases d <;> exact h) (by kernel_rfl) (by simp; rfl) rfl (laterX_of HG.out) ?_
              repeat (go_big_quiet_step (fail))
              refine wpQuiet_nil ?_
              refine wpAnyS_only 17 (by kernel_rfl) (by simp; rfl) rfl rfl (fun K hK => ?_)
              have u0 := HN.out.2.1 0 _ rfl
              have u1 := HN.out.2.1 1 _ rfl
              have f0 := HN.out.free 0
              have f1 := HN.out.free 1
              have nz := HN.out.1
              have HN9 := hide ((HN.out.set (k := 0) (by simp) (.int .i64 nn)).set (k := 1) (by simp) (.slice AA LL.length kk))
              have HO9 := hide (own_put (p := ⟨nb, 1, none⟩) (own_put (p := ⟨nb, 0, none⟩) HO.out (fun q hq => (HQ.out q hq).2.2) (.int .i64 nn)) (fun q hq => (HQ.out q hq).2.2) (.slice AA LL.length kk))
              have HT9 := hide ((HT.out.put (p := ⟨nb, 0, none⟩) HNO.out.1 HNO.out.2.1 HNO.out.2.2.1 HNO.out.2.2.2 (.int .i64 nn)).put (p := ⟨nb, 1, none⟩) HNO.out.1 HNO.out.2.1 HNO.out.2.2.1 HNO.out.2.2.2 (.slice AA LL.length kk))
              have HG9 := hide (grown_put (grown_put HG.out (p := ⟨nb, 0, none⟩) HNW.out (.int .i64 nn)) (p := ⟨nb, 1, none⟩) HNW.out (.slice AA LL.length kk))
              go_wp2_with fail
              refine ⟨laterX_of HG9.out, ?_⟩
              clear u0 u1 f0 f1 nz HG
              have HG := HG9
              refine wpAnyS_take_allE [18] 0 rfl (by kernel_rfl) (by intro c a d v w h; cases d <;> exact h) (by kernel_rfl) (by simp; rfl) rfl (laterX_of HG.out) ?_
              repeat (go_big_quiet_step (fail))
              refine wpQuiet_nil ?_
              refine wpAnyH_done (by kernel_rfl) ?_ _
              go_wp2_with fail
              go_meet
              exact ⟨nb, AA, kk, LL, bb, nn, rfl, rfl, HN9, HO9, HAB, hide (fun q hq => ⟨(HQ.out q hq).1, (HQ.out q hq).2.1⟩), HT9⟩
          · go_wp2_with fail
            have HN := hide (Row.new V0 #[.int .i64 0, .slice none 0 0] 26)
            have HNO : Hid (w.heap.size ≤ V0.heap.size ∧ V0.heap.size ≠ rb ∧ V0.heap.size ≠ tb ∧ ∀ q, (Value.slice A l.length c).ownBlock = some q → q ≠ V0.heap.size) := hide ⟨HT.out.gr.size, by have := HT.out.res.1; omega, by have := HT.out.box.1; omega, fun q hq => by have := (HT.out.own.lt q hq).2; omega⟩
            have HNG : Hid (V0.heap.size ≠ d.g) := hide (by have := HT.out.st.lt; omega)
            have HNW : Hid (w5.heap.size ≤ V0.heap.size) := hide HG.out.size
            replace HT := hide (HT.out.alloc (.cells #[.int .i64 0, .slice none 0 0] 26))
            replace HG := hide (grown_new HG.out (.cells #[.int .i64 0, .slice none 0 0] 26))
            have HNL : Hid (V0.heap.size < (V0.alloc (.cells #[.int .i64 0, .slice none 0 0] 26)).heap.size) := hide (by simp)
            refine ⟨laterX_of HG.out, ?_⟩
            generalize V0.alloc (.cells #[.int .i64 0, .slice none 0 0] 26) = V1 at *
            generalize V0.heap.size = nb at *
            refine wpAnyS_only 3 (by kernel_rfl) (by simp; rfl) rfl rfl (fun K hK => ?_)
            go_wp2_with fail
            refine (pick_any d (N + 4 + 8 * k + 2 + 0) (k : Int) _ hd HT.out.st (by omega) (by omega)).mono ?_
            rintro e V2 ⟨⟨x, rfl, x0, x1, x2⟩, hs, hg⟩
            clear x1
            replace HN := hide (HN.out.grown hg (fun e => by injection e with e; have := HNG.out; omega))
            replace HNL := hide (Nat.lt_of_lt_of_le HNL.out hg.size)
            replace HT : Hid (TwAt d w rb tb (nd : Int) A c l (N + 4 + 8 * k + 2 + 2) V2) := hide (HT.out.draw hs hg)
            replace HG := hide (grown_trans HG.out hg)
            clear hs hg
            go_wp2_with fail
            refine ⟨laterX_of HG.out, ?_⟩
            refine wpAnyS_only 7 (by kernel_rfl) (by simp; rfl) rfl rfl (fun K hK => ?_)
            go_wp2_with fail
            refine (pick_any d (N + 4 + 8 * k + 2 + 2) 200 _ hd HT.out.st (by omega) (by omega)).mono ?_
            rintro e V3 ⟨⟨y, rfl, y0, y1, y2⟩, hs, hg⟩
            clear y1
            replace HN := hide (HN.out.grown hg (fun e => by injection e with e; have := HNG.out; omega))
            replace HNL := hide (Nat.lt_of_lt_of_le HNL.out hg.size)
            replace HT : Hid (TwAt d w rb tb (nd : Int) A c l (N + 4 + 8 * k + 2 + 4) V3) := hide (HT.out.draw hs hg)
            replace HG := hide (grown_trans HG.out hg)
            clear hs hg
            go_wp2_with fail
            refine ⟨laterX_of HG.out, ?_⟩
            have hw1 : IntKind.i64.wrap (1 + y) = 1 + y := IntWalk.i64_in _ (by omega)
            refine wpAnyS_take_allE [8] 9 rfl (by kernel_rfl) (by intro c a d v w h; cases d <;> exact h) (by kernel_rfl) (by simp; rfl) rfl (laterX_of HG.out) ?_
            repeat (go_big_quiet_step (fail))
            refine wpQuiet_nil ?_
            clear hw1
            refine wpAnyS_only 9 (by kernel_rfl) (by simp; rfl) rfl rfl (fun K hK => ?_)
            have HB := hide (Row.new V3 #[.int .i64 (30), .int .i64 (60), .int .i64 (90), .int .i64 (120), .int .i64 (1 + y)] 3)
            have HBG : Hid (V3.heap.size ≠ d.g) := hide (by have := HT.out.st.lt; omega)
            replace HN := hide (HN.out.alloc (.cells #[.int .i64 30, .int .i64 60, .int .i64 90, .int .i64 120, .int .i64 (1 + y)] 3))
            replace HNL : Hid (nb < (V3.alloc (.cells #[.int .i64 30, .int .i64 60, .int .i64 90, .int .i64 120, .int .i64 (1 + y)] 3)).heap.size) := hide (by have := HNL.out; simp; omega)
            replace HT := hide (HT.out.alloc (.cells #[.int .i64 30, .int .i64 60, .int .i64 90, .int .i64 120, .int .i64 (1 + y)] 3))
            replace HG := hide (grown_new HG.out (.cells #[.int .i64 30, .int .i64 60, .int .i64 90, .int .i64 120, .int .i64 (1 + y)] 3))
            refine wp_ints5 (30) (60) (90) (120) (1 + y) (.const (.int .i64 30)) (.const (.int .i64 60)) (.const (.int .i64 90)) (.const (.int .i64 120)) (.tmp 34) rfl rfl rfl rfl rfl rfl (hK _ _ ⟨laterX_of HG.out, ?_⟩)
            simp only [Act.put, List.setIfInBounds_toArray, List.set_cons_succ, List.set_cons_zero]
            generalize V3.alloc (.cells #[.int .i64 30, .int .i64 60, .int .i64 90, .int .i64 120, .int .i64 (1 + y)] 3) = V4 at *
            generalize V3.heap.size = lb at *
            refine wpAnyS_only 10 (by kernel_rfl) (by simp; rfl) rfl rfl (fun K hK => ?_)
            go_wp2_with fail
            refine (among_any d (N + 4 + 8 * k + 2 + 4) (some ⟨lb, 0, none⟩) 5 5 [30, 60, 90, 120, 1 + y] _ hd HT.out.st (by omega) rfl (by omega) (by omega) (by exact HB.out.rd) (fun b o sp e => by injection e with e; injection e with e; have := HBG.out; omega)).mono ?_
            rintro e V5 ⟨⟨z, rfl, -⟩, hs, hg⟩
            clear HB HBG
            replace HN := hide (HN.out.grown hg (fun e => by injection e with e; have := HNG.out; omega))
            replace HNL := hide (Nat.lt_of_lt_of_le HNL.out hg.size)
            replace HT : Hid (TwAt d w rb tb (nd : Int) A c l (N + 4 + 8 * k + 2 + 6) V5) := hide (HT.out.draw hs hg)
            replace HG := hide (grown_trans HG.out hg)
            clear hs hg
            go_wp2_with fail
            refine ⟨laterX_of HG.out, ?_⟩
            refine wpAnyS_take_allE [11] 6 rfl (by kernel_rfl) (by intro c a d v w h; cases d <;> exact h) (by kernel_rfl) (by simp; rfl) rfl (laterX_of HG.out) ?_
            repeat (go_big_quiet_step (fail))
            refine wpQuiet_nil ?_
            refine wpAnyS_only 12 (by kernel_rfl) (by simp; rfl) rfl rfl (fun K hK => ?_)
            go_wp2_with fail
            obtain ⟨p1, p2, p3, p4⟩ := own_pre HT.out.own
            have HP := hide (And.intro p1 (And.intro p2 (And.intro p3 p4)))
            clear p1 p2 p3 p4
            refine (specAddStreet_all (nd : Int) A l.length c l x (k : Int) z _ rfl HP.out.1 HP.out.2.1 HP.out.2.2.1 HP.out.2.2.2).mono ?_
            rintro e V6 ⟨⟨v', rfl, ho⟩, hq⟩
            have HAB := hide (fun h => ads_town (nd := (nd : Int)) (l := l) (s := (x, (k : Int), z)) h)
            have HQ0 : Hid (∀ q, v'.ownBlock = some q → q ≠ rb ∧ q ≠ tb ∧ (V5.heap.size ≤ q ∧ q < V6.heap.size)) := hide (fun q hq => by have h1 := ho.lt q hq; have h2 := HT.out.res.1; have h3 := HT.out.box.1; refine ⟨by omega, by omega, h1⟩)
            have HO := hide (own_le ho HT.out.gr.size)
            clear ho HP
            replace HN := hide (HN.out.below hq)
            have HQ : Hid (∀ q, v'.ownBlock = some q → q ≠ rb ∧ q ≠ tb ∧ q ≠ nb) := hide (fun q hq => ⟨(HQ0.out q hq).1, (HQ0.out q hq).2.1, by have := (HQ0.out q hq).2.2; have := HNL.out; omega⟩)
            clear HQ0
            replace HNL := hide (Nat.lt_of_lt_of_le HNL.out hq.size)
            replace HT := hide (HT.out.below hq)
            replace HG := hide (grown_trans HG.out (grown_of_below hq _))
            clear hq
            generalize adsL (nd : Int) l (x, (k : Int), z) = LL at *
            generalize adsOk (nd : Int) l (x, (k : Int), z) = bb at *
            generalize adsN (nd : Int) l (x, (k : Int), z) = nn at *
            obtain ⟨AA, kk, hv, -⟩ := own_open HO.out
            subst hv
            go_wp2_with fail
            refine ⟨laterX_of HG.out, ?_⟩
            refine wpAnyS_take_allE [13, 14, 15] 2 rfl (by kernel_rfl) (by intro c a d v w h; cases d <;> exact h) (by kernel_rfl) (by simp; rfl) rfl (laterX_of HG.out) ?_
            repeat (go_big_quiet_step (fail))
            refine wpQuiet_nil ?_
            refine wpAnyS_only 17 (by kernel_rfl) (by simp; rfl) rfl rfl (fun K hK => ?_)
            have u0 := HN.out.2.1 0 _ rfl
            have u1 := HN.out.2.1 1 _ rfl
            have f0 := HN.out.free 0
            have f1 := HN.out.free 1
            have nz := HN.out.1
            have HN9 := hide ((HN.out.set (k := 0) (by simp) (.int .i64 nn)).set (k := 1) (by simp) (.slice AA LL.length kk))
            have HO9 := hide (own_put (p := ⟨nb, 1, none⟩) (own_put (p := ⟨nb, 0, none⟩) HO.out (fun q hq => (HQ.out q hq).2.2) (.int .i64 nn)) (fun q hq => (HQ.out q hq).2.2) (.slice AA LL.length kk))
            have HT9 := hide ((HT.out.put (p := ⟨nb, 0, none⟩) HNO.out.1 HNO.out.2.1 HNO.out.2.2.1 HNO.out.2.2.2 (.int .i64 nn)).put (p := ⟨nb, 1, none⟩) HNO.out.1 HNO.out.2.1 HNO.out.2.2.1 HNO.out.2.2.2 (.slice AA LL.length kk))
            have HG9 := hide (grown_put (grown_put HG.out (p := ⟨nb, 0, none⟩) HNW.out (.int .i64 nn)) (p := ⟨nb, 1, none⟩) HNW.out (.slice AA LL.length kk))
            go_wp2_with fail
            refine ⟨laterX_of HG9.out, ?_⟩
            clear u0 u1 f0 f1 nz HG
            have HG := HG9
            refine wpAnyS_take_allE [18] 0 rfl (by kernel_rfl) (by intro c a d v w h; cases d <;> exact h) (by kernel_rfl) (by simp; rfl) rfl (laterX_of HG.out) ?_
            repeat (go_big_quiet_step (fail))
            refine wpQuiet_nil ?_
            refine wpAnyH_done (by kernel_rfl) ?_ _
            go_wp2_with fail
            go_meet
            exact ⟨nb, AA, kk, LL, bb, nn, rfl, rfl, HN9, HO9, HAB, hide (fun q hq => ⟨(HQ.out q hq).1, (HQ.out q hq).2.1⟩), HT9⟩
        clear HT
        obtain ⟨nb, AA, kk, LL, bb, nn, rfl, rfl, HN, HO, HAB, HQ, HT⟩ := hcut
        cases bb with
        | false =>
          clear HN HO HAB HQ
          go_wp2
          go_roundg (gk - 1)
          case rel => exact ⟨k + 1, A, c, l, by go_num, by omega, hide (by have := HGK.out; omega), HLE, hide (HT.out.more (by omega))⟩
          case measure => have := HGK.out; omega
        | true =>
          obtain ⟨hnn, hLL⟩ := HAB.out rfl
          have HLL := hide hLL
          subst hnn
          have HT9 := hide (HT.out.set (nd : Int) HO.out HQ.out)
          have t0 := HT.out.box.2.1 0 _ rfl
          have t1 := HT.out.box.2.1 1 _ rfl
          have f0 := HT.out.box.free 0
          have f1 := HT.out.box.free 1
          have tz := HT.out.box.1
          have n0 := HN.out.2.1 0 _ rfl
          have n1 := HN.out.2.1 1 _ rfl
          have nz := HN.out.1
          clear hLL HAB
          go_wp2
          go_roundg (gk - 1)
          case rel => exact ⟨k + 1, AA, kk, LL, by go_num, by omega, hide (by have := HGK.out; omega), HLL, hide (HT9.out.more (by omega))⟩
          case measure => have := HGK.out; omega
    · have hlt' : ((k : Int) < (nd : Int)) = False := by simp; omega
      go_wp2_with fail
      clear hlt' t0 tz
      refine (pick_any d (N + 4 + 8 * k) 6 wr hd HT.out.st (by omega) (by omega)).mono ?_
      rintro e w6 ⟨⟨x, rfl, hx0, hx1, hx2⟩, hs, hg⟩
      replace HT : Hid (TwAt d w rb tb (nd : Int) A c l (N + 190) w6) := hide ((HT.out.draw hs hg).more (by omega))
      obtain ⟨m0, rfl⟩ := Int.eq_ofNat_of_zero_le hx0
      have hm6 : m0 ≤ 200 := by omega
      clear hs hg hx0 hx1 hx2 HGK hk hlt
      go_wp2_with fail
      refine (one_any d (N + 190) 16 _ hd HT.out.st (by omega) (by omega)).mono ?_
      rintro e w7 ⟨⟨b, rfl⟩, hs, hg⟩
      replace HT := hide (HT.out.draw hs hg)
      clear hs hg
      go_upto_if 46 with fail
      go_cut [7] (fun s7 wx => ∃ m : Nat, m ≤ 200 ∧ s7 = .int .i64 (m : Int) ∧ Hid (TwAt d w rb tb (nd : Int) A c l (N + 192) wx))
      case first =>
        cases b with
        | false =>
          go_wp2_with fail
          go_meet
          exact ⟨m0, hm6, rfl, HT⟩
        | true =>
          go_wp2_with fail
          go_meet
          exact ⟨200, by omega, rfl, HT⟩
      clear HT
      obtain ⟨m1, hm1, rfl, HT⟩ := hcut
      go_wp2_with fail
      go_loopg [7] 200 (fun g t wr => ∃ (m : Nat) (A : Option Addr) (c : Nat) (l : List StT), t = .int .i64 (m : Int) ∧ m ≤ 200 ∧ Hid (m ≤ g) ∧ Hid (townB (nd : Int) l = true) ∧ Hid (TwAt d w rb tb (nd : Int) A c l (N + 200 + 8 * (200 - m)) wr))
      case atStart => exact ⟨m1, A, c, l, rfl, hm1, hide hm1, HLE, hide (HT.out.more (by omega))⟩
      case round =>
        clear HT HLE
        obtain ⟨m, A, c, l, rfl, hm, HGK, HLE, HT⟩ := hrel
        by_cases hgt : 0 < m
        · obtain ⟨q, rfl⟩ : ∃ q, m = q + 1 := ⟨m - 1, by omega⟩
          have hq : q < 200 := by omega
          replace HT : Hid (TwAt d w rb tb (nd : Int) A c l (N + 200 + 8 * (199 - q)) wr) := hide (HT.out.more (by omega))
          have hg0 : ((0 : Int) < ((q + 1 : Nat) : Int)) = True := by simp
          go_wp2_with fail
          clear hg0 hgt hm
          go_upto_region 16 with fail
          go_cut [8, 9] (fun sa sb wx => ∃ (nb : Nat) (AA : Option Addr) (kk : Nat) (LL : List StT) (bb : Bool) (nn : Int), sa = .pointer (some ⟨nb, 0, none⟩) ∧ sb = .bool bb ∧ Hid (Row wx nb [.int .i64 nn, .slice AA LL.length kk]) ∧ Hid (wx.ownsRow w.heap.size 39 3 (.slice AA LL.length kk) LL.length (LL.flatMap tcells)) ∧ Hid (bb = true → nn = (nd : Int) ∧ townB (nd : Int) LL = true) ∧ Hid (∀ q, (Value.slice AA LL.length kk).ownBlock = some q → q ≠ rb ∧ q ≠ tb) ∧ Hid (TwAt d w rb tb (nd : Int) A c l (N + 200 + 8 * (199 - q) + 8) wx))
          case first => as_aux_lemma =>
            have t0 := HT.out.box.2.1 0 _ rfl
            have t1 := HT.out.box.2.1 1 _ rfl
            have tz := HT.out.box.1
            have tg : tb ≠ d.g := by have := HT.out.ord; omega
            go_wp2_with fail
            refine wpAnyS_start (fun w' => ∃ n : LaterX wr d.g, w' = n.w) (n := 23) (by kernel_rfl) rfl rfl ?_
            refine wpAnyS_take_allE [0, 1, 2, 3, 5, 6, 7, 9, 10] 14 rfl (by kernel_rfl) (by intro c a d v w h; cases d <;> exact h) (by kernel_rfl) (by simp; rfl) rfl (laterX_drew _ _) ?_
            repeat (go_big_quiet_step (fail))
            refine wpQuiet_nil ?_
            have HG : Hid (wr.grownBy wr.drew (some d.g)) := hide (grown_of_below (Below.refl _ _).drew _)
            replace HT := hide HT.out.drew
            clear t0 t1 tz tg
            generalize wr.drew = V0 at *
            refine wpAnyS_two 4 20 (by kernel_rfl) (by simp; rfl) (by simp; rfl) rfl rfl rfl rfl (fun K hK => ?_) (fun K hK => ?_)
            · go_wp2_with fail
              refine (pick_any d (N + 200 + 8 * (199 - q) + 0) (nd : Int) _ hd HT.out.st (by omega) (by omega)).mono ?_
              rintro e V1 ⟨⟨x, rfl, x0, x1, x2⟩, hs, hg⟩
              clear x1
              replace HT : Hid (TwAt d w rb tb (nd : Int) A c l (N + 200 + 8 * (199 - q) + 2) V1) := hide (HT.out.draw hs hg)
              replace HG := hide (grown_trans HG.out hg)
              clear hs hg
              go_wp2_with fail
              refine ⟨laterX_of HG.out, ?_⟩
              refine wpAnyS_two 8 20 (by kernel_rfl) (by simp; rfl) (by simp; rfl) rfl rfl rfl rfl (fun K hK => ?_) (fun K hK => ?_)
              · go_wp2_with fail
                refine (pick_any d (N + 200 + 8 * (199 - q) + 2) (nd : Int) _ hd HT.out.st (by omega) (by omega)).mono ?_
                rintro e V2 ⟨⟨x', rfl, x'0, x'1, x'2⟩, hs, hg⟩
                clear x'1
                replace HT : Hid (TwAt d w rb tb (nd : Int) A c l (N + 200 + 8 * (199 - q) + 4) V2) := hide (HT.out.draw hs hg)
                replace HG := hide (grown_trans HG.out hg)
                clear hs hg
                go_wp2_with fail
                refine ⟨laterX_of HG.out, ?_⟩
                refine wpAnyS_two 11 20 (by kernel_rfl) (by simp; rfl) (by simp; rfl) rfl rfl rfl rfl (fun K hK => ?_) (fun K hK => ?_)
                · go_wp2_with fail
                  refine (pick_any d (N + 200 + 8 * (199 - q) + 4) 400 _ hd HT.out.st (by omega) (by omega)).mono ?_
                  rintro e V3 ⟨⟨y, rfl, y0, y1, y2⟩, hs, hg⟩
                  clear y1
                  replace HT : Hid (TwAt d w rb tb (nd : Int) A c l (N + 200 + 8 * (199 - q) + 6) V3) := hide (HT.out.draw hs hg)
                  replace HG := hide (grown_trans HG.out hg)
                  clear hs hg
                  go_wp2_with fail
                  refine ⟨laterX_of HG.out, ?_⟩
                  have hw1 : IntKind.i64.wrap (1 + y) = 1 + y := IntWalk.i64_in _ (by omega)
                  refine wpAnyS_take_allE [12] 10 rfl (by kernel_rfl) (by intro c a d v w h; cases d <;> exact h) (by kernel_rfl) (by simp; rfl) rfl (laterX_of HG.out) ?_
                  repeat (go_big_quiet_step (fail))
                  refine wpQuiet_nil ?_
                  clear hw1
                  refine wpAnyS_two 13 20 (by kernel_rfl) (by simp; rfl) (by simp; rfl) rfl rfl rfl rfl (fun K hK => ?_) (fun K hK => ?_)
                  · have HB := hide (Row.new V3 #[.int .i64 (30), .int .i64 (60), .int .i64 (90), .int .i64 (300), .int .i64 (3600), .int .i64 (1 + y)] 3)
                    have HBG : Hid (V3.heap.size ≠ d.g) := hide (by have := HT.out.st.lt; omega)
                    replace HT := hide (HT.out.alloc (.cells #[.int .i64 30, .int .i64 60, .int .i64 90, .int .i64 300, .int .i64 3600, .int .i64 (1 + y)] 3))
                    replace HG := hide (grown_new HG.out (.cells #[.int .i64 30, .int .i64 60, .int .i64 90, .int .i64 300, .int .i64 3600, .int .i64 (1 + y)] 3))
                    refine wp_ints6 (30) (60) (90) (300) (3600) (1 + y) (.const (.int .i64 30)) (.const (.int .i64 60)) (.const (.int .i64 90)) (.const (.int .i64 300)) (.const (.int .i64 3600)) (.tmp 64) rfl rfl rfl rfl rfl rfl rfl (hK _ _ ⟨laterX_of HG.out, ?_⟩)
                    simp only [Act.put, List.setIfInBounds_toArray, List.set_cons_succ, List.set_cons_zero]
                    generalize V3.alloc (.cells #[.int .i64 30, .int .i64 60, .int .i64 90, .int .i64 300, .int .i64 3600, .int .i64 (1 + y)] 3) = V4 at *
                    generalize V3.heap.size = lb at *
                    refine wpAnyS_two 14 20 (by kernel_rfl) (by simp; rfl) (by simp; rfl) rfl rfl rfl rfl (fun K hK => ?_) (fun K hK => ?_)
                    · go_wp2_with fail
                      refine (among_any d (N + 200 + 8 * (199 - q) + 6) (some ⟨lb, 0, none⟩) 6 6 [30, 60, 90, 300, 3600, 1 + y] _ hd HT.out.st (by omega) rfl (by omega) (by omega) (by exact HB.out.rd) (fun b o sp e => by injection e with e; injection e with e; have := HBG.out; omega)).mono ?_
                      rintro e V5 ⟨⟨z, rfl, -⟩, hs, hg⟩
                      clear HB HBG
                      replace HT : Hid (TwAt d w rb tb (nd : Int) A c l (N + 200 + 8 * (199 - q) + 8) V5) := hide (HT.out.draw hs hg)
                      replace HG := hide (grown_trans HG.out hg)
                      clear hs hg
                      go_wp2_with fail
                      refine ⟨laterX_of HG.out, ?_⟩
                      refine wpAnyS_take_allE [15] 7 rfl (by kernel_rfl) (by intro c a d v w h; cases d <;> exact h) (by kernel_rfl) (by simp; rfl) rfl (laterX_of HG.out) ?_
                      repeat (go_big_quiet_step (fail))
                      refine wpQuiet_nil ?_
                      refine wpAnyS_two 16 20 (by kernel_rfl) (by simp; rfl) (by simp; rfl) rfl rfl rfl rfl (fun K hK => ?_) (fun K hK => ?_)
                      · go_wp2_with fail
                        obtain ⟨p1, p2, p3, p4⟩ := own_pre HT.out.own
                        have HP := hide (And.intro p1 (And.intro p2 (And.intro p3 p4)))
                        clear p1 p2 p3 p4
                        refine (specAddStreet_all (nd : Int) A l.length c l x x' z _ rfl HP.out.1 HP.out.2.1 HP.out.2.2.1 HP.out.2.2.2).mono ?_
                        rintro e V6 ⟨⟨v', rfl, ho⟩, hq⟩
                        have HAB := hide (fun h => ads_town (nd := (nd : Int)) (l := l) (s := (x, x', z)) h)
                        have HQ0 : Hid (∀ q, v'.ownBlock = some q → q ≠ rb ∧ q ≠ tb ∧ (V5.heap.size ≤ q ∧ q < V6.heap.size)) := hide (fun q hq => by have h1 := ho.lt q hq; have h2 := HT.out.res.1; have h3 := HT.out.box.1; refine ⟨by omega, by omega, h1⟩)
                        have HO := hide (own_le ho HT.out.gr.size)
                        clear ho HP
                        replace HT := hide (HT.out.below hq)
                        replace HG := hide (grown_trans HG.out (grown_of_below hq _))
                        clear hq
                        generalize adsL (nd : Int) l (x, x', z) = LL at *
                        generalize adsOk (nd : Int) l (x, x', z) = bb at *
                        generalize adsN (nd : Int) l (x, x', z) = nn at *
                        obtain ⟨AA, kk, hv, -⟩ := own_open HO.out
                        subst hv
                        go_wp2_with fail
                        refine ⟨laterX_of HG.out, ?_⟩
                        refine wpAnyS_take_allE [17, 18, 19] 3 rfl (by kernel_rfl) (by intro c a d v w h; cases d <;> exact h) (by kernel_rfl) (by simp; rfl) rfl (laterX_of HG.out) ?_
                        repeat (go_big_quiet_step (fail))
                        refine wpQuiet_nil ?_
                        refine wpAnyS_only 20 (by kernel_rfl) (by simp; rfl) rfl rfl (fun K hK => ?_)
                        go_wp2_with fail
                        have HN := hide (Row.new V6 #[.int .i64 0, .slice none 0 0] 26)
                        have HNO : Hid (w.heap.size ≤ V6.heap.size ∧ V6.heap.size ≠ rb ∧ V6.heap.size ≠ tb ∧ ∀ q, (Value.slice A l.length c).ownBlock = some q → q ≠ V6.heap.size) := hide ⟨HT.out.gr.size, by have := HT.out.res.1; omega, by have := HT.out.box.1; omega, fun q hq => by have := (HT.out.own.lt q hq).2; omega⟩
                        have HNG : Hid (V6.heap.size ≠ d.g) := hide (by have := HT.out.st.lt; omega)
                        have HNW : Hid (wr.heap.size ≤ V6.heap.size) := hide HG.out.size
                        replace HO := hide (World.ownsRow.alloc HO.out (.cells #[.int .i64 0, .slice none 0 0] 26))
                        have HQ : Hid (∀ q, (Value.slice AA LL.length kk).ownBlock = some q → q ≠ rb ∧ q ≠ tb ∧ q ≠ V6.heap.size) := hide (fun q hq => ⟨(HQ0.out q hq).1, (HQ0.out q hq).2.1, by have := (HQ0.out q hq).2.2; omega⟩)
                        replace HT := hide (HT.out.alloc (.cells #[.int .i64 0, .slice none 0 0] 26))
                        replace HG := hide (grown_new HG.out (.cells #[.int .i64 0, .slice none 0 0] 26))
                        have HNL : Hid (V6.heap.size < (V6.alloc (.cells #[.int .i64 0, .slice none 0 0] 26)).heap.size) := hide (by simp)
                        refine ⟨laterX_of HG.out, ?_⟩
                        generalize V6.alloc (.cells #[.int .i64 0, .slice none 0 0] 26) = V7 at *
                        generalize V6.heap.size = nb at *
                        refine wpAnyS_only 21 (by kernel_rfl) (by simp; rfl) rfl rfl (fun K hK => ?_)
                        have u0 := HN.out.2.1 0 _ rfl
                        have u1 := HN.out.2.1 1 _ rfl
                        have f0 := HN.out.free 0
                        have f1 := HN.out.free 1
                        have nz := HN.out.1
                        have HN9 := hide ((HN.out.set (k := 0) (by simp) (.int .i64 nn)).set (k := 1) (by simp) (.slice AA LL.length kk))
                        have HO9 := hide (own_put (p := ⟨nb, 1, none⟩) (own_put (p := ⟨nb, 0, none⟩) HO.out (fun q hq => (HQ.out q hq).2.2) (.int .i64 nn)) (fun q hq => (HQ.out q hq).2.2) (.slice AA LL.length kk))
                        have HT9 := hide ((HT.out.put (p := ⟨nb, 0, none⟩) HNO.out.1 HNO.out.2.1 HNO.out.2.2.1 HNO.out.2.2.2 (.int .i64 nn)).put (p := ⟨nb, 1, none⟩) HNO.out.1 HNO.out.2.1 HNO.out.2.2.1 HNO.out.2.2.2 (.slice AA LL.length kk))
                        have HG9 := hide (grown_put (grown_put HG.out (p := ⟨nb, 0, none⟩) HNW.out (.int .i64 nn)) (p := ⟨nb, 1, none⟩) HNW.out (.slice AA LL.length kk))
                        go_wp2_with fail
                        refine ⟨laterX_of HG9.out, ?_⟩
                        clear u0 u1 f0 f1 nz HG
                        have HG := HG9
                        refine wpAnyS_take_allE [22] 0 rfl (by kernel_rfl) (by intro c a d v w h; cases d <;> exact h) (by kernel_rfl) (by simp; rfl) rfl (laterX_of HG.out) ?_
                        repeat (go_big_quiet_step (fail))
                        refine wpQuiet_nil ?_
                        refine wpAnyH_done (by kernel_rfl) ?_ _
                        go_wp2_with fail
                        go_meet
                        exact ⟨nb, AA, kk, LL, bb, nn, rfl, rfl, HN9, HO9, HAB, hide (fun q hq => ⟨(HQ.out q hq).1, (HQ.out q hq).2.1⟩), HT9⟩
                      · go_wp2_with fail
                        have HN := hide (Row.new V5 #[.int .i64 0, .slice none 0 0] 26)
                        have HNO : Hid (w.heap.size ≤ V5.heap.size ∧ V5.heap.size ≠ rb ∧ V5.heap.size ≠ tb ∧ ∀ q, (Value.slice A l.length c).ownBlock = some q → q ≠ V5.heap.size) := hide ⟨HT.out.gr.size, by have := HT.out.res.1; omega, by have := HT.out.box.1; omega, fun q hq => by have := (HT.out.own.lt q hq).2; omega⟩
                        have HNG : Hid (V5.heap.size ≠ d.g) := hide (by have := HT.out.st.lt; omega)
                        have HNW : Hid (wr.heap.size ≤ V5.heap.size) := hide HG.out.size
                        replace HT := hide (HT.out.alloc (.cells #[.int .i64 0, .slice none 0 0] 26))
                        replace HG := hide (grown_new HG.out (.cells #[.int .i64 0, .slice none 0 0] 26))
                        have HNL : Hid (V5.heap.size < (V5.alloc (.cells #[.int .i64 0, .slice none 0 0] 26)).heap.size) := hide (by simp)
                        refine ⟨laterX_of HG.out, ?_⟩
                        generalize V5.alloc (.cells #[.int .i64 0, .slice none 0 0] 26) = V6 at *
                        generalize V5.heap.size = nb at *
                        refine wpAnyS_only 16 (by kernel_rfl) (by simp; rfl) rfl rfl (fun K hK => ?_)
                        go_wp2_with fail
                        obtain ⟨p1, p2, p3, p4⟩ := own_pre HT.out.own
                        have HP := hide (And.intro p1 (And.intro p2 (And.intro p3 p4)))
                        clear p1 p2 p3 p4
                        refine (specAddStreet_all (nd : Int) A l.length c l x x' z _ rfl HP.out.1 HP.out.2.1 HP.out.2.2.1 HP.out.2.2.2).mono ?_
                        rintro e V7 ⟨⟨v', rfl, ho⟩, hq⟩
                        have HAB := hide (fun h => ads_town (nd := (nd : Int)) (l := l) (s := (x, x', z)) h)
                        have HQ0 : Hid (∀ q, v'.ownBlock = some q → q ≠ rb ∧ q ≠ tb ∧ (V6.heap.size ≤ q ∧ q < V7.heap.size)) := hide (fun q hq => by have h1 := ho.lt q hq; have h2 := HT.out.res.1; have h3 := HT.out.box.1; refine ⟨by omega, by omega, h1⟩)
                        have HO := hide (own_le ho HT.out.gr.size)
                        clear ho HP
                        replace HN := hide (HN.out.below hq)
                        have HQ : Hid (∀ q, v'.ownBlock = some q → q ≠ rb ∧ q ≠ tb ∧ q ≠ nb) := hide (fun q hq => ⟨(HQ0.out q hq).1, (HQ0.out q hq).2.1, by have := (HQ0.out q hq).2.2; have := HNL.out; omega⟩)
                        clear HQ0
                        replace HNL := hide (Nat.lt_of_lt_of_le HNL.out hq.size)
                        replace HT := hide (HT.out.below hq)
                        replace HG := hide (grown_trans HG.out (grown_of_below hq _))
                        clear hq
                        generalize adsL (nd : Int) l (x, x', z) = LL at *
                        generalize adsOk (nd : Int) l (x, x', z) = bb at *
                        generalize adsN (nd : Int) l (x, x', z) = nn at *
                        obtain ⟨AA, kk, hv, -⟩ := own_open HO.out
                        subst hv
                        go_wp2_with fail
                        refine ⟨laterX_of HG.out, ?_⟩
                        refine wpAnyS_take_allE [17, 18, 19] 2 rfl (by kernel_rfl) (by intro c a d v w h; cases d <;> exact h) (by kernel_rfl) (by simp; rfl) rfl (laterX_of HG.out) ?_
                        repeat (go_big_quiet_step (fail))
                        refine wpQuiet_nil ?_
                        refine wpAnyS_only 21 (by kernel_rfl) (by simp; rfl) rfl rfl (fun K hK => ?_)
                        have u0 := HN.out.2.1 0 _ rfl
                        have u1 := HN.out.2.1 1 _ rfl
                        have f0 := HN.out.free 0
                        have f1 := HN.out.free 1
                        have nz := HN.out.1
                        have HN9 := hide ((HN.out.set (k := 0) (by simp) (.int .i64 nn)).set (k := 1) (by simp) (.slice AA LL.length kk))
                        have HO9 := hide (own_put (p := ⟨nb, 1, none⟩) (own_put (p := ⟨nb, 0, none⟩) HO.out (fun q hq => (HQ.out q hq).2.2) (.int .i64 nn)) (fun q hq => (HQ.out q hq).2.2) (.slice AA LL.length kk))
                        have HT9 := hide ((HT.out.put (p := ⟨nb, 0, none⟩) HNO.out.1 HNO.out.2.1 HNO.out.2.2.1 HNO.out.2.2.2 (.int .i64 nn)).put (p := ⟨nb, 1, none⟩) HNO.out.1 HNO.out.2.1 HNO.out.2.2.1 HNO.out.2.2.2 (.slice AA LL.length kk))
                        have HG9 := hide (grown_put (grown_put HG.out (p := ⟨nb, 0, none⟩) HNW.out (.int .i64 nn)) (p := ⟨nb, 1, none⟩) HNW.out (.slice AA LL.length kk))
                        go_wp2_with fail
                        refine ⟨laterX_of HG9.out, ?_⟩
                        clear u0 u1 f0 f1 nz HG
                        have HG := HG9
                        refine wpAnyS_take_allE [22] 0 rfl (by kernel_rfl) (by intro c a d v w h; cases d <;> exact h) (by kernel_rfl) (by simp; rfl) rfl (laterX_of HG.out) ?_
                        repeat (go_big_quiet_step (fail))
                        refine wpQuiet_nil ?_
                        refine wpAnyH_done (by kernel_rfl) ?_ _
                        go_wp2_with fail
                        go_meet
                        exact ⟨nb, AA, kk, LL, bb, nn, rfl, rfl, HN9, HO9, HAB, hide (fun q hq => ⟨(HQ.out q hq).1, (HQ.out q hq).2.1⟩), HT9⟩
                    · go_wp2_with fail
                      have HN := hide (Row.new V4 #[.int .i64 0, .slice none 0 0] 26)
                      have HNO : Hid (w.heap.size ≤ V4.heap.size ∧ V4.heap.size ≠ rb ∧ V4.heap.size ≠ tb ∧ ∀ q, (Value.slice A l.length c).ownBlock = some q → q ≠ V4.heap.size) := hide ⟨HT.out.gr.size, by have := HT.out.res.1; omega, by have := HT.out.box.1; omega, fun q hq => by have := (HT.out.own.lt q hq).2; omega⟩
                      have HNG : Hid (V4.heap.size ≠ d.g) := hide (by have := HT.out.st.lt; omega)
                      have HNW : Hid (wr.heap.size ≤ V4.heap.size) := hide HG.out.size
                      replace HB := hide (HB.out.alloc (.cells #[.int .i64 0, .slice none 0 0] 26))
                      replace HT := hide (HT.out.alloc (.cells #[.int .i64 0, .slice none 0 0] 26))
                      replace HG := hide (grown_new HG.out (.cells #[.int .i64 0, .slice none 0 0] 26))
                      have HNL : Hid (V4.heap.size < (V4.alloc (.cells #[.int .i64 0, .slice none 0 0] 26)).heap.size) := hide (by simp)
                      refine ⟨laterX_of HG.out, ?_⟩
                      generalize V4.alloc (.cells #[.int .i64 0, .slice none 0 0] 26) = V5 at *
                      generalize V4.heap.size = nb at *
                      refine wpAnyS_only 14 (by kernel_rfl) (by simp; rfl) rfl rfl (fun K hK => ?_)
                      go_wp2_with fail
                      refine (among_any d (N + 200 + 8 * (199 - q) + 6) (some ⟨lb, 0, none⟩) 6 6 [30, 60, 90, 300, 3600, 1 + y] _ hd HT.out.st (by omega) rfl (by omega) (by omega) (by exact HB.out.rd) (fun b o sp e => by injection e with e; injection e with e; have := HBG.out; omega)).mono ?_
                      rintro e V6 ⟨⟨z, rfl, -⟩, hs, hg⟩
                      clear HB HBG
                      replace HN := hide (HN.out.grown hg (fun e => by injection e with e; have := HNG.out; omega))
                      replace HNL := hide (Nat.lt_of_lt_of_le HNL.out hg.size)
                      replace HT : Hid (TwAt d w rb tb (nd : Int) A c l (N + 200 + 8 * (199 - q) + 8) V6) := hide (HT.out.draw hs hg)
                      replace HG := hide (grown_trans HG.out hg)
                      clear hs hg
                      go_wp2_with fail
                      refine ⟨laterX_of HG.out, ?_⟩
                      refine wpAnyS_take_allE [15] 6 rfl (by kernel_rfl) (by intro c a d v w h; cases d <;> exact h) (by kernel_rfl) (by simp; rfl) rfl (laterX_of HG.out) ?_
                      repeat (go_big_quiet_step (fail))
                      refine wpQuiet_nil ?_
                      refine wpAnyS_only 16 (by kernel_rfl) (by simp; rfl) rfl rfl (fun K hK => ?_)
                      go_wp2_with fail
                      obtain ⟨p1, p2, p3, p4⟩ := own_pre HT.out.own
                      have HP := hide (And.intro p1 (And.intro p2 (And.intro p3 p4)))
                      clear p1 p2 p3 p4
                      refine (specAddStreet_all (nd : Int) A l.length c l x x' z _ rfl HP.out.1 HP.out.2.1 HP.out.2.2.1 HP.out.2.2.2).mono ?_
                      rintro e V7 ⟨⟨v', rfl, ho⟩, hq⟩
                      have HAB := hide (fun h => ads_town (nd := (nd : Int)) (l := l) (s := (x, x', z)) h)
                      have HQ0 : Hid (∀ q, v'.ownBlock = some q → q ≠ rb ∧ q ≠ tb ∧ (V6.heap.size ≤ q ∧ q < V7.heap.size)) := hide (fun q hq => by have h1 := ho.lt q hq; have h2 := HT.out.res.1; have h3 := HT.out.box.1; refine ⟨by omega, by omega, h1⟩)
                      have HO := hide (own_le ho HT.out.gr.size)
                      clear ho HP
                      replace HN := hide (HN.out.below hq)
                      have HQ : Hid (∀ q, v'.ownBlock = some q → q ≠ rb ∧ q ≠ tb ∧ q ≠ nb) := hide (fun q hq => ⟨(HQ0.out q hq).1, (HQ0.out q hq).2.1, by have := (HQ0.out q hq).2.2; have := HNL.out; omega⟩)
                      clear HQ0
                      replace HNL := hide (Nat.lt_of_lt_of_le HNL.out hq.size)
                      replace HT := hide (HT.out.below hq)
                      replace HG := hide (grown_trans HG.out (grown_of_below hq _))
                      clear hq
                      generalize adsL (nd : Int) l (x, x', z) = LL at *
                      generalize adsOk (nd : Int) l (x, x', z) = bb at *
                      generalize adsN (nd : Int) l (x, x', z) = nn at *
                      obtain ⟨AA, kk, hv, -⟩ := own_open HO.out
                      subst hv
                      go_wp2_with fail
                      refine ⟨laterX_of HG.out, ?_⟩
                      refine wpAnyS_take_allE [17, 18, 19] 2 rfl (by kernel_rfl) (by intro c a d v w h; cases d <;> exact h) (by kernel_rfl) (by simp; rfl) rfl (laterX_of HG.out) ?_
                      repeat (go_big_quiet_step (fail))
                      refine wpQuiet_nil ?_
                      refine wpAnyS_only 21 (by kernel_rfl) (by simp; rfl) rfl rfl (fun K hK => ?_)
                      have u0 := HN.out.2.1 0 _ rfl
                      have u1 := HN.out.2.1 1 _ rfl
                      have f0 := HN.out.free 0
                      have f1 := HN.out.free 1
                      have nz := HN.out.1
                      have HN9 := hide ((HN.out.set (k := 0) (by simp) (.int .i64 nn)).set (k := 1) (by simp) (.slice AA LL.length kk))
                      have HO9 := hide (own_put (p := ⟨nb, 1, none⟩) (own_put (p := ⟨nb, 0, none⟩) HO.out (fun q hq => (HQ.out q hq).2.2) (.int .i64 nn)) (fun q hq => (HQ.out q hq).2.2) (.slice AA LL.length kk))
                      have HT9 := hide ((HT.out.put (p := ⟨nb, 0, none⟩) HNO.out.1 HNO.out.2.1 HNO.out.2.2.1 HNO.out.2.2.2 (.int .i64 nn)).put (p := ⟨nb, 1, none⟩) HNO.out.1 HNO.out.2.1 HNO.out.2.2.1 HNO.out.2.2.2 (.slice AA LL.length kk))
                      have HG9 := hide (grown_put (grown_put HG.out (p := ⟨nb, 0, none⟩) HNW.out (.int .i64 nn)) (p := ⟨nb, 1, none⟩) HNW.out (.slice AA LL.length kk))
                      go_wp2_with fail
                      refine ⟨laterX_of HG9.out, ?_⟩
                      clear u0 u1 f0 f1 nz HG
                      have HG := HG9
                      refine wpAnyS_take_allE [22] 0 rfl (by kernel_rfl) (by intro c a d v w h; cases d <;> exact h) (by kernel_rfl) (by simp; rfl) rfl (laterX_of HG.out) ?_
                      repeat (go_big_quiet_step (fail))
                      refine wpQuiet_nil ?_
                      refine wpAnyH_done (by kernel_rfl) ?_ _
                      go_wp2_with fail
                      go_meet
                      exact ⟨nb, AA, kk, LL, bb, nn, rfl, rfl, HN9, HO9, HAB, hide (fun q hq => ⟨(HQ.out q hq).1, (HQ.out q hq).2.1⟩), HT9⟩
                  · go_wp2_with fail
                    have HN := hide (Row.new V3 #[.int .i64 0, .slice none 0 0] 26)
                    have HNO : Hid (w.heap.size ≤ V3.heap.size ∧ V3.heap.size ≠ rb ∧ V3.heap.size ≠ tb ∧ ∀ q, (Value.slice A l.length c).ownBlock = some q → q ≠ V3.heap.size) := hide ⟨HT.out.gr.size, by have := HT.out.res.1; omega, by have := HT.out.box.1; omega, fun q hq => by have := (HT.out.own.lt q hq).2; omega⟩
                    have HNG : Hid (V3.heap.size ≠ d.g) := hide (by have := HT.out.st.lt; omega)
                    have HNW : Hid (wr.heap.size ≤ V3.heap.size) := hide HG.out.size
                    replace HT := hide (HT.out.alloc (.cells #[.int .i64 0, .slice none 0 0] 26))
                    replace HG := hide (grown_new HG.out (.cells #[.int .i64 0, .slice none 0 0] 26))
                    have HNL : Hid (V3.heap.size < (V3.alloc (.cells #[.int .i64 0, .slice none 0 0] 26)).heap.size) := hide (by simp)
                    refine ⟨laterX_of HG.out, ?_⟩
                    generalize V3.alloc (.cells #[.int .i64 0, .slice none 0 0] 26) = V4 at *
                    generalize V3.heap.size = nb at *
                    refine wpAnyS_only 13 (by kernel_rfl) (by simp; rfl) rfl rfl (fun K hK => ?_)
                    have HB := hide (Row.new V4 #[.int .i64 (30), .int .i64 (60), .int .i64 (90), .int .i64 (300), .int .i64 (3600), .int .i64 (1 + y)] 3)
                    have HBG : Hid (V4.heap.size ≠ d.g) := hide (by have := HT.out.st.lt; omega)
                    replace HN := hide (HN.out.alloc (.cells #[.int .i64 30, .int .i64 60, .int .i64 90, .int .i64 300, .int .i64 3600, .int .i64 (1 + y)] 3))
                    replace HNL : Hid (nb < (V4.alloc (.cells #[.int .i64 30, .int .i64 60, .int .i64 90, .int .i64 300, .int .i64 3600, .int .i64 (1 + y)] 3)).heap.size) := hide (by have := HNL.out; simp; omega)
                    replace HT := hide (HT.out.alloc (.cells #[.int .i64 30, .int .i64 60, .int .i64 90, .int .i64 300, .int .i64 3600, .int .i64 (1 + y)] 3))
                    replace HG := hide (grown_new HG.out (.cells #[.int .i64 30, .int .i64 60, .int .i64 90, .int .i64 300, .int .i64 3600, .int .i64 (1 + y)] 3))
                    refine wp_ints6 (30) (60) (90) (300) (3600) (1 + y) (.const (.int .i64 30)) (.const (.int .i64 60)) (.const (.int .i64 90)) (.const (.int .i64 300)) (.const (.int .i64 3600)) (.tmp 64) rfl rfl rfl rfl rfl rfl rfl (hK _ _ ⟨laterX_of HG.out, ?_⟩)
                    simp only [Act.put, List.setIfInBounds_toArray, List.set_cons_succ, List.set_cons_zero]
                    generalize V4.alloc (.cells #[.int .i64 30, .int .i64 60, .int .i64 90, .int .i64 300, .int .i64 3600, .int .i64 (1 + y)] 3) = V5 at *
                    generalize V4.heap.size = lb at *
                    refine wpAnyS_only 14 (by kernel_rfl) (by simp; rfl) rfl rfl (fun K hK => ?_)
                    go_wp2_with fail
                    refine (among_any d (N + 200 + 8 * (199 - q) + 6) (some ⟨lb, 0, none⟩) 6 6 [30, 60, 90, 300, 3600, 1 + y] _ hd HT.out.st (by omega) rfl (by omega) (by omega) (by exact HB.out.rd) (fun b o sp e => by injection e with e; injection e with e; have := HBG.out; omega)).mono ?_
                    rintro e V6 ⟨⟨z, rfl, -⟩, hs, hg⟩
                    clear HB HBG
                    replace HN := hide (HN.out.grown hg (fun e => by injection e with e; have := HNG.out; omega))
                    replace HNL := hide (Nat.lt_of_lt_of_le HNL.out hg.size)
                    replace HT : Hid (TwAt d w rb tb (nd : Int) A c l (N + 200 + 8 * (199 - q) + 8) V6) := hide (HT.out.draw hs hg)
                    replace HG := hide (grown_trans HG.out hg)
                    clear hs hg
                    go_wp2_with fail
                    refine ⟨laterX_of HG.out, ?_⟩
                    refine wpAnyS_take_allE [15] 6 rfl (by kernel_rfl) (by intro c a d v w h; cases d <;> exact h) (by kernel_rfl) (by simp; rfl) rfl (laterX_of HG.out) ?_
                    repeat (go_big_quiet_step (fail))
                    refine wpQuiet_nil ?_
                    refine wpAnyS_only 16 (by kernel_rfl) (by simp; rfl) rfl rfl (fun K hK => ?_)
                    go_wp2_with fail
                    obtain ⟨p1, p2, p3, p4⟩ := own_pre HT.out.own
                    have HP := hide (And.intro p1 (And.intro p2 (And.intro p3 p4)))
                    clear p1 p2 p3 p4
                    refine (specAddStreet_all (nd : Int) A l.length c l x x' z _ rfl HP.out.1 HP.out.2.1 HP.out.2.2.1 HP.out.2.2.2).mono ?_
                    rintro e V7 ⟨⟨v', rfl, ho⟩, hq⟩
                    have HAB := hide (fun h => ads_town (nd := (nd : Int)) (l := l) (s := (x, x', z)) h)
                    have HQ0 : Hid (∀ q, v'.ownBlock = some q → q ≠ rb ∧ q ≠ tb ∧ (V6.heap.size ≤ q ∧ q < V7.heap.size)) := hide (fun q hq => by have h1 := ho.lt q hq; have h2 := HT.out.res.1; have h3 := HT.out.box.1; refine ⟨by omega, by omega, h1⟩)
                    have HO := hide (own_le ho HT.out.gr.size)
                    clear ho HP
                    replace HN := hide (HN.out.below hq)
                    have HQ : Hid (∀ q, v'.ownBlock = some q → q ≠ rb ∧ q ≠ tb ∧ q ≠ nb) := hide (fun q hq => ⟨(HQ0.out q hq).1, (HQ0.out q hq).2.1, by have := (HQ0.out q hq).2.2; have := HNL.out; omega⟩)
                    clear HQ0
                    replace HNL := hide (Nat.lt_of_lt_of_le HNL.out hq.size)
                    replace HT := hide (HT.out.below hq)
                    replace HG := hide (grown_trans HG.out (grown_of_below hq _))
                    clear hq
                    generalize adsL (nd : Int) l (x, x', z) = LL at *
                    generalize adsOk (nd : Int) l (x, x', z) = bb at *
                    generalize adsN (nd : Int) l (x, x', z) = nn at *
                    obtain ⟨AA, kk, hv, -⟩ := own_open HO.out
                    subst hv
                    go_wp2_with fail
                    refine ⟨laterX_of HG.out, ?_⟩
                    refine wpAnyS_take_allE [17, 18, 19] 2 rfl (by kernel_rfl) (by intro c a d v w h; cases d <;> exact h) (by kernel_rfl) (by simp; rfl) rfl (laterX_of HG.out) ?_
                    repeat (go_big_quiet_step (fail))
                    refine wpQuiet_nil ?_
                    refine wpAnyS_only 21 (by kernel_rfl) (by simp; rfl) rfl rfl (fun K hK => ?_)
                    have u0 := HN.out.2.1 0 _ rfl
                    have u1 := HN.out.2.1 1 _ rfl
                    have f0 := HN.out.free 0
                    have f1 := HN.out.free 1
                    have nz := HN.out.1
                    have HN9 := hide ((HN.out.set (k := 0) (by simp) (.int .i64 nn)).set (k := 1) (by simp) (.slice AA LL.length kk))
                    have HO9 := hide (own_put (p := ⟨nb, 1, none⟩) (own_put (p := ⟨nb, 0, none⟩) HO.out (fun q hq => (HQ.out q hq).2.2) (.int .i64 nn)) (fun q hq => (HQ.out q hq).2.2) (.slice AA LL.length kk))
                    have HT9 := hide ((HT.out.put (p := ⟨nb, 0, none⟩) HNO.out.1 HNO.out.2.1 HNO.out.2.2.1 HNO.out.2.2.2 (.int .i64 nn)).put (p := ⟨nb, 1, none⟩) HNO.out.1 HNO.out.2.1 HNO.out.2.2.1 HNO.out.2.2.2 (.slice AA LL.length kk))
                    have HG9 := hide (grown_put (grown_put HG.out (p := ⟨nb, 0, none⟩) HNW.out (.int .i64 nn)) (p := ⟨nb, 1, none⟩) HNW.out (.slice AA LL.length kk))
                    go_wp2_with fail
                    refine ⟨laterX_of HG9.out, ?_⟩
                    clear u0 u1 f0 f1 nz HG
                    have HG := HG9
                    refine wpAnyS_take_allE [22] 0 rfl (by kernel_rfl) (by intro c a d v w h; cases d <;> exact h) (by kernel_rfl) (by simp; rfl) rfl (laterX_of HG.out) ?_
                    repeat (go_big_quiet_step (fail))
                    refine wpQuiet_nil ?_
                    refine wpAnyH_done (by kernel_rfl) ?_ _
                    go_wp2_with fail
                    go_meet
                    exact ⟨nb, AA, kk, LL, bb, nn, rfl, rfl, HN9, HO9, HAB, hide (fun q hq => ⟨(HQ.out q hq).1, (HQ.out q hq).2.1⟩), HT9⟩
                · go_wp2_with fail
                  have HN := hide (Row.new V2 #[.int .i64 0, .slice none 0 0] 26)
                  have HNO : Hid (w.heap.size ≤ V2.heap.size ∧ V2.heap.size ≠ rb ∧ V2.heap.size ≠ tb ∧ ∀ q, (Value.slice A l.length c).ownBlock = some q → q ≠ V2.heap.size) := hide ⟨HT.out.gr.size, by have := HT.out.res.1; omega, by have := HT.out.box.1; omega, fun q hq => by have := (HT.out.own.lt q hq).2; omega⟩
                  have HNG : Hid (V2.heap.size ≠ d.g) := hide (by have := HT.out.st.lt; omega)
                  have HNW : Hid (wr.heap.size ≤ V2.heap.size) := hide HG.out.size
                  replace HT := hide (HT.out.alloc (.cells #[.int .i64 0, .slice none 0 0] 26))
                  replace HG := hide (grown_new HG.out (.cells #[.int .i64 0, .slice none 0 0] 26))
                  have HNL : Hid (V2.heap.size < (V2.alloc (.cells #[.int .i64 0, .slice none 0 0] 26)).heap.size) := hide (by simp)
                  refine ⟨laterX_of HG.out, ?_⟩
                  generalize V2.alloc (.cells #[.int .i64 0, .slice none 0 0] 26) = V3 at *
                  generalize V2.heap.size = nb at *
                  refine wpAnyS_only 11 (by kernel_rfl) (by simp; rfl) rfl rfl (fun K hK => ?_)
                  go_wp2_with fail
                  refine (pick_any d (N + 200 + 8 * (199 - q) + 4) 400 _ hd HT.out.st (by omega) (by omega)).mono ?_
                  rintro e V4 ⟨⟨y, rfl, y0, y1, y2⟩, hs, hg⟩
                  clear y1
                  replace HN := hide (HN.out.grown hg (fun e => by injection e with e; have := HNG.out; omega))
                  replace HNL := hide (Nat.lt_of_lt_of_le HNL.out hg.size)
                  replace HT : Hid (TwAt d w rb tb (nd : Int) A c l (N + 200 + 8 * (199 - q) + 6) V4) := hide (HT.out.draw hs hg)
                  replace HG := hide (grown_trans HG.out hg)
                  clear hs hg
                  go_wp2_with fail
                  refine ⟨laterX_of HG.out, ?_⟩
                  have hw1 : IntKind.i64.wrap (1 + y) = 1 + y := IntWalk.i64_in _ (by omega)
                  refine wpAnyS_take_allE [12] 9 rfl (by kernel_rfl) (by intro c a d v w h; cases d <;> exact h) (by kernel_rfl) (by simp; rfl) rfl (laterX_of HG.out) ?_
                  repeat (go_big_quiet_step (fail))
                  refine wpQuiet_nil ?_
                  clear hw1
                  refine wpAnyS_only 13 (by kernel_rfl) (by simp; rfl) rfl rfl (fun K hK => ?_)
                  have HB := hide (Row.new V4 #[.int .i64 (30), .int .i64 (60), .int .i64 (90), .int .i64 (300), .int .i64 (3600), .int .i64 (1 + y)] 3)
                  have HBG : Hid (V4.heap.size ≠ d.g) := hide (by have := HT.out.st.lt; omega)
                  replace HN := hide (HN.out.alloc (.cells #[.int .i64 30, .int .i64 60, .int .i64 90, .int .i64 300, .int .i64 3600, .int .i64 (1 + y)] 3))
                  replace HNL : Hid (nb < (V4.alloc (.cells #[.int .i64 30, .int .i64 60, .int .i64 90, .int .i64 300, .int .i64 3600, .int .i64 (1 + y)] 3)).heap.size) := hide (by have := HNL.out; simp; omega)
                  replace HT := hide (HT.out.alloc (.cells #[.int .i64 30, .int .i64 60, .int .i64 90, .int .i64 300, .int .i64 3600, .int .i64 (1 + y)] 3))
                  replace HG := hide (grown_new HG.out (.cells #[.int .i64 30, .int .i64 60, .int .i64 90, .int .i64 300, .int .i64 3600, .int .i64 (1 + y)] 3))
                  refine wp_ints6 (30) (60) (90) (300) (3600) (1 + y) (.const (.int .i64 30)) (.const (.int .i64 60)) (.const (.int .i64 90)) (.const (.int .i64 300)) (.const (.int .i64 3600)) (.tmp 64) rfl rfl rfl rfl rfl rfl rfl (hK _ _ ⟨laterX_of HG.out, ?_⟩)
                  simp only [Act.put, List.setIfInBounds_toArray, List.set_cons_succ, List.set_cons_zero]
                  generalize V4.alloc (.cells #[.int .i64 30, .int .i64 60, .int .i64 90, .int .i64 300, .int .i64 3600, .int .i64 (1 + y)] 3) = V5 at *
                  generalize V4.heap.size = lb at *
                  refine wpAnyS_only 14 (by kernel_rfl) (by simp; rfl) rfl rfl (fun K hK => ?_)
                  go_wp2_with fail
                  refine (among_any d (N + 200 + 8 * (199 - q) + 6) (some ⟨lb, 0, none⟩) 6 6 [30, 60, 90, 300, 3600, 1 + y] _ hd HT.out.st (by omega) rfl (by omega) (by omega) (by exact HB.out.rd) (fun b o sp e => by injection e with e; injection e with e; have := HBG.out; omega)).mono ?_
                  rintro e V6 ⟨⟨z, rfl, -⟩, hs, hg⟩
                  clear HB HBG
                  replace HN := hide (HN.out.grown hg (fun e => by injection e with e; have := HNG.out; omega))
                  replace HNL := hide (Nat.lt_of_lt_of_le HNL.out hg.size)
                  replace HT : Hid (TwAt d w rb tb (nd : Int) A c l (N + 200 + 8 * (199 - q) + 8) V6) := hide (HT.out.draw hs hg)
                  replace HG := hide (grown_trans HG.out hg)
                  clear hs hg
                  go_wp2_with fail
                  refine ⟨laterX_of HG.out, ?_⟩
                  refine wpAnyS_take_allE [15] 6 rfl (by kernel_rfl) (by intro c a d v w h; cases d <;> exact h) (by kernel_rfl) (by simp; rfl) rfl (laterX_of HG.out) ?_
                  repeat (go_big_quiet_step (fail))
                  refine wpQuiet_nil ?_
                  refine wpAnyS_only 16 (by kernel_rfl) (by simp; rfl) rfl rfl (fun K hK => ?_)
                  go_wp2_with fail
                  obtain ⟨p1, p2, p3, p4⟩ := own_pre HT.out.own
                  have HP := hide (And.intro p1 (And.intro p2 (And.intro p3 p4)))
                  clear p1 p2 p3 p4
                  refine (specAddStreet_all (nd : Int) A l.length c l x x' z _ rfl HP.out.1 HP.out.2.1 HP.out.2.2.1 HP.out.2.2.2).mono ?_
                  rintro e V7 ⟨⟨v', rfl, ho⟩, hq⟩
                  have HAB := hide (fun h => ads_town (nd := (nd : Int)) (l := l) (s := (x, x', z)) h)
                  have HQ0 : Hid (∀ q, v'.ownBlock = some q → q ≠ rb ∧ q ≠ tb ∧ (V6.heap.size ≤ q ∧ q < V7.heap.size)) := hide (fun q hq => by have h1 := ho.lt q hq; have h2 := HT.out.res.1; have h3 := HT.out.box.1; refine ⟨by omega, by omega, h1⟩)
                  have HO := hide (own_le ho HT.out.gr.size)
                  clear ho HP
                  replace HN := hide (HN.out.below hq)
                  have HQ : Hid (∀ q, v'.ownBlock = some q → q ≠ rb ∧ q ≠ tb ∧ q ≠ nb) := hide (fun q hq => ⟨(HQ0.out q hq).1, (HQ0.out q hq).2.1, by have := (HQ0.out q hq).2.2; have := HNL.out; omega⟩)
                  clear HQ0
                  replace HNL := hide (Nat.lt_of_lt_of_le HNL.out hq.size)
                  replace HT := hide (HT.out.below hq)
                  replace HG := hide (grown_trans HG.out (grown_of_below hq _))
                  clear hq
                  generalize adsL (nd : Int) l (x, x', z) = LL at *
                  generalize adsOk (nd : Int) l (x, x', z) = bb at *
                  generalize adsN (nd : Int) l (x, x', z) = nn at *
                  obtain ⟨AA, kk, hv, -⟩ := own_open HO.out
                  subst hv
                  go_wp2_with fail
                  refine ⟨laterX_of HG.out, ?_⟩
                  refine wpAnyS_take_allE [17, 18, 19] 2 rfl (by kernel_rfl) (by intro c a d v w h; cases d <;> exact h) (by kernel_rfl) (by simp; rfl) rfl (laterX_of HG.out) ?_
                  repeat (go_big_quiet_step (fail))
                  refine wpQuiet_nil ?_
                  refine wpAnyS_only 21 (by kernel_rfl) (by simp; rfl) rfl rfl (fun K hK => ?_)
                  have u0 := HN.out.2.1 0 _ rfl
                  have u1 := HN.out.2.1 1 _ rfl
                  have f0 := HN.out.free 0
                  have f1 := HN.out.free 1
                  have nz := HN.out.1
                  have HN9 := hide ((HN.out.set (k := 0) (by simp) (.int .i64 nn)).set (k := 1) (by simp) (.slice AA LL.length kk))
                  have HO9 := hide (own_put (p := ⟨nb, 1, none⟩) (own_put (p := ⟨nb, 0, none⟩) HO.out (fun q hq => (HQ.out q hq).2.2) (.int .i64 nn)) (fun q hq => (HQ.out q hq).2.2) (.slice AA LL.length kk))
                  have HT9 := hide ((HT.out.put (p := ⟨nb, 0, none⟩) HNO.out.1 HNO.out.2.1 HNO.out.2.2.1 HNO.out.2.2.2 (.int .i64 nn)).put (p := ⟨nb, 1, none⟩) HNO.out.1 HNO.out.2.1 HNO.out.2.2.1 HNO.out.2.2.2 (.slice AA LL.length kk))
                  have HG9 := hide (grown_put (grown_put HG.out (p := ⟨nb, 0, none⟩) HNW.out (.int .i64 nn)) (p := ⟨nb, 1, none⟩) HNW.out (.slice AA LL.length kk))
                  go_wp2_with fail
                  refine ⟨laterX_of HG9.out, ?_⟩
                  clear u0 u1 f0 f1 nz HG
                  have HG := HG9
                  refine wpAnyS_take_allE [22] 0 rfl (by kernel_rfl) (by intro c a d v w h; cases d <;> exact h) (by kernel_rfl) (by simp; rfl) rfl (laterX_of HG.out) ?_
                  repeat (go_big_quiet_step (fail))
                  refine wpQuiet_nil ?_
                  refine wpAnyH_done (by kernel_rfl) ?_ _
                  go_wp2_with fail
                  go_meet
                  exact ⟨nb, AA, kk, LL, bb, nn, rfl, rfl, HN9, HO9, HAB, hide (fun q hq => ⟨(HQ.out q hq).1, (HQ.out q hq).2.1⟩), HT9⟩
              · go_wp2_with fail
                have HN := hide (Row.new V1 #[.int .i64 0, .slice none 0 0] 26)
                have HNO : Hid (w.heap.size ≤ V1.heap.size ∧ V1.heap.size ≠ rb ∧ V1.heap.size ≠ tb ∧ ∀ q, (Value.slice A l.length c).ownBlock = some q → q ≠ V1.heap.size) := hide ⟨HT.out.gr.size, by have := HT.out.res.1; omega, by have := HT.out.box.1; omega, fun q hq => by have := (HT.out.own.lt q hq).2; omega⟩
                have HNG : Hid (V1.heap.size ≠ d.g) := hide (by have := HT.out.st.lt; omega)
                have HNW : Hid (wr.heap.size ≤ V1.heap.size) := hide HG.out.size
                replace HT := hide (HT.out.alloc (.cells #[.int .i64 0, .slice none 0 0] 26))
                replace HG := hide (grown_new HG.out (.cells #[.int .i64 0, .slice none 0 0] 26))
                have HNL : Hid (V1.heap.size < (V1.alloc (.cells #[.int .i64 0, .slice none 0 0] 26)).heap.size) := hide (by simp)
                refine ⟨laterX_of HG.out, ?_⟩
                generalize V1.alloc (.cells #[.int .i64 0, .slice none 0 0] 26) = V2 at *
                generalize V1.heap.size = nb at *
                refine wpAnyS_only 8 (by kernel_rfl) (by simp; rfl) rfl rfl (fun K hK => ?_)
                go_wp2_with fail
                refine (pick_any d (N + 200 + 8 * (199 - q) + 2) (nd : Int) _ hd HT.out.st (by omega) (by omega)).mono ?_
                rintro e V3 ⟨⟨x', rfl, x'0, x'1, x'2⟩, hs, hg⟩
                clear x'1
                replace HN := hide (HN.out.grown hg (fun e => by injection e with e; have := HNG.out; omega))
                replace HNL := hide (Nat.lt_of_lt_of_le HNL.out hg.size)
                replace HT : Hid (TwAt d w rb tb (nd : Int) A c l (N + 200 + 8 * (199 - q) + 4) V3) := hide (HT.out.draw hs hg)
                replace HG := hide (grown_trans HG.out hg)
                clear hs hg
                go_wp2_with fail
                refine ⟨laterX_of HG.out, ?_⟩
                refine wpAnyS_only 11 (by kernel_rfl) (by simp; rfl) rfl rfl (fun K hK => ?_)
                go_wp2_with fail
                refine (pick_any d (N + 200 + 8 * (199 - q) + 4) 400 _ hd HT.out.st (by omega) (by omega)).mono ?_
                rintro e V4 ⟨⟨y, rfl, y0, y1, y2⟩, hs, hg⟩
                clear y1
                replace HN := hide (HN.out.grown hg (fun e => by injection e with e; have := HNG.out; omega))
                replace HNL := hide (Nat.lt_of_lt_of_le HNL.out hg.size)
                replace HT : Hid (TwAt d w rb tb (nd : Int) A c l (N + 200 + 8 * (199 - q) + 6) V4) := hide (HT.out.draw hs hg)
                replace HG := hide (grown_trans HG.out hg)
                clear hs hg
                go_wp2_with fail
                refine ⟨laterX_of HG.out, ?_⟩
                have hw1 : IntKind.i64.wrap (1 + y) = 1 + y := IntWalk.i64_in _ (by omega)
                refine wpAnyS_take_allE [12] 9 rfl (by kernel_rfl) (by intro c a d v w h; cases d <;> exact h) (by kernel_rfl) (by simp; rfl) rfl (laterX_of HG.out) ?_
                repeat (go_big_quiet_step (fail))
                refine wpQuiet_nil ?_
                clear hw1
                refine wpAnyS_only 13 (by kernel_rfl) (by simp; rfl) rfl rfl (fun K hK => ?_)
                have HB := hide (Row.new V4 #[.int .i64 (30), .int .i64 (60), .int .i64 (90), .int .i64 (300), .int .i64 (3600), .int .i64 (1 + y)] 3)
                have HBG : Hid (V4.heap.size ≠ d.g) := hide (by have := HT.out.st.lt; omega)
                replace HN := hide (HN.out.alloc (.cells #[.int .i64 30, .int .i64 60, .int .i64 90, .int .i64 300, .int .i64 3600, .int .i64 (1 + y)] 3))
                replace HNL : Hid (nb < (V4.alloc (.cells #[.int .i64 30, .int .i64 60, .int .i64 90, .int .i64 300, .int .i64 3600, .int .i64 (1 + y)] 3)).heap.size) := hide (by have := HNL.out; simp; omega)
                replace HT := hide (HT.out.alloc (.cells #[.int .i64 30, .int .i64 60, .int .i64 90, .int .i64 300, .int .i64 3600, .int .i64 (1 + y)] 3))
                replace HG := hide (grown_new HG.out (.cells #[.int .i64 30, .int .i64 60, .int .i64 90, .int .i64 300, .int .i64 3600, .int .i64 (1 + y)] 3))
                refine wp_ints6 (30) (60) (90) (300) (3600) (1 + y) (.const (.int .i64 30)) (.const (.int .i64 60)) (.const (.int .i64 90)) (.const (.int .i64 300)) (.const (.int .i64 3600)) (.tmp 64) rfl rfl rfl rfl rfl rfl rfl (hK _ _ ⟨laterX_of HG.out, ?_⟩)
                simp only [Act.put, List.setIfInBounds_toArray, List.set_cons_succ, List.set_cons_zero]
                generalize V4.alloc (.cells #[.int .i64 30, .int .i64 60, .int .i64 90, .int .i64 300, .int .i64 3600, .int .i64 (1 + y)] 3) = V5 at *
                generalize V4.heap.size = lb at *
                refine wpAnyS_only 14 (by kernel_rfl) (by simp; rfl) rfl rfl (fun K hK => ?_)
                go_wp2_with fail
                refine (among_any d (N + 200 + 8 * (199 - q) + 6) (some ⟨lb, 0, none⟩) 6 6 [30, 60, 90, 300, 3600, 1 + y] _ hd HT.out.st (by omega) rfl (by omega) (by omega) (by exact HB.out.rd) (fun b o sp e => by injection e with e; injection e with e; have := HBG.out; omega)).mono ?_
                rintro e V6 ⟨⟨z, rfl, -⟩, hs, hg⟩
                clear HB HBG
                replace HN := hide (HN.out.grown hg (fun e => by injection e with e; have := HNG.out; omega))
                replace HNL := hide (Nat.lt_of_lt_of_le HNL.out hg.size)
                replace HT : Hid (TwAt d w rb tb (nd : Int) A c l (N + 200 + 8 * (199 - q) + 8) V6) := hide (HT.out.draw hs hg)
                replace HG := hide (grown_trans HG.out hg)
                clear hs hg
                go_wp2_with fail
                refine ⟨laterX_of HG.out, ?_⟩
                refine wpAnyS_take_allE [15] 6 rfl (by kernel_rfl) (by intro c a d v w h; cases d <;> exact h) (by kernel_rfl) (by simp; rfl) rfl (laterX_of HG.out) ?_
                repeat (go_big_quiet_step (fail))
                refine wpQuiet_nil ?_
                refine wpAnyS_only 16 (by kernel_rfl) (by simp; rfl) rfl rfl (fun K hK => ?_)
                go_wp2_with fail
                obtain ⟨p1, p2, p3, p4⟩ := own_pre HT.out.own
                have HP := hide (And.intro p1 (And.intro p2 (And.intro p3 p4)))
                clear p1 p2 p3 p4
                refine (specAddStreet_all (nd : Int) A l.length c l x x' z _ rfl HP.out.1 HP.out.2.1 HP.out.2.2.1 HP.out.2.2.2).mono ?_
                rintro e V7 ⟨⟨v', rfl, ho⟩, hq⟩
                have HAB := hide (fun h => ads_town (nd := (nd : Int)) (l := l) (s := (x, x', z)) h)
                have HQ0 : Hid (∀ q, v'.ownBlock = some q → q ≠ rb ∧ q ≠ tb ∧ (V6.heap.size ≤ q ∧ q < V7.heap.size)) := hide (fun q hq => by have h1 := ho.lt q hq; have h2 := HT.out.res.1; have h3 := HT.out.box.1; refine ⟨by omega, by omega, h1⟩)
                have HO := hide (own_le ho HT.out.gr.size)
                clear ho HP
                replace HN := hide (HN.out.below hq)
                have HQ : Hid (∀ q, v'.ownBlock = some q → q ≠ rb ∧ q ≠ tb ∧ q ≠ nb) := hide (fun q hq => ⟨(HQ0.out q hq).1, (HQ0.out q hq).2.1, by have := (HQ0.out q hq).2.2; have := HNL.out; omega⟩)
                clear HQ0
                replace HNL := hide (Nat.lt_of_lt_of_le HNL.out hq.size)
                replace HT := hide (HT.out.below hq)
                replace HG := hide (grown_trans HG.out (grown_of_below hq _))
                clear hq
                generalize adsL (nd : Int) l (x, x', z) = LL at *
                generalize adsOk (nd : Int) l (x, x', z) = bb at *
                generalize adsN (nd : Int) l (x, x', z) = nn at *
                obtain ⟨AA, kk, hv, -⟩ := own_open HO.out
                subst hv
                go_wp2_with fail
                refine ⟨laterX_of HG.out, ?_⟩
                refine wpAnyS_take_allE [17, 18, 19] 2 rfl (by kernel_rfl) (by intro c a d v w h; cases d <;> exact h) (by kernel_rfl) (by simp; rfl) rfl (laterX_of HG.out) ?_
                repeat (go_big_quiet_step (fail))
                refine wpQuiet_nil ?_
                refine wpAnyS_only 21 (by kernel_rfl) (by simp; rfl) rfl rfl (fun K hK => ?_)
                have u0 := HN.out.2.1 0 _ rfl
                have u1 := HN.out.2.1 1 _ rfl
                have f0 := HN.out.free 0
                have f1 := HN.out.free 1
                have nz := HN.out.1
                have HN9 := hide ((HN.out.set (k := 0) (by simp) (.int .i64 nn)).set (k := 1) (by simp) (.slice AA LL.length kk))
                have HO9 := hide (own_put (p := ⟨nb, 1, none⟩) (own_put (p := ⟨nb, 0, none⟩) HO.out (fun q hq => (HQ.out q hq).2.2) (.int .i64 nn)) (fun q hq => (HQ.out q hq).2.2) (.slice AA LL.length kk))
                have HT9 := hide ((HT.out.put (p := ⟨nb, 0, none⟩) HNO.out.1 HNO.out.2.1 HNO.out.2.2.1 HNO.out.2.2.2 (.int .i64 nn)).put (p := ⟨nb, 1, none⟩) HNO.out.1 HNO.out.2.1 HNO.out.2.2.1 HNO.out.2.2.2 (.slice AA LL.length kk))
                have HG9 := hide (grown_put (grown_put HG.out (p := ⟨nb, 0, none⟩) HNW.out (.int .i64 nn)) (p := ⟨nb, 1, none⟩) HNW.out (.slice AA LL.length kk))
                go_wp2_with fail
                refine ⟨laterX_of HG9.out, ?_⟩
                clear u0 u1 f0 f1 nz HG
                have HG := HG9
                refine wpAnyS_take_allE [22] 0 rfl (by kernel_rfl) (by intro c a d v w h; cases d <;> exact h) (by kernel_rfl) (by simp; rfl) rfl (laterX_of HG.out) ?_
                repeat (go_big_quiet_step (fail))
                refine wpQuiet_nil ?_
                refine wpAnyH_done (by kernel_rfl) ?_ _
                go_wp2_with fail
                go_meet
                exact ⟨nb, AA, kk, LL, bb, nn, rfl, rfl, HN9, HO9, HAB, hide (fun q hq => ⟨(HQ.out q hq).1, (HQ.out q hq).2.1⟩), HT9⟩
            · go_wp2_with fail
              have HN := hide (Row.new V0 #[.int .i64 0, .slice none 0 0] 26)
              have HNO : Hid (w.heap.size ≤ V0.heap.size ∧ V0.heap.size ≠ rb ∧ V0.heap.size ≠ tb ∧ ∀ q, (Value.slice A l.length c).ownBlock = some q → q ≠ V0.heap.size) := hide ⟨HT.out.gr.size, by have := HT.out.res.1; omega, by have := HT.out.box.1; omega, fun q hq => by have := (HT.out.own.lt q hq).2; omega⟩
              have HNG : Hid (V0.heap.size ≠ d.g) := hide (by have := HT.out.st.lt; omega)
              have HNW : Hid (wr.heap.size ≤ V0.heap.size) := hide HG.out.size
              replace HT := hide (HT.out.alloc (.cells #[.int .i64 0, .slice none 0 0] 26))
              replace HG := hide (grown_new HG.out (.cells #[.int .i64 0, .slice none 0 0] 26))
              have HNL : Hid (V0.heap.size < (V0.alloc (.cells #[.int .i64 0, .slice none 0 0] 26)).heap.size) := hide (by simp)
              refine ⟨laterX_of HG.out, ?_⟩
              generalize V0.alloc (.cells #[.int .i64 0, .slice none 0 0] 26) = V1 at *
              generalize V0.heap.size = nb at *
              refine wpAnyS_only 4 (by kernel_rfl) (by simp; rfl) rfl rfl (fun K hK => ?_)
              go_wp2_with fail
              refine (pick_any d (N + 200 + 8 * (199 - q) + 0) (nd : Int) _ hd HT.out.st (by omega) (by omega)).mono ?_
              rintro e V2 ⟨⟨x, rfl, x0, x1, x2⟩, hs, hg⟩
              clear x1
              replace HN := hide (HN.out.grown hg (fun e => by injection e with e; have := HNG.out; omega))
              replace HNL := hide (Nat.lt_of_lt_of_le HNL.out hg.size)
              replace HT : Hid (TwAt d w rb tb (nd : Int) A c l (N + 200 + 8 * (199 - q) + 2) V2) := hide (HT.out.draw hs hg)
              replace HG := hide (grown_trans HG.out hg)
              clear hs hg
              go_wp2_with fail
              refine ⟨laterX_of HG.out, ?_⟩
              refine wpAnyS_only 8 (by kernel_rfl) (by simp; rfl) rfl rfl (fun K hK => ?_)
              go_wp2_with fail
              refine (pick_any d (N + 200 + 8 * (199 - q) + 2) (nd : Int) _ hd HT.out.st (by omega) (by omega)).mono ?_
              rintro e V3 ⟨⟨x', rfl, x'0, x'1, x'2⟩, hs, hg⟩
              clear x'1
              replace HN := hide (HN.out.grown hg (fun e => by injection e with e; have := HNG.out; omega))
              replace HNL := hide (Nat.lt_of_lt_of_le HNL.out hg.size)
              replace HT : Hid (TwAt d w rb tb (nd : Int) A c l (N + 200 + 8 * (199 - q) + 4) V3) := hide (HT.out.draw hs hg)
              replace HG := hide (grown_trans HG.out hg)
              clear hs hg
              go_wp2_with fail
              refine ⟨laterX_of HG.out, ?_⟩
              refine wpAnyS_only 11 (by kernel_rfl) (by simp; rfl) rfl rfl (fun K hK => ?_)
              go_wp2_with fail
              refine (pick_any d (N + 200 + 8 * (199 - q) + 4) 400 _ hd HT.out.st (by omega) (by omega)).mono ?_
              rintro e V4 ⟨⟨y, rfl, y0, y1, y2⟩, hs, hg⟩
              clear y1
              replace HN := hide (HN.out.grown hg (fun e => by injection e with e; have := HNG.out; omega))
              replace HNL := hide (Nat.lt_of_lt_of_le HNL.out hg.size)
              replace HT : Hid (TwAt d w rb tb (nd : Int) A c l (N + 200 + 8 * (199 - q) + 6) V4) := hide (HT.out.draw hs hg)
              replace HG := hide (grown_trans HG.out hg)
              clear hs hg
              go_wp2_with fail
              refine ⟨laterX_of HG.out, ?_⟩
              have hw1 : IntKind.i64.wrap (1 + y) = 1 + y := IntWalk.i64_in _ (by omega)
              refine wpAnyS_take_allE [12] 9 rfl (by kernel_rfl) (by intro c a d v w h; cases d <;> exact h) (by kernel_rfl) (by simp; rfl) rfl (laterX_of HG.out) ?_
              repeat (go_big_quiet_step (fail))
              refine wpQuiet_nil ?_
              clear hw1
              refine wpAnyS_only 13 (by kernel_rfl) (by simp; rfl) rfl rfl (fun K hK => ?_)
              have HB := hide (Row.new V4 #[.int .i64 (30), .int .i64 (60), .int .i64 (90), .int .i64 (300), .int .i64 (3600), .int .i64 (1 + y)] 3)
              have HBG : Hid (V4.heap.size ≠ d.g) := hide (by have := HT.out.st.lt; omega)
              replace HN := hide (HN.out.alloc (.cells #[.int .i64 30, .int .i64 60, .int .i64 90, .int .i64 300, .int .i64 3600, .int .i64 (1 + y)] 3))
              replace HNL : Hid (nb < (V4.alloc (.cells #[.int .i64 30, .int .i64 60, .int .i64 90, .int .i64 300, .int .i64 3600, .int .i64 (1 + y)] 3)).heap.size) := hide (by have := HNL.out; simp; omega)
              replace HT := hide (HT.out.alloc (.cells #[.int .i64 30, .int .i64 60, .int .i64 90, .int .i64 300, .int .i64 3600, .int .i64 (1 + y)] 3))
              replace HG := hide (grown_new HG.out (.cells #[.int .i64 30, .int .i64 60, .int .i64 90, .int .i64 300, .int .i64 3600, .int .i64 (1 + y)] 3))
              refine wp_ints6 (30) (60) (90) (300) (3600) (1 + y) (.const (.int .i64 30)) (.const (.int .i64 60)) (.const (.int .i64 90)) (.const (.int .i64 300)) (.const (.int .i64 3600)) (.tmp 64) rfl rfl rfl rfl rfl rfl rfl (hK _ _ ⟨laterX_of HG.out, ?_⟩)
              simp only [Act.put, List.setIfInBounds_toArray, List.set_cons_succ, List.set_cons_zero]
              generalize V4.alloc (.cells #[.int .i64 30, .int .i64 60, .int .i64 90, .int .i64 300, .int .i64 3600, .int .i64 (1 + y)] 3) = V5 at *
              generalize V4.heap.size = lb at *
              refine wpAnyS_only 14 (by kernel_rfl) (by simp; rfl) rfl rfl (fun K hK => ?_)
              go_wp2_with fail
              refine (among_any d (N + 200 + 8 * (199 - q) + 6) (some ⟨lb, 0, none⟩) 6 6 [30, 60, 90, 300, 3600, 1 + y] _ hd HT.out.st (by omega) rfl (by omega) (by omega) (by exact HB.out.rd) (fun b o sp e => by injection e with e; injection e with e; have := HBG.out; omega)).mono ?_
              rintro e V6 ⟨⟨z, rfl, -⟩, hs, hg⟩
              clear HB HBG
              replace HN := hide (HN.out.grown hg (fun e => by injection e with e; have := HNG.out; omega))
              replace HNL := hide (Nat.lt_of_lt_of_le HNL.out hg.size)
              replace HT : Hid (TwAt d w rb tb (nd : Int) A c l (N + 200 + 8 * (199 - q) + 8) V6) := hide (HT.out.draw hs hg)
              replace HG := hide (grown_trans HG.out hg)
              clear hs hg
              go_wp2_with fail
              refine ⟨laterX_of HG.out, ?_⟩
              refine wpAnyS_take_allE [15] 6 rfl (by kernel_rfl) (by intro c a d v w h; cases d <;> exact h) (by kernel_rfl) (by simp; rfl) rfl (laterX_of HG.out) ?_
              repeat (go_big_quiet_step (fail))
              refine wpQuiet_nil ?_
              refine wpAnyS_only 16 (by kernel_rfl) (by simp; rfl) rfl rfl (fun K hK => ?_)
              go_wp2_with fail
              obtain ⟨p1, p2, p3, p4⟩ := own_pre HT.out.own
              have HP := hide (And.intro p1 (And.intro p2 (And.intro p3 p4)))
              clear p1 p2 p3 p4
              refine (specAddStreet_all (nd : Int) A l.length c l x x' z _ rfl HP.out.1 HP.out.2.1 HP.out.2.2.1 HP.out.2.2.2).mono ?_
              rintro e V7 ⟨⟨v', rfl, ho⟩, hq⟩
              have HAB := hide (fun h => ads_town (nd := (nd : Int)) (l := l) (s := (x, x', z)) h)
              have HQ0 : Hid (∀ q, v'.ownBlock = some q → q ≠ rb ∧ q ≠ tb ∧ (V6.heap.size ≤ q ∧ q < V7.heap.size)) := hide (fun q hq => by have h1 := ho.lt q hq; have h2 := HT.out.res.1; have h3 := HT.out.box.1; refine ⟨by omega, by omega, h1⟩)
              have HO := hide (own_le ho HT.out.gr.size)
              clear ho HP
              replace HN := hide (HN.out.below hq)
              have HQ : Hid (∀ q, v'.ownBlock = some q → q ≠ rb ∧ q ≠ tb ∧ q ≠ nb) := hide (fun q hq => ⟨(HQ0.out q hq).1, (HQ0.out q hq).2.1, by have := (HQ0.out q hq).2.2; have := HNL.out; omega⟩)
              clear HQ0
              replace HNL := hide (Nat.lt_of_lt_of_le HNL.out hq.size)
              replace HT := hide (HT.out.below hq)
              replace HG := hide (grown_trans HG.out (grown_of_below hq _))
              clear hq
              generalize adsL (nd : Int) l (x, x', z) = LL at *
              generalize adsOk (nd : Int) l (x, x', z) = bb at *
              generalize adsN (nd : Int) l (x, x', z) = nn at *
              obtain ⟨AA, kk, hv, -⟩ := own_open HO.out
              subst hv
              go_wp2_with fail
              refine ⟨laterX_of HG.out, ?_⟩
              refine wpAnyS_take_allE [17, 18, 19] 2 rfl (by kernel_rfl) (by intro c a d v w h; cases d <;> exact h) (by kernel_rfl) (by simp; rfl) rfl (laterX_of HG.out) ?_
              repeat (go_big_quiet_step (fail))
              refine wpQuiet_nil ?_
              refine wpAnyS_only 21 (by kernel_rfl) (by simp; rfl) rfl rfl (fun K hK => ?_)
              have u0 := HN.out.2.1 0 _ rfl
              have u1 := HN.out.2.1 1 _ rfl
              have f0 := HN.out.free 0
              have f1 := HN.out.free 1
              have nz := HN.out.1
              have HN9 := hide ((HN.out.set (k := 0) (by simp) (.int .i64 nn)).set (k := 1) (by simp) (.slice AA LL.length kk))
              have HO9 := hide (own_put (p := ⟨nb, 1, none⟩) (own_put (p := ⟨nb, 0, none⟩) HO.out (fun q hq => (HQ.out q hq).2.2) (.int .i64 nn)) (fun q hq => (HQ.out q hq).2.2) (.slice AA LL.length kk))
              have HT9 := hide ((HT.out.put (p := ⟨nb, 0, none⟩) HNO.out.1 HNO.out.2.1 HNO.out.2.2.1 HNO.out.2.2.2 (.int .i64 nn)).put (p := ⟨nb, 1, none⟩) HNO.out.1 HNO.out.2.1 HNO.out.2.2.1 HNO.out.2.2.2 (.slice AA LL.length kk))
              have HG9 := hide (grown_put (grown_put HG.out (p := ⟨nb, 0, none⟩) HNW.out (.int .i64 nn)) (p := ⟨nb, 1, none⟩) HNW.out (.slice AA LL.length kk))
              go_wp2_with fail
              refine ⟨laterX_of HG9.out, ?_⟩
              clear u0 u1 f0 f1 nz HG
              have HG := HG9
              refine wpAnyS_take_allE [22] 0 rfl (by kernel_rfl) (by intro c a d v w h; cases d <;> exact h) (by kernel_rfl) (by simp; rfl) rfl (laterX_of HG.out) ?_
              repeat (go_big_quiet_step (fail))
              refine wpQuiet_nil ?_
              refine wpAnyH_done (by kernel_rfl) ?_ _
              go_wp2_with fail
              go_meet
              exact ⟨nb, AA, kk, LL, bb, nn, rfl, rfl, HN9, HO9, HAB, hide (fun q hq => ⟨(HQ.out q hq).1, (HQ.out q hq).2.1⟩), HT9⟩
          clear HT
          obtain ⟨nb, AA, kk, LL, bb, nn, rfl, rfl, HN, HO, HAB, HQ, HT⟩ := hcut
          cases bb with
          | false =>
            clear HN HO HAB HQ
            go_wp2
            go_roundg (gk - 1)
            case rel => exact ⟨q, A, c, l, by go_num, by omega, hide (by have := HGK.out; omega), HLE, hide (HT.out.more (by omega))⟩
            case measure => have := HGK.out; omega
          | true =>
            obtain ⟨hnn, hLL⟩ := HAB.out rfl
            have HLL := hide hLL
            subst hnn
            have HT9 := hide (HT.out.set (nd : Int) HO.out HQ.out)
            have t0 := HT.out.box.2.1 0 _ rfl
            have t1 := HT.out.box.2.1 1 _ rfl
            have f0 := HT.out.box.free 0
            have f1 := HT.out.box.free 1
            have tz := HT.out.box.1
            have n0 := HN.out.2.1 0 _ rfl
            have n1 := HN.out.2.1 1 _ rfl
            have nz := HN.out.1
            clear hLL HAB
            go_wp2
            go_roundg (gk - 1)
            case rel => exact ⟨q, AA, kk, LL, by go_num, by omega, hide (by have := HGK.out; omega), HLL, hide (HT9.out.more (by omega))⟩
            case measure => have := HGK.out; omega
        · obtain rfl : m = 0 := by omega
          have t0 := HT.out.box.2.1 0 _ rfl
          have t1 := HT.out.box.2.1 1 _ rfl
          have tz := HT.out.box.1
          have u0 := HT.out.res.2.1 0 _ rfl
          have u1 := HT.out.res.2.1 1 _ rfl
          have f0 := HT.out.res.free 0
          have f1 := HT.out.res.free 1
          have uz := HT.out.res.1
          go_wp2
          exact bodyPost_ret (v := .agg #[.int .i64 (nd : Int), .slice A l.length c]) (by simp [results, Tryz.results64, go_sem, *]) rfl (HT.out.done HLE.out (townB_len HLE.out) (by omega) _ _)
end Go.Proofs.YtbhnaakknfienaaGreatDoor
namespace Go.Proofs.YtbhnaakknfienaaGreatDoor
open Go.RowKit
set_option linter.unusedVariables false

set_option maxHeartbeats 8000000 in
theorem nodeOf_any (d : Drw) (N : Nat) (nd : Int) (A : Option Addr) (k c : Nat) (w : World) (hd : d.ok) (h : d.st N w) (hN : N ≤ 100000000000) :
    Calls Tryz.prog 34 #[.pointer (some ⟨d.g, 0, none⟩), .agg #[.int .i64 nd, .slice A k c]] w (DrwInt d (N + 14) w fun _ => True) := by
  have H := hide (h.alloc (.cells #[.int .i64 nd, .slice A k c] 26))
  have HG := hide (grown_of_below ((Below.refl _ _).alloc (Nat.le_refl w.heap.size) (.cells #[.int .i64 nd, .slice A k c] 26)) (some d.g))
  clear h
  go_enter Tryz.func34, Tryz.ntmps34
  go_wp2_with fail
  refine (l1Least_any 14 nd _).mono ?_
  rintro e w' ⟨rfl, rfl⟩
  go_wp2_with fail
  refine (l1Most_any 1 (min 14 nd) _).mono ?_
  rintro e w' ⟨rfl, rfl⟩
  have hn1 : 1 ≤ max 1 (min 14 nd) := by omega
  have hn2 : max 1 (min 14 nd) ≤ 14 := by omega
  generalize max 1 (min 14 nd) = n at *
  generalize w.alloc (.cells #[.int .i64 nd, .slice A k c] 26) = w0 at *
  go_wp2_with fail
  refine (pick_any d (N + 0) n w0 hd H.out (by omega) (by omega)).mono ?_
  rintro e w1 ⟨⟨x1, rfl, -, -, -⟩, hs, hg⟩
  replace H := hide hs
  replace HG := hide (grown_trans HG.out hg)
  clear hs hg
  go_wp2_with fail
  refine (pick_any d (N + 2) n w1 hd H.out (by omega) (by omega)).mono ?_
  rintro e w2 ⟨⟨x2, rfl, -, -, -⟩, hs, hg⟩
  replace H := hide hs
  replace HG := hide (grown_trans HG.out hg)
  clear hs hg
  go_wp2_with fail
  refine (pick_any d (N + 4) n w2 hd H.out (by omega) (by omega)).mono ?_
  rintro e w3 ⟨⟨x3, rfl, -, -, -⟩, hs, hg⟩
  replace H := hide hs
  replace HG := hide (grown_trans HG.out hg)
  clear hs hg
  go_wp2_with fail
  refine (pick_any d (N + 6) n w3 hd H.out (by omega) (by omega)).mono ?_
  rintro e w4 ⟨⟨x4, rfl, -, -, -⟩, hs, hg⟩
  replace H := hide hs
  replace HG := hide (grown_trans HG.out hg)
  clear hs hg
  go_wp2_with fail
  refine (pick_any d (N + 8) n w4 hd H.out (by omega) (by omega)).mono ?_
  rintro e w5 ⟨⟨x5, rfl, -, -, -⟩, hs, hg⟩
  replace H := hide hs
  replace HG := hide (grown_trans HG.out hg)
  clear hs hg
  go_wp2_with fail
  refine (among_lit d (N + 10) [-1, n] _ _ (by simp) hd H.out (by omega) (by simp) (by simp)).mono ?_
  rintro e w6 ⟨⟨x6, rfl, -⟩, hs, hg⟩
  replace H := hide hs
  replace HG := hide (grown_trans HG.out hg)
  clear hs hg
  go_wp2_with fail
  refine (among_lit d (N + 12) [0, n - 1, x1, x2, x3, x4, x5, x6] _ _ (by simp) hd H.out (by omega) (by simp) (by simp)).mono ?_
  rintro e w7 ⟨⟨x7, rfl, -⟩, hs, hg⟩
  replace H := hide hs
  replace HG := hide (grown_trans HG.out hg)
  clear hs hg
  go_wp2
  go_ret
  exact ⟨⟨x7, rfl, trivial⟩, H.out, HG.out⟩
end Go.Proofs.YtbhnaakknfienaaGreatDoor
namespace Go.Proofs.YtbhnaakknfienaaGreatDoor
open Go.RowKit
set_option linter.unusedVariables false

theorem infoStreetD : (Tryz.prog.info? 39).map (fun i => (i.zero, i.size, i.bytes)) = some (some (.agg #[.int .i64 0, .int .i64 0, .int .i64 0]), 3, 24) := by kernel_rfl

set_option maxRecDepth 100000 in
set_option maxHeartbeats 16000000 in
theorem anyTown_any (d : Drw) (N : Nat) (w : World) (hd : d.ok) (h : d.st N w) (hN : N ≤ 1000000000) :
    Calls Tryz.prog 31 #[.pointer (some ⟨d.g, 0, none⟩)] w (DrwTown d (N + 5000) 41 (fun _ _ => True) w) := by
  have H := hide h
  have HD := hide (show d.g < w.heap.size ∧ d.W0.heap.size ≤ d.g from ⟨h.lt, hd.2.2.2.2⟩)
  obtain ⟨i0, hi0, hz0, hz1, hz2⟩ := info_parts infoStreetD
  have Hi := hide hi0
  have Hz := hide (And.intro hz0 (And.intro hz1 hz2))
  clear h hi0 hz0 hz1 hz2
  go_enter Tryz.func31, Tryz.ntmps31
  go_wp2_with fail
  have HR := hide (Row.new w #[.int .i64 0, .slice none 0 0] 26)
  refine (town_any d N _ hd (H.out.alloc _) (by omega)).mono ?_
  rintro e w1 ⟨⟨nd, A, c, l, rfl, -, hl, ho⟩, hs, hg⟩
  have HL : Hid (l.length ≤ 40) := hide hl
  have HG := hide (grown_trans (grown_of_below ((Below.refl _ _).alloc (Nat.le_refl _) (.cells #[.int .i64 0, .slice none 0 0] 26)) _) hg)
  replace HR := hide (HR.out.grown hg (fun e => by injection e with e; have := HD.out; omega))
  go_wp2_with fail
  have HT : Hid (TwAt d w w.heap.size w1.heap.size nd A c l (N + 4000) (w1.alloc (.cells #[.int .i64 nd, .slice A l.length c] 26))) := hide ⟨HD.out.2, hs.alloc _, grown_new HG.out _, HR.out.alloc _, Row.new _ _ _, World.ownsRow.alloc (own_le ho (by simp)) _, ⟨HD.out.1, Nat.le_refl _, HR.out.1⟩, fun q hq => by
    have h1 := ho.lt q hq
    have h2 : (w.alloc (.cells #[.int .i64 0, .slice none 0 0] 26)).heap.size = w.heap.size + 1 := by simp
    rw [h2] at h1
    exact ⟨by omega, by omega⟩⟩
  clear HR HG HD hs hg ho hl H
  generalize w1.alloc (.cells #[.int .i64 nd, .slice A l.length c] 26) = w2 at *
  generalize w1.heap.size = tb at *
  obtain ⟨rb, hrb⟩ : ∃ rb, rb = w.heap.size := ⟨_, rfl⟩
  rw [← hrb] at HT ⊢
  clear hrb
  refine (pick_any d (N + 4000) 30 _ hd HT.out.st (by omega) (by omega)).mono ?_
  rintro e w4 ⟨⟨p, rfl, hp0, hp1, hp2⟩, hs, hg⟩
  replace HT : Hid (TwAt d w rb tb nd A c l (N + 4002) w4) := hide (HT.out.draw hs hg)
  clear hs hg hp1
  by_cases h0 : p = 0
  · have h0' : (p == 0) = true := by simpa using h0
    clear h0 hp0 hp2
    go_wp2_with fail
    refine (among_lit d (N + 4002) [0, -1, 15, 4611686018427387904] _ _ (by simp) hd HT.out.st (by omega) (by simp) (by simp)).mono ?_
    rintro e w5 ⟨⟨y, rfl, -⟩, hs, hg⟩
    replace HT := hide (HT.out.draw hs hg)
    clear hs hg
    have b0 := HT.out.box.2.1 0 _ rfl
    have b1 := HT.out.box.2.1 1 _ rfl
    have g0 := HT.out.box.free 0
    have g1 := HT.out.box.free 1
    have r0 := HT.out.res.2.1 0 _ rfl
    have r1 := HT.out.res.2.1 1 _ rfl
    have q0 := HT.out.res.free 0
    have q1 := HT.out.res.free 1
    have bz := HT.out.box.1
    have rz := HT.out.res.1
    have n1 : tb ≠ rb := by have := HT.out.ord; omega
    have n2 : rb ≠ tb := Ne.symm n1
    go_wp2
    exact bodyPost_ret (v := .agg #[.int .i64 y, .slice A l.length c]) (by simp [results, Tryz.results31, go_sem, *]) rfl ((HT.out.setN y).done trivial (Nat.le_trans HL.out (by omega)) (by omega) _ _)
  · have h0' : (p == 0) = false := by simpa using h0
    by_cases h1 : p = 1
    · have h1' : (p == 1) = true := by simpa using h1
      clear h0 h1 hp0 hp2
      as_aux_lemma =>
        have t0 := HT.out.box.2.1 0 _ rfl
        have t1 := HT.out.box.2.1 1 _ rfl
        have tz := HT.out.box.1
        have tg : tb ≠ d.g := by have := HT.out.ord; omega
        go_wp2_with fail
        refine wpAnyX_start (fun w' => ∃ n : LaterX w4 d.g, w' = n.w) [12, 14] (n := 15) (by kernel_rfl) rfl rfl ?_
        refine wpAnyX_take [0, 1, 2, 5, 7] 10 rfl (by kernel_rfl) (by intro c a d v w h; cases d <;> exact h) (by kernel_rfl) (by kernel_rfl) (by kernel_rfl) (by simp; rfl) rfl (laterX_drew _ _) ?_
        repeat (go_big_quiet_step (fail))
        refine wpQuiet_nil ?_
        have HG : Hid (w4.grownBy w4.drew (some d.g)) := hide (grown_of_below (Below.refl _ _).drew _)
        replace HT := hide HT.out.drew
        clear t0 t1 tz tg
        generalize w4.drew = V0 at *
        refine wpAnyX_two 3 8 (by kernel_rfl) (by simp; rfl) (by simp; rfl) rfl rfl rfl rfl (fun K hK => ?_) (fun K hK => ?_)
        · go_wp2_with fail
          refine (pick_any d (N + 4002) 3 _ hd HT.out.st (by omega) (by omega)).mono ?_
          rintro e V1 ⟨⟨x, rfl, x0, x1, x2⟩, hs, hg⟩
          clear x1
          replace HT : Hid (TwAt d w rb tb nd A c l (N + 4004) V1) := hide (HT.out.draw hs hg)
          replace HG := hide (grown_trans HG.out hg)
          clear hs hg
          go_wp2_with fail
          refine ⟨laterX_of HG.out, ?_⟩
          have hw1 : IntKind.i64.wrap (x - 1) = x - 1 := IntWalk.i64_in _ (by omega)
          refine wpAnyX_take [4] 8 rfl (by kernel_rfl) (by intro c a d v w h; cases d <;> exact h) (by kernel_rfl) (by kernel_rfl) (by kernel_rfl) (by simp; rfl) rfl (laterX_of HG.out) ?_
          repeat (go_big_quiet_step (fail))
          refine wpQuiet_nil ?_
          clear hw1
          refine wpAnyX_two 6 8 (by kernel_rfl) (by simp; rfl) (by simp; rfl) rfl rfl rfl rfl (fun K hK => ?_) (fun K hK => ?_)
          · go_wp2_with fail
            refine (pick_any d (N + 4004) 4 _ hd HT.out.st (by omega) (by omega)).mono ?_
            rintro e V2 ⟨⟨y, rfl, y0, y1, y2⟩, hs, hg⟩
            clear y1
            replace HT : Hid (TwAt d w rb tb nd A c l (N + 4006) V2) := hide (HT.out.draw hs hg)
            replace HG := hide (grown_trans HG.out hg)
            clear hs hg
            go_wp2_with fail
            refine ⟨laterX_of HG.out, ?_⟩
            refine wpAnyX_only 8 (by kernel_rfl) (by simp; rfl) rfl rfl (fun K hK => ?_)
            have HB := hide (Row.new V2 #[.int .i64 60, .int .i64 0, .int .i64 3601] 3)
            have HBG : Hid (V2.heap.size ≠ d.g) := hide (by have := HT.out.st.lt; omega)
            replace HT := hide (HT.out.alloc (.cells #[.int .i64 60, .int .i64 0, .int .i64 3601] 3))
            replace HG := hide (grown_new HG.out (.cells #[.int .i64 60, .int .i64 0, .int .i64 3601] 3))
            refine wp_ints3 60 0 3601 (.const (.int .i64 60)) (.const (.int .i64 0)) (.const (.int .i64 3601)) rfl rfl rfl rfl (hK _ _ ⟨laterX_of HG.out, ?_⟩)
            simp only [Act.put, List.setIfInBounds_toArray, List.set_cons_succ, List.set_cons_zero]
            generalize V2.alloc (.cells #[.int .i64 60, .int .i64 0, .int .i64 3601] 3) = V3 at *
            generalize V2.heap.size = lb at *
            refine wpAnyX_only 9 (by kernel_rfl) (by simp; rfl) rfl rfl (fun K hK => ?_)
            go_wp2_with fail
            refine (among_any d (N + 4006) (some ⟨lb, 0, none⟩) 3 3 [60, 0, 3601] _ hd HT.out.st (by omega) rfl (by omega) (by omega) (by exact HB.out.rd) (fun b o sp e => by injection e with e; injection e with e; have := HBG.out; omega)).mono ?_
            rintro e V4 ⟨⟨z, rfl, -⟩, hs, hg⟩
            clear HB HBG
            replace HT : Hid (TwAt d w rb tb nd A c l (N + 4008) V4) := hide (HT.out.draw hs hg)
            replace HG := hide (grown_trans HG.out hg)
            clear hs hg
            go_wp2_with fail
            refine ⟨laterX_of HG.out, ?_⟩
            refine wpAnyX_take [10] 4 rfl (by kernel_rfl) (by intro c a d v w h; cases d <;> exact h) (by kernel_rfl) (by kernel_rfl) (by kernel_rfl) (by simp; rfl) rfl (laterX_of HG.out) ?_
            repeat (go_big_quiet_step (fail))
            refine wpQuiet_nil ?_
            refine wpAnyX_only 11 (by kernel_rfl) (by simp; rfl) rfl rfl (fun K hK => ?_)
            go_wp2_with fail
            have HS := hide (Row.new V4 #[.int .i64 (x - 1), .int .i64 y, .int .i64 z] 39)
            replace HT := hide (HT.out.alloc (.cells #[.int .i64 (x - 1), .int .i64 y, .int .i64 z] 39))
            replace HG := hide (grown_new HG.out (.cells #[.int .i64 (x - 1), .int .i64 y, .int .i64 z] 39))
            refine ⟨laterX_of HG.out, ?_⟩
            generalize V4.alloc (.cells #[.int .i64 (x - 1), .int .i64 y, .int .i64 z] 39) = V5 at *
            generalize V4.heap.size = sb at *
            refine wpAnyX_last 12 (by kernel_rfl) (by simp; rfl) rfl rfl (by kernel_rfl) (fun K hK => ?_)
            have hml : maxLen = 9223372036854775807 := rfl
            have HLE := hide (show l.length ≤ 40 from HL.out)
            refine wp_append_lies _ (.tmp 19) (.tmp 29) 24 rfl w.heap.size 39 i0 _ 3 24 Tryz.underlying24 Hi.out Hz.out.1 Hz.out.2.1 Hz.out.2.2 rfl (by decide) (.slice A l.length c) l.length (l.flatMap tcells) rfl HT.out.own ⟨sb, 0, none⟩ 1 1 (tcells (x - 1, y, z)) rfl rfl (fun j u hu => by rw [Addr.add_lit, Nat.zero_add]; exact HS.out.2.1 j u hu) (fun u hu => tcells_ones [(x - 1, y, z)] u (by simpa using hu)) (by omega) (by have := HLE.out; omega) (by have := HLE.out; omega) HT.out.gr.size V5.heap.size rfl (fun g' cap' V9 ho' hg' hw' hlt' => ?_)
            have HF := hide (HT.out.far hg')
            have HT9 := hide (HT.out.append hg' hw' ho')
            clear HS hml hg' hw' ho' hlt' HG
            refine hK _ _ ?_
            simp only [Act.put, List.setIfInBounds_toArray, List.set_cons_succ, List.set_cons_zero]
            refine wpAnyX_last 13 (by kernel_rfl) (by simp; rfl) rfl rfl (by kernel_rfl) (fun K hK => ?_)
            go_wp2_with fail
            refine wpAnyX_last 14 (by kernel_rfl) (by simp; rfl) rfl rfl (by kernel_rfl) (fun K hK => ?_)
            have t0 := HF.out.2.2.1 0 _ rfl
            have t1 := HF.out.2.2.1 1 _ rfl
            have f1 := HF.out.2.free 1
            have tz := HF.out.2.1
            go_wp2_with fail
            refine wpAnyX_done (by kernel_rfl) ?_ _
            clear t0 t1 f1 tz HF
            replace HT := HT9
            clear HT9
            have HLL := hide (show (l ++ [(x - 1, y, z)]).length ≤ 41 by have := HL.out; simp; omega)
            generalize V9.setCell ⟨tb, 1, none⟩ (.slice (some ⟨g', 0, none⟩) (l.length + 1) cap') = W9 at *
            generalize l ++ [(x - 1, y, z)] = LL at *
            have b0 := HT.out.box.2.1 0 _ rfl
            have b1 := HT.out.box.2.1 1 _ rfl
            have g0 := HT.out.box.free 0
            have g1 := HT.out.box.free 1
            have r0 := HT.out.res.2.1 0 _ rfl
            have r1 := HT.out.res.2.1 1 _ rfl
            have q0 := HT.out.res.free 0
            have q1 := HT.out.res.free 1
            have bz := HT.out.box.1
            have rz := HT.out.res.1
            have n1 : tb ≠ rb := by have := HT.out.ord; omega
            have n2 : rb ≠ tb := Ne.symm n1
            go_wp2
            exact bodyPost_ret (v := .agg #[.int .i64 nd, .slice (some ⟨g', 0, none⟩) LL.length cap']) (by simp [results, Tryz.results31, go_sem, *]) rfl (HT.out.done trivial HLL.out (by omega) _ _)
          · have HB := hide (Row.new V1 #[.int .i64 60, .int .i64 0, .int .i64 3601] 3)
            have HBG : Hid (V1.heap.size ≠ d.g) := hide (by have := HT.out.st.lt; omega)
            replace HT := hide (HT.out.alloc (.cells #[.int .i64 60, .int .i64 0, .int .i64 3601] 3))
            replace HG := hide (grown_new HG.out (.cells #[.int .i64 60, .int .i64 0, .int .i64 3601] 3))
            refine wp_ints3 60 0 3601 (.const (.int .i64 60)) (.const (.int .i64 0)) (.const (.int .i64 3601)) rfl rfl rfl rfl (hK _ _ ⟨laterX_of HG.out, ?_⟩)
            simp only [Act.put, List.setIfInBounds_toArray, List.set_cons_succ, List.set_cons_zero]
            generalize V1.alloc (.cells #[.int .i64 60, .int .i64 0, .int .i64 3601] 3) = V2 at *
            generalize V1.heap.size = lb at *
            refine wpAnyX_only 6 (by kernel_rfl) (by simp; rfl) rfl rfl (fun K hK => ?_)
            go_wp2_with fail
            refine (pick_any d (N + 4004) 4 _ hd HT.out.st (by omega) (by omega)).mono ?_
            rintro e V3 ⟨⟨y, rfl, y0, y1, y2⟩, hs, hg⟩
            clear y1
            replace HB := hide (HB.out.grown hg (fun e => by injection e with e; have := HBG.out; omega))
            replace HT : Hid (TwAt d w rb tb nd A c l (N + 4006) V3) := hide (HT.out.draw hs hg)
            replace HG := hide (grown_trans HG.out hg)
            clear hs hg
            go_wp2_with fail
            refine ⟨laterX_of HG.out, ?_⟩
            refine wpAnyX_only 9 (by kernel_rfl) (by simp; rfl) rfl rfl (fun K hK => ?_)
            go_wp2_with fail
            refine (among_any d (N + 4006) (some ⟨lb, 0, none⟩) 3 3 [60, 0, 3601] _ hd HT.out.st (by omega) rfl (by omega) (by omega) (by exact HB.out.rd) (fun b o sp e => by injection e with e; injection e with e; have := HBG.out; omega)).mono ?_
            rintro e V4 ⟨⟨z, rfl, -⟩, hs, hg⟩
            clear HB HBG
            replace HT : Hid (TwAt d w rb tb nd A c l (N + 4008) V4) := hide (HT.out.draw hs hg)
            replace HG := hide (grown_trans HG.out hg)
            clear hs hg
            go_wp2_with fail
            refine ⟨laterX_of HG.out, ?_⟩
            refine wpAnyX_take [10] 4 rfl (by kernel_rfl) (by intro c a d v w h; cases d <;> exact h) (by kernel_rfl) (by kernel_rfl) (by kernel_rfl) (by simp; rfl) rfl (laterX_of HG.out) ?_
            repeat (go_big_quiet_step (fail))
            refine wpQuiet_nil ?_
            refine wpAnyX_only 11 (by kernel_rfl) (by simp; rfl) rfl rfl (fun K hK => ?_)
            go_wp2_with fail
            have HS := hide (Row.new V4 #[.int .i64 (x - 1), .int .i64 y, .int .i64 z] 39)
            replace HT := hide (HT.out.alloc (.cells #[.int .i64 (x - 1), .int .i64 y, .int .i64 z] 39))
            replace HG := hide (grown_new HG.out (.cells #[.int .i64 (x - 1), .int .i64 y, .int .i64 z] 39))
            refine ⟨laterX_of HG.out, ?_⟩
            generalize V4.alloc (.cells #[.int .i64 (x - 1), .int .i64 y, .int .i64 z] 39) = V5 at *
            generalize V4.heap.size = sb at *
            refine wpAnyX_last 12 (by kernel_rfl) (by simp; rfl) rfl rfl (by kernel_rfl) (fun K hK => ?_)
            have hml : maxLen = 9223372036854775807 := rfl
            have HLE := hide (show l.length ≤ 40 from HL.out)
            refine wp_append_lies _ (.tmp 19) (.tmp 29) 24 rfl w.heap.size 39 i0 _ 3 24 Tryz.underlying24 Hi.out Hz.out.1 Hz.out.2.1 Hz.out.2.2 rfl (by decide) (.slice A l.length c) l.length (l.flatMap tcells) rfl HT.out.own ⟨sb, 0, none⟩ 1 1 (tcells (x - 1, y, z)) rfl rfl (fun j u hu => by rw [Addr.add_lit, Nat.zero_add]; exact HS.out.2.1 j u hu) (fun u hu => tcells_ones [(x - 1, y, z)] u (by simpa using hu)) (by omega) (by have := HLE.out; omega) (by have := HLE.out; omega) HT.out.gr.size V5.heap.size rfl (fun g' cap' V9 ho' hg' hw' hlt' => ?_)
            have HF := hide (HT.out.far hg')
            have HT9 := hide (HT.out.append hg' hw' ho')
            clear HS hml hg' hw' ho' hlt' HG
            refine hK _ _ ?_
            simp only [Act.put, List.setIfInBounds_toArray, List.set_cons_succ, List.set_cons_zero]
            refine wpAnyX_last 13 (by kernel_rfl) (by simp; rfl) rfl rfl (by kernel_rfl) (fun K hK => ?_)
            go_wp2_with fail
            refine wpAnyX_last 14 (by kernel_rfl) (by simp; rfl) rfl rfl (by kernel_rfl) (fun K hK => ?_)
            have t0 := HF.out.2.2.1 0 _ rfl
            have t1 := HF.out.2.2.1 1 _ rfl
            have f1 := HF.out.2.free 1
            have tz := HF.out.2.1
            go_wp2_with fail
            refine wpAnyX_done (by kernel_rfl) ?_ _
            clear t0 t1 f1 tz HF
            replace HT := HT9
            clear HT9
            have HLL := hide (show (l ++ [(x - 1, y, z)]).length ≤ 41 by have := HL.out; simp; omega)
            generalize V9.setCell ⟨tb, 1, none⟩ (.slice (some ⟨g', 0, none⟩) (l.length + 1) cap') = W9 at *
            generalize l ++ [(x - 1, y, z)] = LL at *
            have b0 := HT.out.box.2.1 0 _ rfl
            have b1 := HT.out.box.2.1 1 _ rfl
            have g0 := HT.out.box.free 0
            have g1 := HT.out.box.free 1
            have r0 := HT.out.res.2.1 0 _ rfl
            have r1 := HT.out.res.2.1 1 _ rfl
            have q0 := HT.out.res.free 0
            have q1 := HT.out.res.free 1
            have bz := HT.out.box.1
            have rz := HT.out.res.1
            have n1 : tb ≠ rb := by have := HT.out.ord; omega
            have n2 : rb ≠ tb := Ne.symm n1
            go_wp2
            exact bodyPost_ret (v := .agg #[.int .i64 nd, .slice (some ⟨g', 0, none⟩) LL.length cap']) (by simp [results, Tryz.results31, go_sem, *]) rfl (HT.out.done trivial HLL.out (by omega) _ _)
        · have HB := hide (Row.new V0 #[.int .i64 60, .int .i64 0, .int .i64 3601] 3)
          have HBG : Hid (V0.heap.size ≠ d.g) := hide (by have := HT.out.st.lt; omega)
          replace HT := hide (HT.out.alloc (.cells #[.int .i64 60, .int .i64 0, .int .i64 3601] 3))
          replace HG := hide (grown_new HG.out (.cells #[.int .i64 60, .int .i64 0, .int .i64 3601] 3))
          refine wp_ints3 60 0 3601 (.const (.int .i64 60)) (.const (.int .i64 0)) (.const (.int .i64 3601)) rfl rfl rfl rfl (hK _ _ ⟨laterX_of HG.out, ?_⟩)
          simp only [Act.put, List.setIfInBounds_toArray, List.set_cons_succ, List.set_cons_zero]
          generalize V0.alloc (.cells #[.int .i64 60, .int .i64 0, .int .i64 3601] 3) = V1 at *
          generalize V0.heap.size = lb at *
          refine wpAnyX_only 3 (by kernel_rfl) (by simp; rfl) rfl rfl (fun K hK => ?_)
          go_wp2_with fail
          refine (pick_any d (N + 4002) 3 _ hd HT.out.st (by omega) (by omega)).mono ?_
          rintro e V2 ⟨⟨x, rfl, x0, x1, x2⟩, hs, hg⟩
          clear x1
          replace HB := hide (HB.out.grown hg (fun e => by injection e with e; have := HBG.out; omega))
          replace HT : Hid (TwAt d w rb tb nd A c l (N + 4004) V2) := hide (HT.out.draw hs hg)
          replace HG := hide (grown_trans HG.out hg)
          clear hs hg
          go_wp2_with fail
          refine ⟨laterX_of HG.out, ?_⟩
          have hw1 : IntKind.i64.wrap (x - 1) = x - 1 := IntWalk.i64_in _ (by omega)
          refine wpAnyX_take [4] 7 rfl (by kernel_rfl) (by intro c a d v w h; cases d <;> exact h) (by kernel_rfl) (by kernel_rfl) (by kernel_rfl) (by simp; rfl) rfl (laterX_of HG.out) ?_
          repeat (go_big_quiet_step (fail))
          refine wpQuiet_nil ?_
          clear hw1
          refine wpAnyX_only 6 (by kernel_rfl) (by simp; rfl) rfl rfl (fun K hK => ?_)
          go_wp2_with fail
          refine (pick_any d (N + 4004) 4 _ hd HT.out.st (by omega) (by omega)).mono ?_
          rintro e V3 ⟨⟨y, rfl, y0, y1, y2⟩, hs, hg⟩
          clear y1
          replace HB := hide (HB.out.grown hg (fun e => by injection e with e; have := HBG.out; omega))
          replace HT : Hid (TwAt d w rb tb nd A c l (N + 4006) V3) := hide (HT.out.draw hs hg)
          replace HG := hide (grown_trans HG.out hg)
          clear hs hg
          go_wp2_with fail
          refine ⟨laterX_of HG.out, ?_⟩
          refine wpAnyX_only 9 (by kernel_rfl) (by simp; rfl) rfl rfl (fun K hK => ?_)
          go_wp2_with fail
          refine (among_any d (N + 4006) (some ⟨lb, 0, none⟩) 3 3 [60, 0, 3601] _ hd HT.out.st (by omega) rfl (by omega) (by omega) (by exact HB.out.rd) (fun b o sp e => by injection e with e; injection e with e; have := HBG.out; omega)).mono ?_
          rintro e V4 ⟨⟨z, rfl, -⟩, hs, hg⟩
          clear HB HBG
          replace HT : Hid (TwAt d w rb tb nd A c l (N + 4008) V4) := hide (HT.out.draw hs hg)
          replace HG := hide (grown_trans HG.out hg)
          clear hs hg
          go_wp2_with fail
          refine ⟨laterX_of HG.out, ?_⟩
          refine wpAnyX_take [10] 4 rfl (by kernel_rfl) (by intro c a d v w h; cases d <;> exact h) (by kernel_rfl) (by kernel_rfl) (by kernel_rfl) (by simp; rfl) rfl (laterX_of HG.out) ?_
          repeat (go_big_quiet_step (fail))
          refine wpQuiet_nil ?_
          refine wpAnyX_only 11 (by kernel_rfl) (by simp; rfl) rfl rfl (fun K hK => ?_)
          go_wp2_with fail
          have HS := hide (Row.new V4 #[.int .i64 (x - 1), .int .i64 y, .int .i64 z] 39)
          replace HT := hide (HT.out.alloc (.cells #[.int .i64 (x - 1), .int .i64 y, .int .i64 z] 39))
          replace HG := hide (grown_new HG.out (.cells #[.int .i64 (x - 1), .int .i64 y, .int .i64 z] 39))
          refine ⟨laterX_of HG.out, ?_⟩
          generalize V4.alloc (.cells #[.int .i64 (x - 1), .int .i64 y, .int .i64 z] 39) = V5 at *
          generalize V4.heap.size = sb at *
          refine wpAnyX_last 12 (by kernel_rfl) (by simp; rfl) rfl rfl (by kernel_rfl) (fun K hK => ?_)
          have hml : maxLen = 9223372036854775807 := rfl
          have HLE := hide (show l.length ≤ 40 from HL.out)
          refine wp_append_lies _ (.tmp 19) (.tmp 29) 24 rfl w.heap.size 39 i0 _ 3 24 Tryz.underlying24 Hi.out Hz.out.1 Hz.out.2.1 Hz.out.2.2 rfl (by decide) (.slice A l.length c) l.length (l.flatMap tcells) rfl HT.out.own ⟨sb, 0, none⟩ 1 1 (tcells (x - 1, y, z)) rfl rfl (fun j u hu => by rw [Addr.add_lit, Nat.zero_add]; exact HS.out.2.1 j u hu) (fun u hu => tcells_ones [(x - 1, y, z)] u (by simpa using hu)) (by omega) (by have := HLE.out; omega) (by have := HLE.out; omega) HT.out.gr.size V5.heap.size rfl (fun g' cap' V9 ho' hg' hw' hlt' => ?_)
          have HF := hide (HT.out.far hg')
          have HT9 := hide (HT.out.append hg' hw' ho')
          clear HS hml hg' hw' ho' hlt' HG
          refine hK _ _ ?_
          simp only [Act.put, List.setIfInBounds_toArray, List.set_cons_succ, List.set_cons_zero]
          refine wpAnyX_last 13 (by kernel_rfl) (by simp; rfl) rfl rfl (by kernel_rfl) (fun K hK => ?_)
          go_wp2_with fail
          refine wpAnyX_last 14 (by kernel_rfl) (by simp; rfl) rfl rfl (by kernel_rfl) (fun K hK => ?_)
          have t0 := HF.out.2.2.1 0 _ rfl
          have t1 := HF.out.2.2.1 1 _ rfl
          have f1 := HF.out.2.free 1
          have tz := HF.out.2.1
          go_wp2_with fail
          refine wpAnyX_done (by kernel_rfl) ?_ _
          clear t0 t1 f1 tz HF
          replace HT := HT9
          clear HT9
          have HLL := hide (show (l ++ [(x - 1, y, z)]).length ≤ 41 by have := HL.out; simp; omega)
          generalize V9.setCell ⟨tb, 1, none⟩ (.slice (some ⟨g', 0, none⟩) (l.length + 1) cap') = W9 at *
          generalize l ++ [(x - 1, y, z)] = LL at *
          have b0 := HT.out.box.2.1 0 _ rfl
          have b1 := HT.out.box.2.1 1 _ rfl
          have g0 := HT.out.box.free 0
          have g1 := HT.out.box.free 1
          have r0 := HT.out.res.2.1 0 _ rfl
          have r1 := HT.out.res.2.1 1 _ rfl
          have q0 := HT.out.res.free 0
          have q1 := HT.out.res.free 1
          have bz := HT.out.box.1
          have rz := HT.out.res.1
          have n1 : tb ≠ rb := by have := HT.out.ord; omega
          have n2 : rb ≠ tb := Ne.symm n1
          go_wp2
          exact bodyPost_ret (v := .agg #[.int .i64 nd, .slice (some ⟨g', 0, none⟩) LL.length cap']) (by simp [results, Tryz.results31, go_sem, *]) rfl (HT.out.done trivial HLL.out (by omega) _ _)
    · have h1' : (p == 1) = false := by simpa using h1
      by_cases h2 : p = 2
      · have h2' : (p == 2) = true := by simpa using h2
        clear h0 h1 h2 hp0 hp2
        have b0 := HT.out.box.2.1 0 _ rfl
        have b1 := HT.out.box.2.1 1 _ rfl
        have g0 := HT.out.box.free 0
        have g1 := HT.out.box.free 1
        have r0 := HT.out.res.2.1 0 _ rfl
        have r1 := HT.out.res.2.1 1 _ rfl
        have q0 := HT.out.res.free 0
        have q1 := HT.out.res.free 1
        have bz := HT.out.box.1
        have rz := HT.out.res.1
        have n1 : tb ≠ rb := by have := HT.out.ord; omega
        have n2 : rb ≠ tb := Ne.symm n1
        go_wp2_with fail
        clear b0 b1 g0 g1 r0 r1 q0 q1 bz rz n1 n2
        have HTN := hide ((HT.out.setN 14).setL (A' := none) (c' := 0) (l' := []) (World.ownsRow_nil _ _ _ _) (fun q hq => by cases hq))
        clear HT
        generalize (w4.setCell ⟨tb, 0, none⟩ (.int .i64 14)).setCell ⟨tb, 1, none⟩ (.slice none ([] : List StT).length 0) = w5 at *
        go_loopg [4] 4 (fun g t wr => ∃ (a : Nat) (A : Option Addr) (c : Nat) (l : List StT), t = .int .i64 (a : Int) ∧ a ≤ 4 ∧ Hid (4 ≤ g + a) ∧ Hid (l.length ≤ 41) ∧ Hid (TwAt d w rb tb 14 A c l (N + 4002 + 40 * a) wr))
        case atStart => exact ⟨0, none, 0, [], rfl, by omega, hide (by omega), hide (by simp), HTN⟩
        case round =>
          clear HTN HL
          obtain ⟨a, A, c, l, rfl, ha, HGK, HL, HT⟩ := hrel
          by_cases hlt : a < 4
          · have hlt' : ((a : Int) < 4) = True := by simp; omega
            go_wp2_with fail
            clear hlt'
            go_loopg [5] 14 (fun g t wr => ∃ (b : Nat) (A : Option Addr) (c : Nat) (l : List StT), t = .int .i64 (b : Int) ∧ b ≤ 14 ∧ Hid (14 ≤ g + b) ∧ Hid (l.length ≤ 41) ∧ Hid (TwAt d w rb tb 14 A c l (N + 4002 + 40 * a + 2 * b) wr))
            case atStart => exact ⟨a + 1, A, c, l, by go_num, by omega, hide (by omega), HL, hide (HT.out.more (by omega))⟩
            case round =>
              clear HT HL
              obtain ⟨b, A, c, l, rfl, hb, HGB, HL, HT⟩ := hrel
              have t0 := HT.out.box.2.1 0 _ rfl
              have t1 := HT.out.box.2.1 1 _ rfl
              have tz := HT.out.box.1
              have tg : tb ≠ d.g := by have := HT.out.ord; omega
              by_cases hlb : b < 14
              · have hlb' : ((b : Int) < 14) = True := by simp; omega
                go_wp2_with fail
                refine wpAnyS_start (fun w' => ∃ n : LaterX wr d.g, w' = n.w) (n := 11) (by kernel_rfl) rfl rfl ?_
                refine wpAnyS_take_allE [0, 1, 2, 3, 4, 5, 6] 4 rfl (by kernel_rfl) (by intro c a d v w h; cases d <;> exact h) (by kernel_rfl) (by simp; rfl) rfl (laterX_drew _ _) ?_
                repeat (go_big_quiet_step (fail))
                refine wpQuiet_nil ?_
                have HG : Hid (wr.grownBy wr.drew (some d.g)) := hide (grown_of_below (Below.refl _ _).drew _)
                replace HT := hide HT.out.drew
                clear t0 t1 tz tg hlb'
                generalize wr.drew = V0 at *
                refine wpAnyS_want 7 (by kernel_rfl) (by simp; rfl) rfl (by first | rfl | simp [Region.wanted, yielded]) (fun K hK => ?_)
                go_wp2_with fail
                refine (pick_any d (N + 4002 + 40 * a + 2 * b) 2 _ hd HT.out.st (by omega) (by omega)).mono ?_
                rintro e V1 ⟨⟨y, rfl, y0, y1, y2⟩, hs, hg⟩
                replace HT : Hid (TwAt d w rb tb 14 A c l (N + 4002 + 40 * a + 2 * b + 2) V1) := hide (HT.out.draw hs hg)
                replace HG := hide (grown_trans HG.out hg)
                have y3 : y ≤ 1 := by omega
                clear hs hg y1
                go_wp2_with fail
                refine ⟨laterX_of HG.out, ?_⟩
                have hw1 : IntKind.i64.wrap (40 + y) = 40 + y := IntWalk.i64_in _ (by omega)
                refine wpAnyS_take_allE [8, 9, 10] 0 rfl (by kernel_rfl) (by intro c a d v w h; cases d <;> exact h) (by kernel_rfl) (by simp; rfl) rfl (laterX_of HG.out) ?_
                repeat (go_big_quiet_step (fail))
                refine wpQuiet_nil ?_
                refine wpAnyH_done (by kernel_rfl) ?_ _
                clear HG hw1
                by_cases hc : (l.length : Int) < 40 + y
                · have hcd : decide ((l.length : Int) < 40 + y) = true := by simpa using hc
                  have HL40 := hide (show l.length ≤ 40 by omega)
                  have HTA := hide (HT.out.alloc (.cells #[.int .i64 (a : Int), .int .i64 (b : Int), .int .i64 60] 39))
                  have HSB := hide (Row.new V1 #[.int .i64 (a : Int), .int .i64 (b : Int), .int .i64 60] 39)
                  have hml : maxLen = 9223372036854775807 := rfl
                  have t0 := HT.out.box.2.1 0 _ rfl
                  have t1 := HT.out.box.2.1 1 _ rfl
                  have tz := HT.out.box.1
                  have tf := HT.out.box.free 1
                  go_wp2_with (at_builtin; refine wpList_append_lies _ rfl (.tmp 56) (.tmp 60) 24 rfl w.heap.size 39 i0 _ 3 24 Tryz.underlying24 Hi.out Hz.out.1 Hz.out.2.1 Hz.out.2.2 rfl (by decide) (.slice A l.length c) l.length (l.flatMap tcells) rfl HTA.out.own ⟨V1.heap.size, 0, none⟩ 1 1 (tcells ((a : Int), (b : Int), 60)) rfl rfl (fun j u hu => by rw [Addr.add_lit, Nat.zero_add]; exact HSB.out.2.1 j u hu) (fun u hu => tcells_ones [((a : Int), (b : Int), 60)] u (by simpa using hu)) (by omega) (by have := HL40.out; omega) (by have := HL40.out; omega) HTA.out.gr.size _ rfl ?_)
                  intro g' cap' V9 ho' hg' hw' hlt'
                  have HF := hide (HTA.out.far hg')
                  have HT9 := hide (HTA.out.append hg' (hw'.imp id (fun e => by rw [e]; simp)) ho')
                  have HL9 := hide (show (l ++ [((a : Int), (b : Int), (60 : Int))]).length ≤ 41 by have := HL40.out; simp; omega)
                  clear t0 t1 tz tf hml hg' hw' ho' hlt' HSB HTA hc hcd
                  have t0 := HF.out.2.2.1 0 _ rfl
                  have t1 := HF.out.2.2.1 1 _ rfl
                  have tf := HF.out.2.free 1
                  have tz := HF.out.2.1
                  go_wp2
                  go_roundg (gk - 1)
                  case rel => exact ⟨b + 1, _, cap', _, by go_num, by omega, hide (by have := HGB.out; omega), HL9, hide (HT9.out.more (by omega))⟩
                  case measure => have := HGB.out; omega
                · have hcd : decide ((l.length : Int) < 40 + y) = false := by simpa using hc
                  go_wp2
                  go_roundg (3 - a)
                  case rel => exact ⟨a + 1, A, c, l, by go_num, by omega, hide (by omega), HL, hide (HT.out.more (by omega))⟩
                  case measure => have := HGK.out; omega
              · have hlb' : ((b : Int) < 14) = False := by simp; omega
                go_wp2_with fail
                refine wpAnyS_start (fun w' => ∃ n : LaterX wr d.g, w' = n.w) (n := 11) (by kernel_rfl) rfl rfl ?_
                refine wpAnyS_take_allE [0, 1, 2, 3, 4, 5, 6] 4 rfl (by kernel_rfl) (by intro c a d v w h; cases d <;> exact h) (by kernel_rfl) (by simp; rfl) rfl (laterX_drew _ _) ?_
                repeat (go_big_quiet_step (fail))
                refine wpQuiet_nil ?_
                replace HT := hide HT.out.drew
                have HG : Hid (wr.grownBy wr.drew (some d.g)) := hide (grown_of_below (Below.refl _ _).drew _)
                clear t0 t1 tz tg
                generalize wr.drew = V0 at *
                refine wpAnyS_skip 7 (by kernel_rfl) (by simp; rfl) rfl (by first | rfl | simp [Region.wanted, yielded]) (laterX_of HG.out) ?_
                simp only [Act.put, List.setIfInBounds_toArray, List.set_cons_succ, List.set_cons_zero]
                refine wpAnyS_take_allE [8, 9, 10] 0 rfl (by kernel_rfl) (by intro c a d v w h; cases d <;> exact h) (by kernel_rfl) (by simp; rfl) rfl (laterX_of HG.out) ?_
                repeat (go_big_quiet_step (fail))
                refine wpQuiet_nil ?_
                refine wpAnyH_done (by kernel_rfl) ?_ _
                clear HG
                go_wp2
                go_roundg (3 - a)
                case rel => exact ⟨a + 1, A, c, l, by go_num, by omega, hide (by omega), HL, hide (HT.out.more (by omega))⟩
                case measure => have := HGK.out; omega
          · have hlt' : ((a : Int) < 4) = False := by simp; omega
            have b0 := HT.out.box.2.1 0 _ rfl
            have b1 := HT.out.box.2.1 1 _ rfl
            have g0 := HT.out.box.free 0
            have g1 := HT.out.box.free 1
            have r0 := HT.out.res.2.1 0 _ rfl
            have r1 := HT.out.res.2.1 1 _ rfl
            have q0 := HT.out.res.free 0
            have q1 := HT.out.res.free 1
            have bz := HT.out.box.1
            have rz := HT.out.res.1
            have n1 : tb ≠ rb := by have := HT.out.ord; omega
            have n2 : rb ≠ tb := Ne.symm n1
            go_wp2
            exact bodyPost_ret (v := .agg #[.int .i64 14, .slice A l.length c]) (by simp [results, Tryz.results31, go_sem, *]) rfl (HT.out.done trivial HL.out (by omega) _ _)
      · have h2' : (p == 2) = false := by simpa using h2
        have b0 := HT.out.box.2.1 0 _ rfl
        have b1 := HT.out.box.2.1 1 _ rfl
        have g0 := HT.out.box.free 0
        have g1 := HT.out.box.free 1
        have r0 := HT.out.res.2.1 0 _ rfl
        have r1 := HT.out.res.2.1 1 _ rfl
        have q0 := HT.out.res.free 0
        have q1 := HT.out.res.free 1
        have bz := HT.out.box.1
        have rz := HT.out.res.1
        have n1 : tb ≠ rb := by have := HT.out.ord; omega
        have n2 : rb ≠ tb := Ne.symm n1
        go_wp2
        exact bodyPost_ret (v := .agg #[.int .i64 nd, .slice A l.length c]) (by simp [results, Tryz.results31, go_sem, *]) rfl (HT.out.done trivial (Nat.le_trans HL.out (by omega)) (by omega) _ _)
end Go.Proofs.YtbhnaakknfienaaGreatDoor
namespace Go.Proofs.YtbhnaakknfienaaGreatDoor
open Go.RowKit
set_option linter.unusedVariables false

theorem drw_new (w : World) (A : Option Addr) (n c : Nat) (code : List Int) (t : TypeId) (hn : n = code.length) (hm : n ≤ maxLen) (hb : ∀ x ∈ code, 0 ≤ x ∧ x ≤ 255) (hr : Rd w A (code.map (Value.int .u8))) :
    (Drw.mk w w.heap.size A n c code).ok ∧ (Drw.mk w w.heap.size A n c code).st 0 (w.alloc (.cells #[.slice A n c, .int .i64 0, .int .u64 0] t)) :=
  ⟨⟨hn, hm, hb, hr, Nat.le_refl _⟩, (Below.refl _ _).alloc (Nat.le_refl _) _, 0, 0, Nat.le_refl _, ⟨by omega, by omega⟩, Row.new w _ t⟩
/-- A drawer that begins behind the result's cell. -/
theorem drw_town (w : World) (A : Option Addr) (n c : Nat) (code : List Int) (hn : n = code.length) (hm : n ≤ maxLen) (hb : ∀ x ∈ code, 0 ≤ x ∧ x ≤ 255) (hr : Rd w A (code.map (Value.int .u8))) :
    ∃ d : Drw, d.W0 = w.alloc (.cells #[.int .i64 0, .slice none 0 0] 26) ∧ d.g = w.heap.size + 1 ∧ d.ok ∧ d.st 0 ((w.alloc (.cells #[.int .i64 0, .slice none 0 0] 26)).alloc (.cells #[.slice A n c, .int .i64 0, .int .u64 0] 57)) ∧
      Row ((w.alloc (.cells #[.int .i64 0, .slice none 0 0] 26)).alloc (.cells #[.slice A n c, .int .i64 0, .int .u64 0] 57)) w.heap.size [.int .i64 0, .slice none 0 0] := by
  have h := drw_new (w.alloc (.cells #[.int .i64 0, .slice none 0 0] 26)) A n c code 57 hn hm hb (hr.alloc _)
  exact ⟨_, rfl, by simp, h.1, h.2, (Row.new w _ _).alloc _⟩
theorem drw_below {d : Drw} {w w' : World} {N : Nat} (hW : d.W0 = w.alloc (.cells #[.int .i64 0, .slice none 0 0] 26)) (hs : d.st N w') : Below w.heap.size w w' := by
  have := hs.1
  rw [hW] at this
  exact below_step (below_alloc (Below.refl _ _) _) this

end Go.Proofs.YtbhnaakknfienaaGreatDoor
namespace Go.Proofs.YtbhnaakknfienaaGreatDoor
open Go.RowKit
set_option linter.unusedVariables false

/-- The town is drawn and boxed at tb; what the call makes from here on lies from B on. -/
structure TvAt (d : Drw) (w : World) (tb B : Nat) (nd : Int) (A : Option Addr) (c : Nat) (l : List StT) (N : Nat) (wr : World) : Prop where
  base : d.W0 = w.alloc (.cells #[.int .i64 0, .slice none 0 0] 26)
  st : d.st N wr
  res : Row wr w.heap.size [.int .i64 0, .slice none 0 0]
  box : Row wr tb [.int .i64 nd, .slice A l.length c]
  own : wr.ownsRow (w.heap.size + 1 + 1) 39 3 (.slice A l.length c) l.length (l.flatMap tcells)
  ord : w.heap.size + 1 = d.g ∧ d.g < tb ∧ tb < B ∧ B ≤ wr.heap.size
  apart : ∀ q, (Value.slice A l.length c).ownBlock = some q → q < tb
section
variable {d : Drw} {w wr w' : World} {tb B c N M : Nat} {nd : Int} {A : Option Addr} {l : List StT}
theorem TvAt.draw (h : TvAt d w tb B nd A c l N wr) (hs : d.st M w') (hg : wr.grownBy w' (some d.g)) : TvAt d w tb B nd A c l M w' :=
  ⟨h.base, hs, h.res.grown hg (fun e => by injection e with e; have := h.ord; omega), h.box.grown hg (fun e => by injection e with e; have := h.ord; omega), own_far h.own hg (by have := h.ord; omega), by have := h.ord; have := hg.size; omega, h.apart⟩
theorem TvAt.below (h : TvAt d w tb B nd A c l N wr) (hb : Below wr.heap.size wr w') : TvAt d w tb B nd A c l N w' :=
  ⟨h.base, h.st.below hb, h.res.below hb, h.box.below hb, own_below h.own hb, by have := h.ord; have := hb.size; omega, h.apart⟩
theorem TvAt.alloc (h : TvAt d w tb B nd A c l N wr) (o : Obj) : TvAt d w tb B nd A c l N (wr.alloc o) := h.below ((Below.refl _ _).alloc (Nat.le_refl _) o)
theorem TvAt.drew (h : TvAt d w tb B nd A c l N wr) : TvAt d w tb B nd A c l N wr.drew := h.below (Below.refl _ _).drew
theorem TvAt.more (h : TvAt d w tb B nd A c l N wr) (hM : N ≤ M) : TvAt d w tb B nd A c l M wr := { h with st := h.st.more hM }
/-- A write to what the call has made since. -/
theorem TvAt.far (h : TvAt d w tb B nd A c l N wr) {row : Option Nat} (hg : wr.grownBy w' row) (hr : ∀ k, row = some k → B ≤ k) : TvAt d w tb B nd A c l N w' := by
  have hW : d.W0.heap.size = w.heap.size + 1 := by rw [h.base]; simp
  exact ⟨h.base, h.st.grown hg (fun k hk => by have := hr k hk; have := h.ord; omega), h.res.grown hg (fun e => by have := hr _ e.symm; have := h.ord; omega), h.box.grown hg (fun e => by have := hr _ e.symm; have := h.ord; omega),
    own_near (N := tb) h.own h.apart hg (fun k hk => by have := hr k hk; have := h.ord; omega), by have := h.ord; have := hg.size; omega, h.apart⟩
/-- The end: the result's cell is stored. -/
theorem TvAt.done (h : TvAt d w tb B nd A c l N wr) (u0 u1 : Value) : ((wr.setCell ⟨w.heap.size, 0, none⟩ u0).setCell ⟨w.heap.size, 1, none⟩ u1).ownsRow w.heap.size 39 3 (.slice A l.length c) l.length (l.flatMap tcells) ∧ Below w.heap.size w ((wr.setCell ⟨w.heap.size, 0, none⟩ u0).setCell ⟨w.heap.size, 1, none⟩ u1) := by
  have hl : ∀ q, (Value.slice A l.length c).ownBlock = some q → q ≠ w.heap.size := fun q hq => by have := (h.own.lt q hq).1; omega
  exact ⟨own_put (p := ⟨w.heap.size, 1, none⟩) (own_put (p := ⟨w.heap.size, 0, none⟩) (own_le h.own (by omega)) hl _) hl _, ((drw_below h.base h.st).setCell (Nat.le_refl _) _).setCell (Nat.le_refl _) _⟩
end
/-- What the draw leaves. -/
def DrwRt (w : World) (e : Ending) (w' : World) : Prop :=
  (∃ (nd : Int) (A : Option Addr) (c : Nat) (l : List StT) (A2 : Option Addr) (c2 : Nat) (R : List Int), e = .returned (.tuple #[.agg #[.int .i64 nd, .slice A l.length c], .slice A2 R.length c2]) ∧ l.length ≤ 41 ∧ w'.ownsRow w.heap.size 39 3 (.slice A l.length c) l.length (l.flatMap tcells) ∧ R.length ≤ 1000 ∧ w'.ownsRow w.heap.size 3 1 (.slice A2 R.length c2) R.length (R.map (Value.int .i64))) ∧ Below w.heap.size w w'
theorem DrwRt.of {d : Drw} {w wr : World} {tb B c N : Nat} {nd : Int} {A : Option Addr} {l : List StT} {A2 : Option Addr} {c2 : Nat} {R : List Int} (h : TvAt d w tb B nd A c l N wr) (hl : l.length ≤ 41) (hR : R.length ≤ 1000) (ho : wr.ownsRow B 3 1 (.slice A2 R.length c2) R.length (R.map (Value.int .i64))) (u0 u1 : Value) :
    DrwRt w (.returned (.tuple #[.agg #[.int .i64 nd, .slice A l.length c], .slice A2 R.length c2])) ((wr.setCell ⟨w.heap.size, 0, none⟩ u0).setCell ⟨w.heap.size, 1, none⟩ u1) := by
  have hd := h.done u0 u1
  have hb : ∀ q, (Value.slice A2 R.length c2).ownBlock = some q → q ≠ w.heap.size := fun q hq => by have := (ho.lt q hq).1; have := h.ord; omega
  exact ⟨⟨nd, A, c, l, A2, c2, R, rfl, hl, hd.1, hR, own_put (p := ⟨w.heap.size, 1, none⟩) (own_put (p := ⟨w.heap.size, 0, none⟩) (own_le ho (by have := h.ord; omega)) hb _) hb _⟩, hd.2⟩
end Go.Proofs.YtbhnaakknfienaaGreatDoor
namespace Go.Proofs.YtbhnaakknfienaaGreatDoor
open Go.RowKit
set_option linter.unusedVariables false
set_option linter.unusedSimpArgs false

/-- A drawn town and two nodes. -/
def TownTwo (w : World) (e : Ending) (w' : World) : Prop :=
  (∃ (nd : Int) (A' : Option Addr) (c' : Nat) (l : List StT) (i j : Int), e = .returned (.tuple #[.agg #[.int .i64 nd, .slice A' l.length c'], .int .i64 i, .int .i64 j]) ∧ l.length ≤ 41 ∧ w'.ownsRow w.heap.size 39 3 (.slice A' l.length c') l.length (l.flatMap tcells)) ∧ Below w.heap.size w w'
set_option maxRecDepth 100000 in
set_option maxHeartbeats 16000000 in
theorem DrawCloseStreet_any (A : Option Addr) (n c : Nat) (code : List Int) (w : World) (hn : n = code.length) (hm : n ≤ maxLen) (hb : ∀ x ∈ code, 0 ≤ x ∧ x ≤ 255) (hr : Rd w A (code.map (Value.int .u8))) :
    Calls Tryz.prog 5 #[.slice A n c] w (TownTwo w) := by
  obtain ⟨d, hW, hg, hok, hst, hres⟩ := drw_town w A n c code hn hm hb hr
  have HW := hide hW
  have HGE := hide hg.symm
  have HOK := hide hok
  have HS := hide hst
  have HR := hide hres
  clear hn hm hb hr hW hg hok hst hres
  go_enter Tryz.func5, Tryz.ntmps5
  go_wp2_with fail
  rw [HGE.out]
  refine (anyTown_any d 0 _ HOK.out HS.out (by omega)).mono ?_
  rintro e w1 ⟨⟨nd, A', c', l, rfl, -, hl, ho⟩, hs, hg⟩
  have HL := hide hl
  replace HR := hide (HR.out.grown hg (fun e => by injection e with e; have := HGE.out; omega))
  have HO := hide (own_le (B' := w.heap.size + 1 + 1) ho (by simp))
  go_upto_region 3 with fail
  have HT : Hid (TvAt d w w1.heap.size (w1.heap.size + 1) nd A' c' l 5000 (w1.alloc (.cells #[.int .i64 nd, .slice A' l.length c'] 26))) := hide ⟨HW.out, (hs.more (by omega)).alloc _, HR.out.alloc _, Row.new _ _ _, World.ownsRow.alloc HO.out _, ⟨HGE.out, by have := hs.lt; omega, by omega, by simp⟩, fun q hq => (HO.out.lt q hq).2⟩
  clear HR HO hs hg ho hl HS HW HGE
  obtain ⟨B, hB⟩ : ∃ B, B = w1.heap.size + 1 := ⟨_, rfl⟩
  rw [← hB] at HT
  clear hB
  generalize w1.alloc (.cells #[.int .i64 nd, .slice A' l.length c'] 26) = w2 at *
  generalize w1.heap.size = tb at *
  cases hz : decide (0 < l.length) with
  | false =>
    as_aux_lemma =>
    have hz1 : decide ((0 : Int) < (l.length : Int)) = false := by simpa using hz
    have b0 := HT.out.box.2.1 0 _ rfl
    have b1 := HT.out.box.2.1 1 _ rfl
    have bz := HT.out.box.1
    have tg : tb ≠ d.g := by have := HT.out.ord; omega
    go_upto_region 8 with fail
    clear b0 b1 bz tg
    have b0 := HT.out.box.2.1 0 _ rfl
    have b1 := HT.out.box.2.1 1 _ rfl
    have bz := HT.out.box.1
    have tg : tb ≠ d.g := by have := HT.out.ord; omega
    go_wp2_with fail
    refine wpAnyX_start (fun w' => ∃ n : LaterX w2 d.g, w' = n.w) [7] (n := 10) (by kernel_rfl) rfl rfl ?_
    refine wpAnyX_take [0, 1, 2, 4, 5] 5 rfl (by kernel_rfl) (by intro c a d v w h; cases d <;> exact h) (by kernel_rfl) (by kernel_rfl) (by kernel_rfl) (by simp; rfl) rfl (laterX_drew _ _) ?_
    repeat (go_big_quiet_step (fail))
    refine wpQuiet_nil ?_
    clear b0 b1 bz tg
    have HG : Hid (w2.grownBy w2.drew (some d.g)) := hide (grown_of_below (Below.refl _ _).drew _)
    replace HT := hide HT.out.drew
    generalize w2.drew = V0 at *
    refine wpAnyX_only 3 (by kernel_rfl) (by simp; rfl) rfl rfl (fun K hK => ?_)
    go_wp2_with fail
    refine (nodeOf_any d (5000) nd A' l.length c' _ HOK.out (HT.out.st.more (by omega)) (by omega)).mono ?_
    rintro e V1 ⟨⟨i, rfl, -⟩, hs, hg⟩
    replace HT := hide (HT.out.draw hs hg)
    replace HG := hide (grown_trans HG.out hg)
    clear hs hg
    go_wp2_with fail
    refine ⟨laterX_of HG.out, ?_⟩
    refine wpAnyX_only 6 (by kernel_rfl) (by simp; rfl) rfl rfl (fun K hK => ?_)
    go_wp2_with fail
    refine (nodeOf_any d (5014) nd A' l.length c' _ HOK.out (HT.out.st.more (by omega)) (by omega)).mono ?_
    rintro e V2 ⟨⟨j, rfl, -⟩, hs, hg⟩
    replace HT := hide (HT.out.draw hs hg)
    replace HG := hide (grown_trans HG.out hg)
    clear hs hg
    go_wp2_with fail
    refine ⟨laterX_of HG.out, ?_⟩
    refine wpAnyX_last 7 (by kernel_rfl) (by simp; rfl) rfl rfl (by kernel_rfl) (fun K hK => ?_)
    have r0 := HT.out.res.2.1 0 _ rfl
    have r1 := HT.out.res.2.1 1 _ rfl
    have f0 := HT.out.res.free 0
    have f1 := HT.out.res.free 1
    have rz := HT.out.res.1
    have nn : tb ≠ w.heap.size := by have := HT.out.ord; omega
    have HD := hide (HT.out.done (.int .i64 nd) (.slice A' l.length c'))
    have HR9 := hide ((HT.out.res.set (k := 0) (by simp) (.int .i64 nd)).set (k := 1) (by simp) (.slice A' l.length c'))
    go_wp2_with fail
    clear r0 r1 f0 f1 rz nn HT HG
    generalize (V2.setCell ⟨w.heap.size, 0, none⟩ (.int .i64 nd)).setCell ⟨w.heap.size, 1, none⟩ (.slice A' l.length c') = V3 at *
    refine wpAnyX_last 8 (by kernel_rfl) (by simp; rfl) rfl rfl (by kernel_rfl) (fun K hK => ?_)
    go_wp2_with fail
    refine wpAnyX_last 9 (by kernel_rfl) (by simp; rfl) rfl rfl (by kernel_rfl) (fun K hK => ?_)
    go_wp2_with fail
    refine wpAnyX_done (by kernel_rfl) ?_ _
    have r0 := HR9.out.2.1 0 _ rfl
    have r1 := HR9.out.2.1 1 _ rfl
    have rz := HR9.out.1
    go_wp2
    exact bodyPost_ret (v := .tuple #[.agg #[.int .i64 nd, .slice A' l.length c'], .int .i64 i, .int .i64 j]) (by simp [results, Tryz.results5, go_sem, *]) rfl ⟨⟨nd, A', c', l, i, j, rfl, HL.out, HD.out.1⟩, HD.out.2⟩
  | true =>
    have hz0 : 0 < l.length := by simpa using hz
    have hz1 : decide ((0 : Int) < (l.length : Int)) = true := by simpa using hz0
    have b0 := HT.out.box.2.1 0 _ rfl
    have b1 := HT.out.box.2.1 1 _ rfl
    have bz := HT.out.box.1
    have tg : tb ≠ d.g := by have := HT.out.ord; omega
    go_wp2_with fail
    refine (one_any d 5000 4 _ HOK.out HT.out.st (by omega) (by omega)).mono ?_
    rintro e w3 ⟨⟨b, rfl⟩, hs, hg⟩
    replace HT := hide (HT.out.draw hs hg)
    clear hs hg b0 b1 bz tg
    cases b with
    | true =>
      as_aux_lemma =>
      clear hz hz0 hz1
      go_upto_region 8 with fail
      have b0 := HT.out.box.2.1 0 _ rfl
      have b1 := HT.out.box.2.1 1 _ rfl
      have bz := HT.out.box.1
      have tg : tb ≠ d.g := by have := HT.out.ord; omega
      go_wp2_with fail
      refine wpAnyX_start (fun w' => ∃ n : LaterX w3 d.g, w' = n.w) [7] (n := 10) (by kernel_rfl) rfl rfl ?_
      refine wpAnyX_take [0, 1, 2, 4, 5] 5 rfl (by kernel_rfl) (by intro c a d v w h; cases d <;> exact h) (by kernel_rfl) (by kernel_rfl) (by kernel_rfl) (by simp; rfl) rfl (laterX_drew _ _) ?_
      repeat (go_big_quiet_step (fail))
      refine wpQuiet_nil ?_
      clear b0 b1 bz tg
      have HG : Hid (w3.grownBy w3.drew (some d.g)) := hide (grown_of_below (Below.refl _ _).drew _)
      replace HT := hide HT.out.drew
      generalize w3.drew = V0 at *
      refine wpAnyX_only 3 (by kernel_rfl) (by simp; rfl) rfl rfl (fun K hK => ?_)
      go_wp2_with fail
      refine (nodeOf_any d (5002) nd A' l.length c' _ HOK.out (HT.out.st.more (by omega)) (by omega)).mono ?_
      rintro e V1 ⟨⟨i, rfl, -⟩, hs, hg⟩
      replace HT := hide (HT.out.draw hs hg)
      replace HG := hide (grown_trans HG.out hg)
      clear hs hg
      go_wp2_with fail
      refine ⟨laterX_of HG.out, ?_⟩
      refine wpAnyX_only 6 (by kernel_rfl) (by simp; rfl) rfl rfl (fun K hK => ?_)
      go_wp2_with fail
      refine (nodeOf_any d (5016) nd A' l.length c' _ HOK.out (HT.out.st.more (by omega)) (by omega)).mono ?_
      rintro e V2 ⟨⟨j, rfl, -⟩, hs, hg⟩
      replace HT := hide (HT.out.draw hs hg)
      replace HG := hide (grown_trans HG.out hg)
      clear hs hg
      go_wp2_with fail
      refine ⟨laterX_of HG.out, ?_⟩
      refine wpAnyX_last 7 (by kernel_rfl) (by simp; rfl) rfl rfl (by kernel_rfl) (fun K hK => ?_)
      have r0 := HT.out.res.2.1 0 _ rfl
      have r1 := HT.out.res.2.1 1 _ rfl
      have f0 := HT.out.res.free 0
      have f1 := HT.out.res.free 1
      have rz := HT.out.res.1
      have nn : tb ≠ w.heap.size := by have := HT.out.ord; omega
      have HD := hide (HT.out.done (.int .i64 nd) (.slice A' l.length c'))
      have HR9 := hide ((HT.out.res.set (k := 0) (by simp) (.int .i64 nd)).set (k := 1) (by simp) (.slice A' l.length c'))
      go_wp2_with fail
      clear r0 r1 f0 f1 rz nn HT HG
      generalize (V2.setCell ⟨w.heap.size, 0, none⟩ (.int .i64 nd)).setCell ⟨w.heap.size, 1, none⟩ (.slice A' l.length c') = V3 at *
      refine wpAnyX_last 8 (by kernel_rfl) (by simp; rfl) rfl rfl (by kernel_rfl) (fun K hK => ?_)
      go_wp2_with fail
      refine wpAnyX_last 9 (by kernel_rfl) (by simp; rfl) rfl rfl (by kernel_rfl) (fun K hK => ?_)
      go_wp2_with fail
      refine wpAnyX_done (by kernel_rfl) ?_ _
      have r0 := HR9.out.2.1 0 _ rfl
      have r1 := HR9.out.2.1 1 _ rfl
      have rz := HR9.out.1
      go_wp2
      exact bodyPost_ret (v := .tuple #[.agg #[.int .i64 nd, .slice A' l.length c'], .int .i64 i, .int .i64 j]) (by simp [results, Tryz.results5, go_sem, *]) rfl ⟨⟨nd, A', c', l, i, j, rfl, HL.out, HD.out.1⟩, HD.out.2⟩
    | false =>
      as_aux_lemma =>
      clear hz hz1
      go_upto_region 4 with fail
      have HRD := hide (own_rd HT.out.own)
      have HRG : Hid (∀ b off, A' = some ⟨b, off, none⟩ → d.g < b) := hide (fun b off h => by
        have h1 := HT.out.own.lt b (by rw [h]; rfl)
        have h2 := HT.out.ord
        omega)
      have b0 := HT.out.box.2.1 0 _ rfl
      have b1 := HT.out.box.2.1 1 _ rfl
      have bz := HT.out.box.1
      have tg : tb ≠ d.g := by have := HT.out.ord; omega
      go_wp2_with fail
      refine wpAnyX_start (fun w' => ∃ n : LaterX w3 d.g, w' = n.w) [10] (n := 11) (by kernel_rfl) rfl rfl ?_
      refine wpAnyX_take [0, 1, 2, 3, 4, 5] 5 rfl (by kernel_rfl) (by intro c a d v w h; cases d <;> exact h) (by kernel_rfl) (by kernel_rfl) (by kernel_rfl) (by simp; rfl) rfl (laterX_drew _ _) ?_
      repeat (go_big_quiet_step (fail))
      refine wpQuiet_nil ?_
      clear b0 b1 bz tg
      have HG : Hid (w3.grownBy w3.drew (some d.g)) := hide (grown_of_below (Below.refl _ _).drew _)
      replace HT := hide HT.out.drew
      generalize w3.drew = V0 at *
      refine wpAnyX_two 6 9 (by kernel_rfl) (by simp; rfl) (by simp; rfl) rfl rfl rfl rfl (fun K hK => ?_) (fun K hK => ?_)
      · as_aux_lemma =>
        go_wp2_with fail
        refine (pick_any d 5002 (l.length : Int) _ HOK.out HT.out.st (by omega) (by have := HL.out; omega)).mono ?_
        rintro e V2 ⟨⟨x, rfl, hx0, hx1, hx2⟩, hs, hg⟩
        replace HT := hide (HT.out.draw hs hg)
        replace HG := hide (grown_trans HG.out hg)
        obtain ⟨m, rfl⟩ := Int.eq_ofNat_of_zero_le hx0
        have hml : m < l.length := by omega
        clear hs hg hx0 hx1 hx2
        obtain ⟨⟨x0, x1, x2⟩, hx⟩ : ∃ x, l[m]? = some x := ⟨_, List.getElem?_eq_getElem hml⟩
        have HOB := hide HT.out.own
        obtain ⟨bq, off, rfl, hbs, c0, c1, c2⟩ := HRD.out.get3 (fun _ => rfl) hx rfl
        dsimp only at c0 c1 c2
        have hm0 : (0 : Int) ≤ (m : Int) := by omega
        have hm1 : (m : Int) < (l.length : Int) := by omega
        have hbg : bq ≠ d.g := by have := HRG.out bq off rfl; omega
        clear HOB hx
        go_wp2_with fail
        refine ⟨laterX_of HG.out, ?_⟩
        refine wpAnyX_take [7, 8] 2 rfl (by kernel_rfl) (by intro c a d v w h; cases d <;> exact h) (by kernel_rfl) (by kernel_rfl) (by kernel_rfl) (by simp; rfl) rfl (laterX_of HG.out) ?_
        repeat (go_big_quiet_step (fail))
        refine wpQuiet_nil ?_
        clear c0 c1 c2 hm0 hm1 hbs hbg HRD HRG
        refine wpAnyX_only 9 (by kernel_rfl) (by simp; rfl) rfl rfl (fun K hK => ?_)
        have HSB := hide (Row.new V2 #[.int .i64 0, .int .i64 0, .int .i64 0] 39)
        have HSX : Hid (V2.heap.size ≠ d.g ∧ B ≤ V2.heap.size) := hide (by have := HT.out.st.lt; have := HT.out.ord; omega)
        replace HT := hide (HT.out.alloc (.cells #[.int .i64 0, .int .i64 0, .int .i64 0] 39))
        replace HG := hide (grown_new HG.out (.cells #[.int .i64 0, .int .i64 0, .int .i64 0] 39))
        go_wp2_with fail
        refine ⟨laterX_of HG.out, ?_⟩
        generalize V2.alloc (.cells #[.int .i64 0, .int .i64 0, .int .i64 0] 39) = V4 at *
        generalize V2.heap.size = sb at *
        refine wpAnyX_last 10 (by kernel_rfl) (by simp; rfl) rfl rfl (by kernel_rfl) (fun K hK => ?_)
        have s0 := HSB.out.2.1 0 _ rfl
        have s1 := HSB.out.2.1 1 _ rfl
        have s2 := HSB.out.2.1 2 _ rfl
        have g0 := HSB.out.free 0
        have g1 := HSB.out.free 1
        have g2 := HSB.out.free 2
        have sz := HSB.out.1
        go_wp2_with fail
        clear s0 s1 s2 g0 g1 g2 sz HG
        have HS9 := hide (((HSB.out.set (k := 0) (by simp) (.int .i64 x0)).set (k := 1) (by simp) (.int .i64 x1)).set (k := 2) (by simp) (.int .i64 x2))
        have HT9 := hide (((HT.out.far (grown_set (p := ⟨sb, 0, none⟩) (.int .i64 x0) rfl) (fun k hk => by injection hk with hk; have := HSX.out.2; simp at hk; omega)).far (grown_set (p := ⟨sb, 1, none⟩) (.int .i64 x1) rfl) (fun k hk => by injection hk with hk; have := HSX.out.2; simp at hk; omega)).far (grown_set (p := ⟨sb, 2, none⟩) (.int .i64 x2) rfl) (fun k hk => by injection hk with hk; have := HSX.out.2; simp at hk; omega))
        refine wpAnyX_done (by kernel_rfl) ?_ _
        clear HT HSB
        generalize ((V4.setCell ⟨sb, 0, none⟩ (.int .i64 x0)).setCell ⟨sb, 1, none⟩ (.int .i64 x1)).setCell ⟨sb, 2, none⟩ (.int .i64 x2) = w5 at *
        have HT := hide HT9.out
        have HSB : Hid (Row w5 sb [.int .i64 x0, .int .i64 x1, .int .i64 x2]) := hide HS9.out
        clear HT9 HS9
        go_wp2_with fail
        refine (one_any d 5004 2 _ HOK.out HT.out.st (by omega) (by omega)).mono ?_
        rintro e w6 ⟨⟨b, rfl⟩, hs, hg⟩
        replace HT := hide (HT.out.draw hs hg)
        replace HSB := hide (HSB.out.grown hg (fun e => by injection e with e; exact HSX.out.1 e))
        clear hs hg
        cases b with
        | true =>
          go_upto_region 6 with fail
          have b0 := HT.out.box.2.1 0 _ rfl
          have b1 := HT.out.box.2.1 1 _ rfl
          have bz := HT.out.box.1
          have r0 := HT.out.res.2.1 0 _ rfl
          have r1 := HT.out.res.2.1 1 _ rfl
          have f0 := HT.out.res.free 0
          have f1 := HT.out.res.free 1
          have rz := HT.out.res.1
          have nn : tb ≠ w.heap.size := by have := HT.out.ord; omega
          have s0 := HSB.out.2.1 0 _ rfl
          have s1 := HSB.out.2.1 1 _ rfl
          have s2 := HSB.out.2.1 2 _ rfl
          have sz := HSB.out.1
          have ns : sb ≠ w.heap.size := by have := HSX.out.2; have := HT.out.ord; omega
          have HD := hide (HT.out.done (.int .i64 nd) (.slice (some ⟨bq, off, none⟩) l.length c'))
          go_wp2_with fail
          go_region
          go_wp2
          exact bodyPost_ret (v := .tuple #[.agg #[.int .i64 nd, .slice (some ⟨bq, off, none⟩) l.length c'], .int .i64 x1, .int .i64 x0]) (by simp [results, Tryz.results5, go_sem, *]) rfl ⟨⟨nd, some ⟨bq, off, none⟩, c', l, x1, x0, rfl, HL.out, HD.out.1⟩, HD.out.2.drew⟩
        | false =>
          go_upto_region 7 with fail
          have b0 := HT.out.box.2.1 0 _ rfl
          have b1 := HT.out.box.2.1 1 _ rfl
          have bz := HT.out.box.1
          have r0 := HT.out.res.2.1 0 _ rfl
          have r1 := HT.out.res.2.1 1 _ rfl
          have f0 := HT.out.res.free 0
          have f1 := HT.out.res.free 1
          have rz := HT.out.res.1
          have nn : tb ≠ w.heap.size := by have := HT.out.ord; omega
          have s0 := HSB.out.2.1 0 _ rfl
          have s1 := HSB.out.2.1 1 _ rfl
          have s2 := HSB.out.2.1 2 _ rfl
          have sz := HSB.out.1
          have ns : sb ≠ w.heap.size := by have := HSX.out.2; have := HT.out.ord; omega
          have HD := hide (HT.out.done (.int .i64 nd) (.slice (some ⟨bq, off, none⟩) l.length c'))
          go_wp2_with fail
          go_region
          go_wp2
          exact bodyPost_ret (v := .tuple #[.agg #[.int .i64 nd, .slice (some ⟨bq, off, none⟩) l.length c'], .int .i64 x0, .int .i64 x1]) (by simp [results, Tryz.results5, go_sem, *]) rfl ⟨⟨nd, some ⟨bq, off, none⟩, c', l, x0, x1, rfl, HL.out, HD.out.1⟩, HD.out.2.drew⟩
      · as_aux_lemma =>
        have HSB := hide (Row.new V0 #[.int .i64 0, .int .i64 0, .int .i64 0] 39)
        have HSX : Hid (V0.heap.size ≠ d.g ∧ B ≤ V0.heap.size) := hide (by have := HT.out.st.lt; have := HT.out.ord; omega)
        replace HT := hide (HT.out.alloc (.cells #[.int .i64 0, .int .i64 0, .int .i64 0] 39))
        replace HG := hide (grown_new HG.out (.cells #[.int .i64 0, .int .i64 0, .int .i64 0] 39))
        go_wp2_with fail
        refine ⟨laterX_of HG.out, ?_⟩
        generalize V0.alloc (.cells #[.int .i64 0, .int .i64 0, .int .i64 0] 39) = V1 at *
        generalize V0.heap.size = sb at *
        refine wpAnyX_only 6 (by kernel_rfl) (by simp; rfl) rfl rfl (fun K hK => ?_)
        go_wp2_with fail
        refine (pick_any d 5002 (l.length : Int) _ HOK.out HT.out.st (by omega) (by have := HL.out; omega)).mono ?_
        rintro e V2 ⟨⟨x, rfl, hx0, hx1, hx2⟩, hs, hg⟩
        replace HT := hide (HT.out.draw hs hg)
        replace HG := hide (grown_trans HG.out hg)
        replace HSB := hide (HSB.out.grown hg (fun e => by injection e with e; exact HSX.out.1 e))
        obtain ⟨m, rfl⟩ := Int.eq_ofNat_of_zero_le hx0
        have hml : m < l.length := by omega
        clear hs hg hx0 hx1 hx2
        obtain ⟨⟨x0, x1, x2⟩, hx⟩ : ∃ x, l[m]? = some x := ⟨_, List.getElem?_eq_getElem hml⟩
        have HOB := hide HT.out.own
        obtain ⟨bq, off, rfl, hbs, c0, c1, c2⟩ := HRD.out.get3 (fun _ => rfl) hx rfl
        dsimp only at c0 c1 c2
        have hm0 : (0 : Int) ≤ (m : Int) := by omega
        have hm1 : (m : Int) < (l.length : Int) := by omega
        have hbg : bq ≠ d.g := by have := HRG.out bq off rfl; omega
        clear HOB hx
        go_wp2_with fail
        refine ⟨laterX_of HG.out, ?_⟩
        refine wpAnyX_take [7, 8] 1 rfl (by kernel_rfl) (by intro c a d v w h; cases d <;> exact h) (by kernel_rfl) (by kernel_rfl) (by kernel_rfl) (by simp; rfl) rfl (laterX_of HG.out) ?_
        repeat (go_big_quiet_step (fail))
        refine wpQuiet_nil ?_
        clear c0 c1 c2 hm0 hm1 hbs hbg HRD HRG
        refine wpAnyX_last 10 (by kernel_rfl) (by simp; rfl) rfl rfl (by kernel_rfl) (fun K hK => ?_)
        have s0 := HSB.out.2.1 0 _ rfl
        have s1 := HSB.out.2.1 1 _ rfl
        have s2 := HSB.out.2.1 2 _ rfl
        have g0 := HSB.out.free 0
        have g1 := HSB.out.free 1
        have g2 := HSB.out.free 2
        have sz := HSB.out.1
        go_wp2_with fail
        clear s0 s1 s2 g0 g1 g2 sz HG
        have HS9 := hide (((HSB.out.set (k := 0) (by simp) (.int .i64 x0)).set (k := 1) (by simp) (.int .i64 x1)).set (k := 2) (by simp) (.int .i64 x2))
        have HT9 := hide (((HT.out.far (grown_set (p := ⟨sb, 0, none⟩) (.int .i64 x0) rfl) (fun k hk => by injection hk with hk; have := HSX.out.2; simp at hk; omega)).far (grown_set (p := ⟨sb, 1, none⟩) (.int .i64 x1) rfl) (fun k hk => by injection hk with hk; have := HSX.out.2; simp at hk; omega)).far (grown_set (p := ⟨sb, 2, none⟩) (.int .i64 x2) rfl) (fun k hk => by injection hk with hk; have := HSX.out.2; simp at hk; omega))
        refine wpAnyX_done (by kernel_rfl) ?_ _
        clear HT HSB
        generalize ((V2.setCell ⟨sb, 0, none⟩ (.int .i64 x0)).setCell ⟨sb, 1, none⟩ (.int .i64 x1)).setCell ⟨sb, 2, none⟩ (.int .i64 x2) = w5 at *
        have HT := hide HT9.out
        have HSB : Hid (Row w5 sb [.int .i64 x0, .int .i64 x1, .int .i64 x2]) := hide HS9.out
        clear HT9 HS9
        go_wp2_with fail
        refine (one_any d 5004 2 _ HOK.out HT.out.st (by omega) (by omega)).mono ?_
        rintro e w6 ⟨⟨b, rfl⟩, hs, hg⟩
        replace HT := hide (HT.out.draw hs hg)
        replace HSB := hide (HSB.out.grown hg (fun e => by injection e with e; exact HSX.out.1 e))
        clear hs hg
        cases b with
        | true =>
          go_upto_region 6 with fail
          have b0 := HT.out.box.2.1 0 _ rfl
          have b1 := HT.out.box.2.1 1 _ rfl
          have bz := HT.out.box.1
          have r0 := HT.out.res.2.1 0 _ rfl
          have r1 := HT.out.res.2.1 1 _ rfl
          have f0 := HT.out.res.free 0
          have f1 := HT.out.res.free 1
          have rz := HT.out.res.1
          have nn : tb ≠ w.heap.size := by have := HT.out.ord; omega
          have s0 := HSB.out.2.1 0 _ rfl
          have s1 := HSB.out.2.1 1 _ rfl
          have s2 := HSB.out.2.1 2 _ rfl
          have sz := HSB.out.1
          have ns : sb ≠ w.heap.size := by have := HSX.out.2; have := HT.out.ord; omega
          have HD := hide (HT.out.done (.int .i64 nd) (.slice (some ⟨bq, off, none⟩) l.length c'))
          go_wp2_with fail
          go_region
          go_wp2
          exact bodyPost_ret (v := .tuple #[.agg #[.int .i64 nd, .slice (some ⟨bq, off, none⟩) l.length c'], .int .i64 x1, .int .i64 x0]) (by simp [results, Tryz.results5, go_sem, *]) rfl ⟨⟨nd, some ⟨bq, off, none⟩, c', l, x1, x0, rfl, HL.out, HD.out.1⟩, HD.out.2.drew⟩
        | false =>
          go_upto_region 7 with fail
          have b0 := HT.out.box.2.1 0 _ rfl
          have b1 := HT.out.box.2.1 1 _ rfl
          have bz := HT.out.box.1
          have r0 := HT.out.res.2.1 0 _ rfl
          have r1 := HT.out.res.2.1 1 _ rfl
          have f0 := HT.out.res.free 0
          have f1 := HT.out.res.free 1
          have rz := HT.out.res.1
          have nn : tb ≠ w.heap.size := by have := HT.out.ord; omega
          have s0 := HSB.out.2.1 0 _ rfl
          have s1 := HSB.out.2.1 1 _ rfl
          have s2 := HSB.out.2.1 2 _ rfl
          have sz := HSB.out.1
          have ns : sb ≠ w.heap.size := by have := HSX.out.2; have := HT.out.ord; omega
          have HD := hide (HT.out.done (.int .i64 nd) (.slice (some ⟨bq, off, none⟩) l.length c'))
          go_wp2_with fail
          go_region
          go_wp2
          exact bodyPost_ret (v := .tuple #[.agg #[.int .i64 nd, .slice (some ⟨bq, off, none⟩) l.length c'], .int .i64 x0, .int .i64 x1]) (by simp [results, Tryz.results5, go_sem, *]) rfl ⟨⟨nd, some ⟨bq, off, none⟩, c', l, x0, x1, rfl, HL.out, HD.out.1⟩, HD.out.2.drew⟩
end Go.Proofs.YtbhnaakknfienaaGreatDoor
namespace Go.Proofs.YtbhnaakknfienaaGreatDoor
open Go.RowKit
set_option linter.unusedVariables false
set_option linter.unusedSimpArgs false

section
variable {P : Program} {ops : Array Oper} {Q : Exit → Act → World → Prop} {md : Region.Mode} {S : World → Prop} {X : List Nat}
/-- Two are ready; the second is one of X. -/
theorem wpAnyX_pairX (i j : Nat) {oi oj : Oper} {fuel : Nat} {listed li lj : Array Bool} {a : Act} {w : World} (hr : Region.ready md ops listed = [i, j]) (hoi : ops[i]? = some oi) (hoj : ops[j]? = some oj) (hLi : listed.setIfInBounds i true = li) (hLj : listed.setIfInBounds j true = lj) (hgi : oi.guard = none) (hgj : oj.guard = none) (hx : X.any (fun x => lj.getD x false) = true)
    (h1 : ∀ K : Act → World → Prop, (∀ a w', (S w' ∧ wpAnyX P md ops Q S X fuel li a w') → K a w') → Oper.wp P oi a w K Q)
    (h2 : ∀ K : Act → World → Prop, (∀ a w', wpAnyX P md ops Q S X fuel lj a w' → K a w') → Oper.wp P oj a w K Q) :
    wpAnyX P md ops Q S X (fuel + 1) listed a w := by
  refine wpAnyX_all hr (by simp) fun k hk => ?_
  simp only [List.mem_cons, List.not_mem_nil, or_false] at hk
  rcases hk with rfl | rfl
  · refine wpOp_step hoi (fun K' hK => ?_)
    rw [if_pos (by simp [Region.wanted, hgi])]
    refine h1 K' (fun a' w' ⟨hS, hW⟩ => hK _ _ ⟨.inl hS, ?_⟩)
    rw [hLi]
    exact hW
  · refine wpOp_step hoj (fun K' hK => ?_)
    rw [if_pos (by simp [Region.wanted, hgj])]
    refine h2 K' (fun a' w' hW => hK _ _ ⟨.inr ?_, ?_⟩)
    · obtain ⟨x, hx1, hx2⟩ := List.any_eq_true.1 hx
      rw [hLj]
      exact ⟨x, hx1, hx2⟩
    · rw [hLj]
      exact hW
end
/-- A drawn town and a street. -/
def TownSt (w : World) (e : Ending) (w' : World) : Prop :=
  (∃ (nd : Int) (A' : Option Addr) (c' : Nat) (l : List StT) (s0 s1 s2 : Int), e = .returned (.tuple #[.agg #[.int .i64 nd, .slice A' l.length c'], .agg #[.int .i64 s0, .int .i64 s1, .int .i64 s2]]) ∧ l.length ≤ 41 ∧ w'.ownsRow w.heap.size 39 3 (.slice A' l.length c') l.length (l.flatMap tcells)) ∧ Below w.heap.size w w'
/-- What is known while the arguments are drawn: both results' cells, the town's box, the town. -/
structure TaAt (d : Drw) (w : World) (tb : Nat) (nd : Int) (A : Option Addr) (c : Nat) (l : List StT) (N : Nat) (wr : World) : Prop where
  base : d.W0 = w
  dg : d.g = w.heap.size + 1 + 1
  st : d.st N wr
  res : Row wr w.heap.size [.int .i64 0, .slice none 0 0]
  rez : Row wr (w.heap.size + 1) [.int .i64 0, .int .i64 0, .int .i64 0]
  box : Row wr tb [.int .i64 nd, .slice A l.length c]
  own : wr.ownsRow (w.heap.size + 1 + 1 + 1) 39 3 (.slice A l.length c) l.length (l.flatMap tcells)
  ord : d.g < tb
section
variable {d : Drw} {w wr w' : World} {tb c N K : Nat} {nd : Int} {A : Option Addr} {l : List StT}
theorem TaAt.draw (h : TaAt d w tb nd A c l N wr) (hs : d.st K w') (hg : wr.grownBy w' (some d.g)) : TaAt d w tb nd A c l K w' :=
  ⟨h.base, h.dg, hs, h.res.grown hg (fun e => by injection e with e; have := h.dg; omega), h.rez.grown hg (fun e => by injection e with e; have := h.dg; omega), h.box.grown hg (fun e => by injection e with e; have := h.ord; omega), own_far h.own hg (by have := h.dg; omega), h.ord⟩
theorem TaAt.drew (h : TaAt d w tb nd A c l N wr) : TaAt d w tb nd A c l N wr.drew := h.draw (K := N) h.st.drew (grown_of_below (Below.refl _ _).drew _)
theorem TaAt.alloc (h : TaAt d w tb nd A c l N wr) (o : Obj) : TaAt d w tb nd A c l N (wr.alloc o) := h.draw (K := N) (h.st.alloc o) (grown_of_below ((Below.refl _ _).alloc (Nat.le_refl _) o) _)
theorem TaAt.below (h : TaAt d w tb nd A c l N wr) : Below w.heap.size w wr := by
  have h0 := h.st.1
  rwa [h.base] at h0
end
set_option maxRecDepth 100000 in
set_option maxHeartbeats 16000000 in
theorem DrawAddStreet_any (A : Option Addr) (n c : Nat) (code : List Int) (w : World) (hn : n = code.length) (hm : n ≤ maxLen) (hb : ∀ x ∈ code, 0 ≤ x ∧ x ≤ 255) (hr : Rd w A (code.map (Value.int .u8))) :
    Calls Tryz.prog 18 #[.slice A n c] w (TownSt w) := by
  obtain ⟨d, hd⟩ : ∃ d, d = Drw.mk w (w.heap.size + 1 + 1) A n c code := ⟨_, rfl⟩
  have hok : d.ok := by rw [hd]; exact ⟨hn, hm, hb, hr, by show w.heap.size ≤ w.heap.size + 1 + 1; omega⟩
  have HGE := hide (show w.heap.size + 1 + 1 = d.g by rw [hd])
  have hW : d.W0 = w := by rw [hd]
  have HS : Hid (d.st 0 (((w.alloc (.cells #[.int .i64 0, .slice none 0 0] 26)).alloc (.cells #[.int .i64 0, .int .i64 0, .int .i64 0] 39)).alloc (.cells #[.slice A n c, .int .i64 0, .int .u64 0] 57))) := hide (by
    rw [hd]
    have hR := Row.new ((w.alloc (.cells #[.int .i64 0, .slice none 0 0] 26)).alloc (.cells #[.int .i64 0, .int .i64 0, .int .i64 0] 39)) #[.slice A n c, .int .i64 0, .int .u64 0] 57
    rw [show ((w.alloc (.cells #[.int .i64 0, .slice none 0 0] 26)).alloc (.cells #[.int .i64 0, .int .i64 0, .int .i64 0] 39)).heap.size = w.heap.size + 1 + 1 by simp] at hR
    exact ⟨below_alloc (below_alloc (below_alloc (Below.refl _ _) _) _) _, 0, 0, Nat.le_refl _, ⟨by omega, by omega⟩, hR⟩)
  have HR := hide (((Row.new w #[.int .i64 0, .slice none 0 0] 26).alloc (.cells #[.int .i64 0, .int .i64 0, .int .i64 0] 39)).alloc (.cells #[.slice A n c, .int .i64 0, .int .u64 0] 57))
  have HQ : Hid (Row (((w.alloc (.cells #[.int .i64 0, .slice none 0 0] 26)).alloc (.cells #[.int .i64 0, .int .i64 0, .int .i64 0] 39)).alloc (.cells #[.slice A n c, .int .i64 0, .int .u64 0] 57)) (w.heap.size + 1) [.int .i64 0, .int .i64 0, .int .i64 0]) := hide (by
    have h := (Row.new (w.alloc (.cells #[.int .i64 0, .slice none 0 0] 26)) #[.int .i64 0, .int .i64 0, .int .i64 0] 39).alloc (.cells #[.slice A n c, .int .i64 0, .int .u64 0] 57)
    rwa [show (w.alloc (.cells #[.int .i64 0, .slice none 0 0] 26)).heap.size = w.heap.size + 1 by simp] at h)
  have HOK := hide hok
  have HW := hide hW
  clear hn hm hb hr hok hW hd
  go_enter Tryz.func18, Tryz.ntmps18
  go_wp2_with fail
  rw [HGE.out]
  refine (anyTown_any d 0 _ HOK.out HS.out (by omega)).mono ?_
  rintro e w1 ⟨⟨nd, A', c', l, rfl, -, hl, ho⟩, hs, hg⟩
  have HL := hide hl
  go_upto_region 3 with fail
  have HT : Hid (TaAt d w w1.heap.size nd A' c' l 5000 (w1.alloc (.cells #[.int .i64 nd, .slice A' l.length c'] 26))) := hide ⟨HW.out, HGE.out.symm, (hs.more (by omega)).alloc _, (HR.out.grown hg (fun e => by injection e with e; have := HGE.out; omega)).alloc _, (HQ.out.grown hg (fun e => by injection e with e; have := HGE.out; omega)).alloc _, Row.new _ _ _, World.ownsRow.alloc (own_le ho (by simp)) _, hs.lt⟩
  clear HR HQ hs hg ho hl HS HW
  generalize w1.alloc (.cells #[.int .i64 nd, .slice A' l.length c'] 26) = w2 at *
  generalize w1.heap.size = tb at *
  have b0 := HT.out.box.2.1 0 _ rfl
  have b1 := HT.out.box.2.1 1 _ rfl
  have bz := HT.out.box.1
  have tg : tb ≠ d.g := by have := HT.out.ord; omega
  go_wp2_with fail
  refine wpAnyX_start (fun w' => ∃ n : LaterX w2 d.g, w' = n.w) [14] (n := 16) (by kernel_rfl) rfl rfl ?_
  refine wpAnyX_take [0, 1, 2, 4, 5, 7, 8] 9 rfl (by kernel_rfl) (by intro c a d v w h; cases d <;> exact h) (by kernel_rfl) (by kernel_rfl) (by kernel_rfl) (by simp; rfl) rfl (laterX_drew _ _) ?_
  repeat (go_big_quiet_step (fail))
  refine wpQuiet_nil ?_
  clear b0 b1 bz tg
  have HG : Hid (w2.grownBy w2.drew (some d.g)) := hide (grown_of_below (Below.refl _ _).drew _)
  replace HT := hide HT.out.drew
  generalize w2.drew = V0 at *
  refine wpAnyX_two 3 9 (by kernel_rfl) (by simp; rfl) (by simp; rfl) rfl rfl rfl rfl (fun K hK => ?_) (fun K hK => ?_)
  · skip
    go_wp2_with fail
    refine (nodeOf_any d 5000 nd A' l.length c' _ HOK.out (HT.out.st.more (by omega)) (by omega)).mono ?_
    rintro e V1 ⟨⟨i, rfl, -⟩, hs, hg⟩
    replace HT := hide (HT.out.draw hs hg)
    replace HG := hide (grown_trans HG.out hg)
    clear hs hg
    go_wp2_with fail
    refine ⟨laterX_of HG.out, ?_⟩
    refine wpAnyX_two 6 9 (by kernel_rfl) (by simp; rfl) (by simp; rfl) rfl rfl rfl rfl (fun K hK => ?_) (fun K hK => ?_)
    · skip
      go_wp2_with fail
      refine (nodeOf_any d 5014 nd A' l.length c' _ HOK.out (HT.out.st.more (by omega)) (by omega)).mono ?_
      rintro e V2 ⟨⟨j, rfl, -⟩, hs, hg⟩
      replace HT := hide (HT.out.draw hs hg)
      replace HG := hide (grown_trans HG.out hg)
      clear hs hg
      go_wp2_with fail
      refine ⟨laterX_of HG.out, ?_⟩
      refine wpAnyX_only 9 (by kernel_rfl) (by simp; rfl) rfl rfl (fun K hK => ?_)
      have HB := hide (Row.new V2 #[.int .i64 0, .int .i64 3601, .int .i64 (-9223372036854775808)] 3)
      have HBG : Hid (V2.heap.size ≠ d.g) := hide (by have := HT.out.st.lt; omega)
      replace HT := hide (HT.out.alloc (.cells #[.int .i64 0, .int .i64 3601, .int .i64 (-9223372036854775808)] 3))
      replace HG := hide (grown_new HG.out (.cells #[.int .i64 0, .int .i64 3601, .int .i64 (-9223372036854775808)] 3))
      refine wp_ints3 0 3601 (-9223372036854775808) (.const (.int .i64 0)) (.const (.int .i64 3601)) (.const (.int .i64 (-9223372036854775808))) rfl rfl rfl rfl (hK _ _ ⟨laterX_of HG.out, ?_⟩)
      simp only [Act.put, List.setIfInBounds_toArray, List.set_cons_succ, List.set_cons_zero]
      generalize V2.alloc (.cells #[.int .i64 0, .int .i64 3601, .int .i64 (-9223372036854775808)] 3) = V3 at *
      generalize V2.heap.size = lb at *
      refine wpAnyX_only 10 (by kernel_rfl) (by simp; rfl) rfl rfl (fun K hK => ?_)
      go_wp2_with fail
      refine (among_any d 5028 (some ⟨lb, 0, none⟩) 3 3 [0, 3601, -9223372036854775808] _ HOK.out (HT.out.st.more (by omega)) (by omega) rfl (by omega) (by omega) (by exact HB.out.rd) (fun b o sp e => by injection e with e; injection e with e; have := HBG.out; omega)).mono ?_
      rintro e V5 ⟨⟨z0, rfl, -⟩, hs, hg⟩
      replace HT := hide (HT.out.draw hs hg)
      replace HG := hide (grown_trans HG.out hg)
      clear hs hg HB HBG
      go_wp2_with fail
      refine ⟨laterX_of HG.out, ?_⟩
      refine wpAnyX_only 11 (by kernel_rfl) (by simp; rfl) rfl rfl (fun K hK => ?_)
      have HC := hide (Row.new V5 #[.int .i64 1, .int .i64 60, .int .i64 90, .int .i64 3600, .int .i64 z0] 3)
      have HCG : Hid (V5.heap.size ≠ d.g) := hide (by have := HT.out.st.lt; omega)
      replace HT := hide (HT.out.alloc (.cells #[.int .i64 1, .int .i64 60, .int .i64 90, .int .i64 3600, .int .i64 z0] 3))
      replace HG := hide (grown_new HG.out (.cells #[.int .i64 1, .int .i64 60, .int .i64 90, .int .i64 3600, .int .i64 z0] 3))
      refine wp_ints5 1 60 90 3600 z0 (.const (.int .i64 1)) (.const (.int .i64 60)) (.const (.int .i64 90)) (.const (.int .i64 3600)) (.tmp 21) rfl rfl rfl rfl rfl rfl (hK _ _ ⟨laterX_of HG.out, ?_⟩)
      simp only [Act.put, List.setIfInBounds_toArray, List.set_cons_succ, List.set_cons_zero]
      generalize V5.alloc (.cells #[.int .i64 1, .int .i64 60, .int .i64 90, .int .i64 3600, .int .i64 z0] 3) = V6 at *
      generalize V5.heap.size = lb2 at *
      refine wpAnyX_only 12 (by kernel_rfl) (by simp; rfl) rfl rfl (fun K hK => ?_)
      go_wp2_with fail
      refine (among_any d 5030 (some ⟨lb2, 0, none⟩) 5 5 [1, 60, 90, 3600, z0] _ HOK.out (HT.out.st.more (by omega)) (by omega) rfl (by omega) (by omega) (by exact HC.out.rd) (fun b o sp e => by injection e with e; injection e with e; have := HCG.out; omega)).mono ?_
      rintro e V7 ⟨⟨z, rfl, -⟩, hs, hg⟩
      replace HT := hide (HT.out.draw hs hg)
      replace HG := hide (grown_trans HG.out hg)
      clear hs hg HC HCG
      go_wp2_with fail
      refine ⟨laterX_of HG.out, ?_⟩
      have HB9 := hide ((((((HT.out.below.setCell (p := ⟨w.heap.size, 0, none⟩) (Nat.le_refl _) (.int .i64 nd)).setCell (p := ⟨w.heap.size, 1, none⟩) (Nat.le_refl _) (.slice A' l.length c')).setCell (p := ⟨w.heap.size + 1, 0, none⟩) (Nat.le_succ _) (.int .i64 i)).setCell (p := ⟨w.heap.size + 1, 1, none⟩) (Nat.le_succ _) (.int .i64 j)).setCell (p := ⟨w.heap.size + 1, 2, none⟩) (Nat.le_succ _) (.int .i64 z)))
      have HO9 := hide (own_far_any (own_far_any (own_far_any (own_far_any (own_far_any HT.out.own (q := w.heap.size) (o := 0) (u := .int .i64 nd) (by omega)) (q := w.heap.size) (o := 1) (u := .slice A' l.length c') (by omega)) (q := w.heap.size + 1) (o := 0) (u := .int .i64 i) (by omega)) (q := w.heap.size + 1) (o := 1) (u := .int .i64 j) (by omega)) (q := w.heap.size + 1) (o := 2) (u := .int .i64 z) (by omega))
      have HR9 := hide (((((HT.out.res.set (k := 0) (by simp) (.int .i64 nd)).set (k := 1) (by simp) (.slice A' l.length c')).far (p := ⟨w.heap.size + 1, 0, none⟩) (by simp) (.int .i64 i)).far (p := ⟨w.heap.size + 1, 1, none⟩) (by simp) (.int .i64 j)).far (p := ⟨w.heap.size + 1, 2, none⟩) (by simp) (.int .i64 z))
      have HQ9 := hide (((((HT.out.rez.far (p := ⟨w.heap.size, 0, none⟩) (by simp) (.int .i64 nd)).far (p := ⟨w.heap.size, 1, none⟩) (by simp) (.slice A' l.length c')).set (k := 0) (by simp) (.int .i64 i)).set (k := 1) (by simp) (.int .i64 j)).set (k := 2) (by simp) (.int .i64 z))
      refine wpAnyX_pairX 13 14 (by kernel_rfl) (by simp; rfl) (by simp; rfl) rfl rfl rfl rfl (by kernel_rfl) (fun K hK => ?_) (fun K hK => ?_)
      · go_wp2_with fail
        refine ⟨laterX_of HG.out, ?_⟩
        clear HG
        have r0 := HT.out.res.2.1 0 _ rfl
        have r1 := HT.out.res.2.1 1 _ rfl
        have f0 := HT.out.res.free 0
        have f1 := HT.out.res.free 1
        have rz := HT.out.res.1
        have q0 := HT.out.rez.2.1 0 _ rfl
        have q1 := HT.out.rez.2.1 1 _ rfl
        have q2 := HT.out.rez.2.1 2 _ rfl
        have e0 := HT.out.rez.free 0
        have e1 := HT.out.rez.free 1
        have e2 := HT.out.rez.free 2
        have qz := HT.out.rez.1
        refine wpAnyX_last 14 (by kernel_rfl) (by simp; rfl) rfl rfl (by kernel_rfl) (fun K hK => ?_)
        go_wp2_with fail
        refine wpAnyX_last 15 (by kernel_rfl) (by simp; rfl) rfl rfl (by kernel_rfl) (fun K hK => ?_)
        go_wp2_with fail
        refine wpAnyX_done (by kernel_rfl) ?_ _
        clear r0 r1 f0 f1 rz q0 q1 q2 e0 e1 e2 qz HT
        generalize ((((V7.setCell ⟨w.heap.size, 0, none⟩ (.int .i64 nd)).setCell ⟨w.heap.size, 1, none⟩ (.slice A' l.length c')).setCell ⟨w.heap.size + 1, 0, none⟩ (.int .i64 i)).setCell ⟨w.heap.size + 1, 1, none⟩ (.int .i64 j)).setCell ⟨w.heap.size + 1, 2, none⟩ (.int .i64 z) = V9 at *
        have r0 := HR9.out.2.1 0 _ rfl
        have r1 := HR9.out.2.1 1 _ rfl
        have rz := HR9.out.1
        have q0 := HQ9.out.2.1 0 _ rfl
        have q1 := HQ9.out.2.1 1 _ rfl
        have q2 := HQ9.out.2.1 2 _ rfl
        have qz := HQ9.out.1
        go_wp2
        refine bodyPost_ret (v := .tuple #[.agg #[.int .i64 nd, .slice A' l.length c'], .agg #[.int .i64 i, .int .i64 j, .int .i64 z]]) ?_ rfl ?_
        · simp [results, Tryz.results18, go_sem, r0, r1, rz, q0, q1, q2, qz]
        · exact ⟨⟨nd, A', c', l, i, j, z, rfl, HL.out, own_le HO9.out (by omega)⟩, HB9.out⟩
      · clear HG
        have r0 := HT.out.res.2.1 0 _ rfl
        have r1 := HT.out.res.2.1 1 _ rfl
        have f0 := HT.out.res.free 0
        have f1 := HT.out.res.free 1
        have rz := HT.out.res.1
        have q0 := HT.out.rez.2.1 0 _ rfl
        have q1 := HT.out.rez.2.1 1 _ rfl
        have q2 := HT.out.rez.2.1 2 _ rfl
        have e0 := HT.out.rez.free 0
        have e1 := HT.out.rez.free 1
        have e2 := HT.out.rez.free 2
        have qz := HT.out.rez.1
        go_wp2_with fail
        refine wpAnyX_last 13 (by kernel_rfl) (by simp; rfl) rfl rfl (by kernel_rfl) (fun K hK => ?_)
        go_wp2_with fail
        refine wpAnyX_last 15 (by kernel_rfl) (by simp; rfl) rfl rfl (by kernel_rfl) (fun K hK => ?_)
        go_wp2_with fail
        refine wpAnyX_done (by kernel_rfl) ?_ _
        clear r0 r1 f0 f1 rz q0 q1 q2 e0 e1 e2 qz HT
        generalize ((((V7.setCell ⟨w.heap.size, 0, none⟩ (.int .i64 nd)).setCell ⟨w.heap.size, 1, none⟩ (.slice A' l.length c')).setCell ⟨w.heap.size + 1, 0, none⟩ (.int .i64 i)).setCell ⟨w.heap.size + 1, 1, none⟩ (.int .i64 j)).setCell ⟨w.heap.size + 1, 2, none⟩ (.int .i64 z) = V9 at *
        have r0 := HR9.out.2.1 0 _ rfl
        have r1 := HR9.out.2.1 1 _ rfl
        have rz := HR9.out.1
        have q0 := HQ9.out.2.1 0 _ rfl
        have q1 := HQ9.out.2.1 1 _ rfl
        have q2 := HQ9.out.2.1 2 _ rfl
        have qz := HQ9.out.1
        go_wp2
        refine bodyPost_ret (v := .tuple #[.agg #[.int .i64 nd, .slice A' l.length c'], .agg #[.int .i64 i, .int .i64 j, .int .i64 z]]) ?_ rfl ?_
        · simp [results, Tryz.results18, go_sem, r0, r1, rz, q0, q1, q2, qz]
        · exact ⟨⟨nd, A', c', l, i, j, z, rfl, HL.out, own_le HO9.out (by omega)⟩, HB9.out⟩
    · skip
      have HB := hide (Row.new V1 #[.int .i64 0, .int .i64 3601, .int .i64 (-9223372036854775808)] 3)
      have HBG : Hid (V1.heap.size ≠ d.g) := hide (by have := HT.out.st.lt; omega)
      replace HT := hide (HT.out.alloc (.cells #[.int .i64 0, .int .i64 3601, .int .i64 (-9223372036854775808)] 3))
      replace HG := hide (grown_new HG.out (.cells #[.int .i64 0, .int .i64 3601, .int .i64 (-9223372036854775808)] 3))
      refine wp_ints3 0 3601 (-9223372036854775808) (.const (.int .i64 0)) (.const (.int .i64 3601)) (.const (.int .i64 (-9223372036854775808))) rfl rfl rfl rfl (hK _ _ ⟨laterX_of HG.out, ?_⟩)
      simp only [Act.put, List.setIfInBounds_toArray, List.set_cons_succ, List.set_cons_zero]
      generalize V1.alloc (.cells #[.int .i64 0, .int .i64 3601, .int .i64 (-9223372036854775808)] 3) = V2 at *
      generalize V1.heap.size = lb at *
      refine wpAnyX_only 6 (by kernel_rfl) (by simp; rfl) rfl rfl (fun K hK => ?_)
      go_wp2_with fail
      refine (nodeOf_any d 5014 nd A' l.length c' _ HOK.out (HT.out.st.more (by omega)) (by omega)).mono ?_
      rintro e V3 ⟨⟨j, rfl, -⟩, hs, hg⟩
      replace HT := hide (HT.out.draw hs hg)
      replace HG := hide (grown_trans HG.out hg)
      replace HB := hide (HB.out.grown hg (fun e => by injection e with e; exact HBG.out e))
      clear hs hg
      go_wp2_with fail
      refine ⟨laterX_of HG.out, ?_⟩
      refine wpAnyX_only 10 (by kernel_rfl) (by simp; rfl) rfl rfl (fun K hK => ?_)
      go_wp2_with fail
      refine (among_any d 5028 (some ⟨lb, 0, none⟩) 3 3 [0, 3601, -9223372036854775808] _ HOK.out (HT.out.st.more (by omega)) (by omega) rfl (by omega) (by omega) (by exact HB.out.rd) (fun b o sp e => by injection e with e; injection e with e; have := HBG.out; omega)).mono ?_
      rintro e V5 ⟨⟨z0, rfl, -⟩, hs, hg⟩
      replace HT := hide (HT.out.draw hs hg)
      replace HG := hide (grown_trans HG.out hg)
      clear hs hg HB HBG
      go_wp2_with fail
      refine ⟨laterX_of HG.out, ?_⟩
      refine wpAnyX_only 11 (by kernel_rfl) (by simp; rfl) rfl rfl (fun K hK => ?_)
      have HC := hide (Row.new V5 #[.int .i64 1, .int .i64 60, .int .i64 90, .int .i64 3600, .int .i64 z0] 3)
      have HCG : Hid (V5.heap.size ≠ d.g) := hide (by have := HT.out.st.lt; omega)
      replace HT := hide (HT.out.alloc (.cells #[.int .i64 1, .int .i64 60, .int .i64 90, .int .i64 3600, .int .i64 z0] 3))
      replace HG := hide (grown_new HG.out (.cells #[.int .i64 1, .int .i64 60, .int .i64 90, .int .i64 3600, .int .i64 z0] 3))
      refine wp_ints5 1 60 90 3600 z0 (.const (.int .i64 1)) (.const (.int .i64 60)) (.const (.int .i64 90)) (.const (.int .i64 3600)) (.tmp 21) rfl rfl rfl rfl rfl rfl (hK _ _ ⟨laterX_of HG.out, ?_⟩)
      simp only [Act.put, List.setIfInBounds_toArray, List.set_cons_succ, List.set_cons_zero]
      generalize V5.alloc (.cells #[.int .i64 1, .int .i64 60, .int .i64 90, .int .i64 3600, .int .i64 z0] 3) = V6 at *
      generalize V5.heap.size = lb2 at *
      refine wpAnyX_only 12 (by kernel_rfl) (by simp; rfl) rfl rfl (fun K hK => ?_)
      go_wp2_with fail
      refine (among_any d 5030 (some ⟨lb2, 0, none⟩) 5 5 [1, 60, 90, 3600, z0] _ HOK.out (HT.out.st.more (by omega)) (by omega) rfl (by omega) (by omega) (by exact HC.out.rd) (fun b o sp e => by injection e with e; injection e with e; have := HCG.out; omega)).mono ?_
      rintro e V7 ⟨⟨z, rfl, -⟩, hs, hg⟩
      replace HT := hide (HT.out.draw hs hg)
      replace HG := hide (grown_trans HG.out hg)
      clear hs hg HC HCG
      go_wp2_with fail
      refine ⟨laterX_of HG.out, ?_⟩
      have HB9 := hide ((((((HT.out.below.setCell (p := ⟨w.heap.size, 0, none⟩) (Nat.le_refl _) (.int .i64 nd)).setCell (p := ⟨w.heap.size, 1, none⟩) (Nat.le_refl _) (.slice A' l.length c')).setCell (p := ⟨w.heap.size + 1, 0, none⟩) (Nat.le_succ _) (.int .i64 i)).setCell (p := ⟨w.heap.size + 1, 1, none⟩) (Nat.le_succ _) (.int .i64 j)).setCell (p := ⟨w.heap.size + 1, 2, none⟩) (Nat.le_succ _) (.int .i64 z)))
      have HO9 := hide (own_far_any (own_far_any (own_far_any (own_far_any (own_far_any HT.out.own (q := w.heap.size) (o := 0) (u := .int .i64 nd) (by omega)) (q := w.heap.size) (o := 1) (u := .slice A' l.length c') (by omega)) (q := w.heap.size + 1) (o := 0) (u := .int .i64 i) (by omega)) (q := w.heap.size + 1) (o := 1) (u := .int .i64 j) (by omega)) (q := w.heap.size + 1) (o := 2) (u := .int .i64 z) (by omega))
      have HR9 := hide (((((HT.out.res.set (k := 0) (by simp) (.int .i64 nd)).set (k := 1) (by simp) (.slice A' l.length c')).far (p := ⟨w.heap.size + 1, 0, none⟩) (by simp) (.int .i64 i)).far (p := ⟨w.heap.size + 1, 1, none⟩) (by simp) (.int .i64 j)).far (p := ⟨w.heap.size + 1, 2, none⟩) (by simp) (.int .i64 z))
      have HQ9 := hide (((((HT.out.rez.far (p := ⟨w.heap.size, 0, none⟩) (by simp) (.int .i64 nd)).far (p := ⟨w.heap.size, 1, none⟩) (by simp) (.slice A' l.length c')).set (k := 0) (by simp) (.int .i64 i)).set (k := 1) (by simp) (.int .i64 j)).set (k := 2) (by simp) (.int .i64 z))
      refine wpAnyX_pairX 13 14 (by kernel_rfl) (by simp; rfl) (by simp; rfl) rfl rfl rfl rfl (by kernel_rfl) (fun K hK => ?_) (fun K hK => ?_)
      · go_wp2_with fail
        refine ⟨laterX_of HG.out, ?_⟩
        clear HG
        have r0 := HT.out.res.2.1 0 _ rfl
        have r1 := HT.out.res.2.1 1 _ rfl
        have f0 := HT.out.res.free 0
        have f1 := HT.out.res.free 1
        have rz := HT.out.res.1
        have q0 := HT.out.rez.2.1 0 _ rfl
        have q1 := HT.out.rez.2.1 1 _ rfl
        have q2 := HT.out.rez.2.1 2 _ rfl
        have e0 := HT.out.rez.free 0
        have e1 := HT.out.rez.free 1
        have e2 := HT.out.rez.free 2
        have qz := HT.out.rez.1
        refine wpAnyX_last 14 (by kernel_rfl) (by simp; rfl) rfl rfl (by kernel_rfl) (fun K hK => ?_)
        go_wp2_with fail
        refine wpAnyX_last 15 (by kernel_rfl) (by simp; rfl) rfl rfl (by kernel_rfl) (fun K hK => ?_)
        go_wp2_with fail
        refine wpAnyX_done (by kernel_rfl) ?_ _
        clear r0 r1 f0 f1 rz q0 q1 q2 e0 e1 e2 qz HT
        generalize ((((V7.setCell ⟨w.heap.size, 0, none⟩ (.int .i64 nd)).setCell ⟨w.heap.size, 1, none⟩ (.slice A' l.length c')).setCell ⟨w.heap.size + 1, 0, none⟩ (.int .i64 i)).setCell ⟨w.heap.size + 1, 1, none⟩ (.int .i64 j)).setCell ⟨w.heap.size + 1, 2, none⟩ (.int .i64 z) = V9 at *
        have r0 := HR9.out.2.1 0 _ rfl
        have r1 := HR9.out.2.1 1 _ rfl
        have rz := HR9.out.1
        have q0 := HQ9.out.2.1 0 _ rfl
        have q1 := HQ9.out.2.1 1 _ rfl
        have q2 := HQ9.out.2.1 2 _ rfl
        have qz := HQ9.out.1
        go_wp2
        refine bodyPost_ret (v := .tuple #[.agg #[.int .i64 nd, .slice A' l.length c'], .agg #[.int .i64 i, .int .i64 j, .int .i64 z]]) ?_ rfl ?_
        · simp [results, Tryz.results18, go_sem, r0, r1, rz, q0, q1, q2, qz]
        · exact ⟨⟨nd, A', c', l, i, j, z, rfl, HL.out, own_le HO9.out (by omega)⟩, HB9.out⟩
      · clear HG
        have r0 := HT.out.res.2.1 0 _ rfl
        have r1 := HT.out.res.2.1 1 _ rfl
        have f0 := HT.out.res.free 0
        have f1 := HT.out.res.free 1
        have rz := HT.out.res.1
        have q0 := HT.out.rez.2.1 0 _ rfl
        have q1 := HT.out.rez.2.1 1 _ rfl
        have q2 := HT.out.rez.2.1 2 _ rfl
        have e0 := HT.out.rez.free 0
        have e1 := HT.out.rez.free 1
        have e2 := HT.out.rez.free 2
        have qz := HT.out.rez.1
        go_wp2_with fail
        refine wpAnyX_last 13 (by kernel_rfl) (by simp; rfl) rfl rfl (by kernel_rfl) (fun K hK => ?_)
        go_wp2_with fail
        refine wpAnyX_last 15 (by kernel_rfl) (by simp; rfl) rfl rfl (by kernel_rfl) (fun K hK => ?_)
        go_wp2_with fail
        refine wpAnyX_done (by kernel_rfl) ?_ _
        clear r0 r1 f0 f1 rz q0 q1 q2 e0 e1 e2 qz HT
        generalize ((((V7.setCell ⟨w.heap.size, 0, none⟩ (.int .i64 nd)).setCell ⟨w.heap.size, 1, none⟩ (.slice A' l.length c')).setCell ⟨w.heap.size + 1, 0, none⟩ (.int .i64 i)).setCell ⟨w.heap.size + 1, 1, none⟩ (.int .i64 j)).setCell ⟨w.heap.size + 1, 2, none⟩ (.int .i64 z) = V9 at *
        have r0 := HR9.out.2.1 0 _ rfl
        have r1 := HR9.out.2.1 1 _ rfl
        have rz := HR9.out.1
        have q0 := HQ9.out.2.1 0 _ rfl
        have q1 := HQ9.out.2.1 1 _ rfl
        have q2 := HQ9.out.2.1 2 _ rfl
        have qz := HQ9.out.1
        go_wp2
        refine bodyPost_ret (v := .tuple #[.agg #[.int .i64 nd, .slice A' l.length c'], .agg #[.int .i64 i, .int .i64 j, .int .i64 z]]) ?_ rfl ?_
        · simp [results, Tryz.results18, go_sem, r0, r1, rz, q0, q1, q2, qz]
        · exact ⟨⟨nd, A', c', l, i, j, z, rfl, HL.out, own_le HO9.out (by omega)⟩, HB9.out⟩
  · skip
    have HB := hide (Row.new V0 #[.int .i64 0, .int .i64 3601, .int .i64 (-9223372036854775808)] 3)
    have HBG : Hid (V0.heap.size ≠ d.g) := hide (by have := HT.out.st.lt; omega)
    replace HT := hide (HT.out.alloc (.cells #[.int .i64 0, .int .i64 3601, .int .i64 (-9223372036854775808)] 3))
    replace HG := hide (grown_new HG.out (.cells #[.int .i64 0, .int .i64 3601, .int .i64 (-9223372036854775808)] 3))
    refine wp_ints3 0 3601 (-9223372036854775808) (.const (.int .i64 0)) (.const (.int .i64 3601)) (.const (.int .i64 (-9223372036854775808))) rfl rfl rfl rfl (hK _ _ ⟨laterX_of HG.out, ?_⟩)
    simp only [Act.put, List.setIfInBounds_toArray, List.set_cons_succ, List.set_cons_zero]
    generalize V0.alloc (.cells #[.int .i64 0, .int .i64 3601, .int .i64 (-9223372036854775808)] 3) = V1 at *
    generalize V0.heap.size = lb at *
    refine wpAnyX_only 3 (by kernel_rfl) (by simp; rfl) rfl rfl (fun K hK => ?_)
    go_wp2_with fail
    refine (nodeOf_any d 5000 nd A' l.length c' _ HOK.out (HT.out.st.more (by omega)) (by omega)).mono ?_
    rintro e V2 ⟨⟨i, rfl, -⟩, hs, hg⟩
    replace HT := hide (HT.out.draw hs hg)
    replace HG := hide (grown_trans HG.out hg)
    replace HB := hide (HB.out.grown hg (fun e => by injection e with e; exact HBG.out e))
    clear hs hg
    go_wp2_with fail
    refine ⟨laterX_of HG.out, ?_⟩
    refine wpAnyX_only 6 (by kernel_rfl) (by simp; rfl) rfl rfl (fun K hK => ?_)
    go_wp2_with fail
    refine (nodeOf_any d 5014 nd A' l.length c' _ HOK.out (HT.out.st.more (by omega)) (by omega)).mono ?_
    rintro e V3 ⟨⟨j, rfl, -⟩, hs, hg⟩
    replace HT := hide (HT.out.draw hs hg)
    replace HG := hide (grown_trans HG.out hg)
    replace HB := hide (HB.out.grown hg (fun e => by injection e with e; exact HBG.out e))
    clear hs hg
    go_wp2_with fail
    refine ⟨laterX_of HG.out, ?_⟩
    refine wpAnyX_only 10 (by kernel_rfl) (by simp; rfl) rfl rfl (fun K hK => ?_)
    go_wp2_with fail
    refine (among_any d 5028 (some ⟨lb, 0, none⟩) 3 3 [0, 3601, -9223372036854775808] _ HOK.out (HT.out.st.more (by omega)) (by omega) rfl (by omega) (by omega) (by exact HB.out.rd) (fun b o sp e => by injection e with e; injection e with e; have := HBG.out; omega)).mono ?_
    rintro e V5 ⟨⟨z0, rfl, -⟩, hs, hg⟩
    replace HT := hide (HT.out.draw hs hg)
    replace HG := hide (grown_trans HG.out hg)
    clear hs hg HB HBG
    go_wp2_with fail
    refine ⟨laterX_of HG.out, ?_⟩
    refine wpAnyX_only 11 (by kernel_rfl) (by simp; rfl) rfl rfl (fun K hK => ?_)
    have HC := hide (Row.new V5 #[.int .i64 1, .int .i64 60, .int .i64 90, .int .i64 3600, .int .i64 z0] 3)
    have HCG : Hid (V5.heap.size ≠ d.g) := hide (by have := HT.out.st.lt; omega)
    replace HT := hide (HT.out.alloc (.cells #[.int .i64 1, .int .i64 60, .int .i64 90, .int .i64 3600, .int .i64 z0] 3))
    replace HG := hide (grown_new HG.out (.cells #[.int .i64 1, .int .i64 60, .int .i64 90, .int .i64 3600, .int .i64 z0] 3))
    refine wp_ints5 1 60 90 3600 z0 (.const (.int .i64 1)) (.const (.int .i64 60)) (.const (.int .i64 90)) (.const (.int .i64 3600)) (.tmp 21) rfl rfl rfl rfl rfl rfl (hK _ _ ⟨laterX_of HG.out, ?_⟩)
    simp only [Act.put, List.setIfInBounds_toArray, List.set_cons_succ, List.set_cons_zero]
    generalize V5.alloc (.cells #[.int .i64 1, .int .i64 60, .int .i64 90, .int .i64 3600, .int .i64 z0] 3) = V6 at *
    generalize V5.heap.size = lb2 at *
    refine wpAnyX_only 12 (by kernel_rfl) (by simp; rfl) rfl rfl (fun K hK => ?_)
    go_wp2_with fail
    refine (among_any d 5030 (some ⟨lb2, 0, none⟩) 5 5 [1, 60, 90, 3600, z0] _ HOK.out (HT.out.st.more (by omega)) (by omega) rfl (by omega) (by omega) (by exact HC.out.rd) (fun b o sp e => by injection e with e; injection e with e; have := HCG.out; omega)).mono ?_
    rintro e V7 ⟨⟨z, rfl, -⟩, hs, hg⟩
    replace HT := hide (HT.out.draw hs hg)
    replace HG := hide (grown_trans HG.out hg)
    clear hs hg HC HCG
    go_wp2_with fail
    refine ⟨laterX_of HG.out, ?_⟩
    have HB9 := hide ((((((HT.out.below.setCell (p := ⟨w.heap.size, 0, none⟩) (Nat.le_refl _) (.int .i64 nd)).setCell (p := ⟨w.heap.size, 1, none⟩) (Nat.le_refl _) (.slice A' l.length c')).setCell (p := ⟨w.heap.size + 1, 0, none⟩) (Nat.le_succ _) (.int .i64 i)).setCell (p := ⟨w.heap.size + 1, 1, none⟩) (Nat.le_succ _) (.int .i64 j)).setCell (p := ⟨w.heap.size + 1, 2, none⟩) (Nat.le_succ _) (.int .i64 z)))
    have HO9 := hide (own_far_any (own_far_any (own_far_any (own_far_any (own_far_any HT.out.own (q := w.heap.size) (o := 0) (u := .int .i64 nd) (by omega)) (q := w.heap.size) (o := 1) (u := .slice A' l.length c') (by omega)) (q := w.heap.size + 1) (o := 0) (u := .int .i64 i) (by omega)) (q := w.heap.size + 1) (o := 1) (u := .int .i64 j) (by omega)) (q := w.heap.size + 1) (o := 2) (u := .int .i64 z) (by omega))
    have HR9 := hide (((((HT.out.res.set (k := 0) (by simp) (.int .i64 nd)).set (k := 1) (by simp) (.slice A' l.length c')).far (p := ⟨w.heap.size + 1, 0, none⟩) (by simp) (.int .i64 i)).far (p := ⟨w.heap.size + 1, 1, none⟩) (by simp) (.int .i64 j)).far (p := ⟨w.heap.size + 1, 2, none⟩) (by simp) (.int .i64 z))
    have HQ9 := hide (((((HT.out.rez.far (p := ⟨w.heap.size, 0, none⟩) (by simp) (.int .i64 nd)).far (p := ⟨w.heap.size, 1, none⟩) (by simp) (.slice A' l.length c')).set (k := 0) (by simp) (.int .i64 i)).set (k := 1) (by simp) (.int .i64 j)).set (k := 2) (by simp) (.int .i64 z))
    refine wpAnyX_pairX 13 14 (by kernel_rfl) (by simp; rfl) (by simp; rfl) rfl rfl rfl rfl (by kernel_rfl) (fun K hK => ?_) (fun K hK => ?_)
    · go_wp2_with fail
      refine ⟨laterX_of HG.out, ?_⟩
      clear HG
      have r0 := HT.out.res.2.1 0 _ rfl
      have r1 := HT.out.res.2.1 1 _ rfl
      have f0 := HT.out.res.free 0
      have f1 := HT.out.res.free 1
      have rz := HT.out.res.1
      have q0 := HT.out.rez.2.1 0 _ rfl
      have q1 := HT.out.rez.2.1 1 _ rfl
      have q2 := HT.out.rez.2.1 2 _ rfl
      have e0 := HT.out.rez.free 0
      have e1 := HT.out.rez.free 1
      have e2 := HT.out.rez.free 2
      have qz := HT.out.rez.1
      refine wpAnyX_last 14 (by kernel_rfl) (by simp; rfl) rfl rfl (by kernel_rfl) (fun K hK => ?_)
      go_wp2_with fail
      refine wpAnyX_last 15 (by kernel_rfl) (by simp; rfl) rfl rfl (by kernel_rfl) (fun K hK => ?_)
      go_wp2_with fail
      refine wpAnyX_done (by kernel_rfl) ?_ _
      clear r0 r1 f0 f1 rz q0 q1 q2 e0 e1 e2 qz HT
      generalize ((((V7.setCell ⟨w.heap.size, 0, none⟩ (.int .i64 nd)).setCell ⟨w.heap.size, 1, none⟩ (.slice A' l.length c')).setCell ⟨w.heap.size + 1, 0, none⟩ (.int .i64 i)).setCell ⟨w.heap.size + 1, 1, none⟩ (.int .i64 j)).setCell ⟨w.heap.size + 1, 2, none⟩ (.int .i64 z) = V9 at *
      have r0 := HR9.out.2.1 0 _ rfl
      have r1 := HR9.out.2.1 1 _ rfl
      have rz := HR9.out.1
      have q0 := HQ9.out.2.1 0 _ rfl
      have q1 := HQ9.out.2.1 1 _ rfl
      have q2 := HQ9.out.2.1 2 _ rfl
      have qz := HQ9.out.1
      go_wp2
      refine bodyPost_ret (v := .tuple #[.agg #[.int .i64 nd, .slice A' l.length c'], .agg #[.int .i64 i, .int .i64 j, .int .i64 z]]) ?_ rfl ?_
      · simp [results, Tryz.results18, go_sem, r0, r1, rz, q0, q1, q2, qz]
      · exact ⟨⟨nd, A', c', l, i, j, z, rfl, HL.out, own_le HO9.out (by omega)⟩, HB9.out⟩
    · clear HG
      have r0 := HT.out.res.2.1 0 _ rfl
      have r1 := HT.out.res.2.1 1 _ rfl
      have f0 := HT.out.res.free 0
      have f1 := HT.out.res.free 1
      have rz := HT.out.res.1
      have q0 := HT.out.rez.2.1 0 _ rfl
      have q1 := HT.out.rez.2.1 1 _ rfl
      have q2 := HT.out.rez.2.1 2 _ rfl
      have e0 := HT.out.rez.free 0
      have e1 := HT.out.rez.free 1
      have e2 := HT.out.rez.free 2
      have qz := HT.out.rez.1
      go_wp2_with fail
      refine wpAnyX_last 13 (by kernel_rfl) (by simp; rfl) rfl rfl (by kernel_rfl) (fun K hK => ?_)
      go_wp2_with fail
      refine wpAnyX_last 15 (by kernel_rfl) (by simp; rfl) rfl rfl (by kernel_rfl) (fun K hK => ?_)
      go_wp2_with fail
      refine wpAnyX_done (by kernel_rfl) ?_ _
      clear r0 r1 f0 f1 rz q0 q1 q2 e0 e1 e2 qz HT
      generalize ((((V7.setCell ⟨w.heap.size, 0, none⟩ (.int .i64 nd)).setCell ⟨w.heap.size, 1, none⟩ (.slice A' l.length c')).setCell ⟨w.heap.size + 1, 0, none⟩ (.int .i64 i)).setCell ⟨w.heap.size + 1, 1, none⟩ (.int .i64 j)).setCell ⟨w.heap.size + 1, 2, none⟩ (.int .i64 z) = V9 at *
      have r0 := HR9.out.2.1 0 _ rfl
      have r1 := HR9.out.2.1 1 _ rfl
      have rz := HR9.out.1
      have q0 := HQ9.out.2.1 0 _ rfl
      have q1 := HQ9.out.2.1 1 _ rfl
      have q2 := HQ9.out.2.1 2 _ rfl
      have qz := HQ9.out.1
      go_wp2
      refine bodyPost_ret (v := .tuple #[.agg #[.int .i64 nd, .slice A' l.length c'], .agg #[.int .i64 i, .int .i64 j, .int .i64 z]]) ?_ rfl ?_
      · simp [results, Tryz.results18, go_sem, r0, r1, rz, q0, q1, q2, qz]
      · exact ⟨⟨nd, A', c', l, i, j, z, rfl, HL.out, own_le HO9.out (by omega)⟩, HB9.out⟩
end Go.Proofs.YtbhnaakknfienaaGreatDoor
namespace Go.Proofs.YtbhnaakknfienaaGreatDoor
open Go.RowKit
set_option linter.unusedVariables false
set_option linter.unusedSimpArgs false

/-- A drawn town, nodes and a node. -/
def DrwNe (w : World) (e : Ending) (w' : World) : Prop :=
  (∃ (nd : Int) (A : Option Addr) (c : Nat) (l : List StT) (A2 : Option Addr) (c2 : Nat) (R : List Int) (j : Int), e = .returned (.tuple #[.agg #[.int .i64 nd, .slice A l.length c], .slice A2 R.length c2, .int .i64 j]) ∧ l.length ≤ 41 ∧ w'.ownsRow w.heap.size 39 3 (.slice A l.length c) l.length (l.flatMap tcells) ∧ R.length ≤ 1000 ∧ w'.ownsRow w.heap.size 3 1 (.slice A2 R.length c2) R.length (R.map (Value.int .i64))) ∧ Below w.heap.size w w'
theorem DrwNe.of {d : Drw} {w wr : World} {tb B c N : Nat} {nd : Int} {A : Option Addr} {l : List StT} {A2 : Option Addr} {c2 : Nat} {R : List Int} (h : TvAt d w tb B nd A c l N wr) (hl : l.length ≤ 41) (hR : R.length ≤ 1000) (ho : wr.ownsRow B 3 1 (.slice A2 R.length c2) R.length (R.map (Value.int .i64))) (u0 u1 : Value) (j : Int) :
    DrwNe w (.returned (.tuple #[.agg #[.int .i64 nd, .slice A l.length c], .slice A2 R.length c2, .int .i64 j])) ((wr.setCell ⟨w.heap.size, 0, none⟩ u0).setCell ⟨w.heap.size, 1, none⟩ u1) := by
  obtain ⟨⟨nd, A, c, l, A2, c2, R, h1, h2, h3, h4, h5⟩, h6⟩ := DrwRt.of h hl hR ho u0 u1
  injection h1 with h1
  simp only [Value.tuple.injEq, Array.mk.injEq, List.cons.injEq, and_true] at h1
  obtain ⟨e1, e2⟩ := h1
  exact ⟨⟨nd, A, c, l, A2, c2, R, j, by rw [e1, e2], h2, h3, h4, h5⟩, h6⟩
theorem infoIntNe : (Tryz.prog.info? 3).map (fun i => (i.zero, i.size, i.bytes)) = some (some (.int .i64 0), 1, 8) := by kernel_rfl
set_option maxRecDepth 100000 in
set_option maxHeartbeats 16000000 in
theorem DrawNearestOf_any (A : Option Addr) (n c : Nat) (code : List Int) (w : World) (hn : n = code.length) (hm : n ≤ maxLen) (hb : ∀ x ∈ code, 0 ≤ x ∧ x ≤ 255) (hr : Rd w A (code.map (Value.int .u8))) :
    Calls Tryz.prog 20 #[.slice A n c] w (DrwNe w) := by
  obtain ⟨i0, hi0, hz0, hz1, hz2⟩ := info_parts infoIntNe
  have Hi := hide hi0
  have Hz := hide (And.intro hz0 (And.intro hz1 hz2))
  clear hi0 hz0 hz1 hz2
  obtain ⟨d, hW, hg, hok, hst, hres⟩ := drw_town w A n c code hn hm hb hr
  have HW := hide hW
  have HGE := hide hg.symm
  have HOK := hide hok
  have HS := hide hst
  have HR := hide hres
  clear hn hm hb hr hW hg hok hst hres
  go_enter Tryz.func20, Tryz.ntmps20
  go_wp2_with fail
  rw [HGE.out]
  refine (anyTown_any d 0 _ HOK.out HS.out (by omega)).mono ?_
  rintro e w1 ⟨⟨nd, A', c', l, rfl, -, hl, ho⟩, hs, hg⟩
  have HL := hide hl
  replace HR := hide (HR.out.grown hg (fun e => by injection e with e; have := HGE.out; omega))
  have HO := hide (own_le (B' := w.heap.size + 1 + 1) ho (by simp))
  go_upto_region 3 with fail
  have HT : Hid (TvAt d w w1.heap.size (w1.heap.size + 1) nd A' c' l 5000 (w1.alloc (.cells #[.int .i64 nd, .slice A' l.length c'] 26))) := hide ⟨HW.out, (hs.more (by omega)).alloc _, HR.out.alloc _, Row.new _ _ _, World.ownsRow.alloc HO.out _, ⟨HGE.out, by have := hs.lt; omega, by omega, by simp⟩, fun q hq => (HO.out.lt q hq).2⟩
  clear HR HO hs hg ho hl HS HW HGE
  obtain ⟨B, hB⟩ : ∃ B, B = w1.heap.size + 1 := ⟨_, rfl⟩
  rw [← hB] at HT
  clear hB
  generalize w1.alloc (.cells #[.int .i64 nd, .slice A' l.length c'] 26) = w2 at *
  generalize w1.heap.size = tb at *
  have HBG := hide (show d.g < B by have := HT.out.ord; omega)
  go_wp2_with fail
  refine (pick_any d 5000 4 _ HOK.out HT.out.st (by omega) (by omega)).mono ?_
  rintro e w3 ⟨⟨p, rfl, hp0, hp1, hp2⟩, hs, hg⟩
  replace HT := hide (HT.out.draw hs hg)
  have hp3 : p ≤ 3 := by omega
  clear hs hg hp1 hp2
  go_wp2_with fail
  refine (one_any d 5002 12 _ HOK.out HT.out.st (by omega) (by omega)).mono ?_
  rintro e w4 ⟨⟨b, rfl⟩, hs, hg⟩
  replace HT := hide (HT.out.draw hs hg)
  clear hs hg
  go_upto_if 18 with fail
  go_cut [8] (fun s wx => ∃ z : Int, s = .int .i64 z ∧ Hid (0 ≤ z ∧ z ≤ 15) ∧ Hid (TvAt d w tb B nd A' c' l 6000 wx))
  case first => as_aux_lemma =>
    cases b with
    | true =>
      go_wp2_with fail
      refine (among_lit d 5004 [0, 14, 15] _ _ (by simp) HOK.out HT.out.st (by omega) (by simp) (by simp)).mono ?_
      rintro e w5 ⟨⟨z, rfl, hz⟩, hs, hg⟩
      replace HT := hide (HT.out.draw hs hg)
      have HZ : Hid (0 ≤ z ∧ z ≤ 15) := hide (by
        simp only [List.mem_cons, List.not_mem_nil, or_false] at hz
        omega)
      clear hs hg hz
      go_wp2_with fail
      go_meet
      exact ⟨z, rfl, HZ, hide (HT.out.more (by omega))⟩
    | false =>
      go_wp2_with fail
      go_meet
      exact ⟨1 + p, rfl, hide (by omega), hide (HT.out.more (by omega))⟩
  clear HT hp0 hp3
  obtain ⟨z, rfl, HZ, HT⟩ := hcut
  have HBS := hide (HT.out.ord.2.2.2)
  go_wp2_with fail
  go_loopg [7] 20 (fun g s wr => ∃ (A2 : Option Addr) (c2 : Nat) (R : List Int), s = .slice A2 R.length c2 ∧ Hid (20 ≤ g + R.length) ∧ Hid (R.length ≤ 15) ∧ Hid (wr.ownsRow B 3 1 (.slice A2 R.length c2) R.length (R.map (Value.int .i64))) ∧ Hid (TvAt d w tb B nd A' c' l (6000 + 14 * R.length) wr))
  case atStart => exact ⟨none, 0, [], rfl, hide (by simp), hide (by simp), hide (World.ownsRow_nil _ _ _ _), hide (HT.out.more (by simp))⟩
  case round =>
    clear HT HBS
    obtain ⟨A2, c2, R, rfl, HGK, HLR, HV, HT⟩ := hrel
    by_cases hlt : (R.length : Int) < z
    · have hld : decide ((R.length : Int) < z) = true := by simpa using hlt
      have HL16 := hide (show R.length ≤ 14 by have := HZ.out; omega)
      have b0 := HT.out.box.2.1 0 _ rfl
      have b1 := HT.out.box.2.1 1 _ rfl
      have bz := HT.out.box.1
      go_wp2_with fail
      refine (nodeOf_any d (6000 + 14 * R.length) nd A' l.length c' _ HOK.out HT.out.st (by have := HL16.out; omega)).mono ?_
      rintro e V8 ⟨⟨x, rfl, -⟩, hs, hg⟩
      replace HT := hide (HT.out.draw hs hg)
      replace HV := hide (own_far HV.out hg HBG.out)
      clear hs hg b0 b1 bz
      have HTA := hide (HT.out.alloc (.cells #[.int .i64 x] 3))
      have HVA := hide (World.ownsRow.alloc HV.out (.cells #[.int .i64 x] 3))
      have HSB := hide (Row.new V8 #[.int .i64 x] 3)
      have hml : maxLen = 9223372036854775807 := rfl
      go_wp2_with (at_builtin; refine wpList_append_lies _ rfl (.tmp 26) (.tmp 30) 43 rfl B 3 i0 _ 1 8 Tryz.underlying43 Hi.out Hz.out.1 Hz.out.2.1 Hz.out.2.2 rfl (by decide) (.slice A2 R.length c2) R.length (R.map (Value.int .i64)) rfl HVA.out ⟨V8.heap.size, 0, none⟩ 1 1 [.int .i64 x] rfl rfl (fun j u hu => by rw [Addr.add_lit, Nat.zero_add]; exact HSB.out.2.1 j u hu) (fun u hu => by simp at hu; subst hu; rfl) (by omega) (by have := HL16.out; omega) (by have := HL16.out; omega) HTA.out.ord.2.2.2 _ rfl ?_)
      intro g' cap' V9 ho' hg' hw' hlt'
      have HB' := hide (show ∀ k, (Value.slice A2 R.length c2).ownBlock = some k → B ≤ k from fun k hk => (HVA.out.lt k hk).1)
      replace HT := hide (HTA.out.far hg' HB'.out)
      have HV' : Hid (V9.ownsRow B 3 1 (.slice (some ⟨g', 0, none⟩) (R ++ [x]).length cap') (R ++ [x]).length ((R ++ [x]).map (Value.int .i64))) := hide (by rw [List.length_append, List.map_append]; exact ho')
      have hlen : R.length + 1 = (R ++ [x]).length := by simp
      have HLR' := hide (show (R ++ [x]).length ≤ 15 by have := HL16.out; simp; omega)
      have HGN := hide (show 20 ≤ gk - 1 + (R ++ [x]).length by have := HGK.out; have := HL16.out; simp; omega)
      have HTM := hide (show 6000 + 14 * R.length + 14 ≤ 6000 + 14 * (R ++ [x]).length by simp; omega)
      rw [hlen]
      clear hlen hml hg' hw' hlt' ho' HSB HTA HVA HV HB'
      have HV := hide HV'.out
      clear HV'
      go_wp2
      go_roundg (gk - 1)
      case rel => exact ⟨_, cap', R ++ [x], rfl, HGN, HLR', HV, hide (HT.out.more HTM.out)⟩
      case measure => have := HGK.out; have := HL16.out; omega
    · have hld : decide ((R.length : Int) < z) = false := by simpa using hlt
      replace HT := hide (HT.out.more (show 6000 + 14 * R.length ≤ 7000 by have := HLR.out; omega))
      go_upto_region 9 with fail
      clear hld hlt
      have b0 := HT.out.box.2.1 0 _ rfl
      have b1 := HT.out.box.2.1 1 _ rfl
      have bz := HT.out.box.1
      have tg : tb ≠ d.g := by have := HT.out.ord; omega
      go_wp2_with fail
      have HVD : Hid (wr.drew.ownsRow B 3 1 (.slice A2 R.length c2) R.length (R.map (Value.int .i64))) := hide HV.out
      refine wpAnyX_start (fun w' => ∃ n : LaterX wr d.g, w' = n.w) [5] (n := 8) (by kernel_rfl) rfl rfl ?_
      refine wpAnyX_take [0, 2, 3] 5 rfl (by kernel_rfl) (by intro c a d v w h; cases d <;> exact h) (by kernel_rfl) (by kernel_rfl) (by kernel_rfl) (by simp; rfl) rfl (laterX_drew _ _) ?_
      repeat (go_big_quiet_step (fail))
      refine wpQuiet_nil ?_
      clear b0 b1 bz tg
      have HG : Hid (wr.grownBy wr.drew (some d.g)) := hide (grown_of_below (Below.refl _ _).drew _)
      replace HT := hide HT.out.drew
      generalize wr.drew = V0 at *
      clear HV
      have HV := hide HVD.out
      clear HVD
      refine wpAnyX_two 1 4 (by kernel_rfl) (by simp; rfl) (by simp; rfl) rfl rfl rfl rfl (fun K hK => ?_) (fun K hK => ?_)
      · go_wp2_with fail
        refine ⟨laterX_of HG.out, ?_⟩
        refine wpAnyX_only 4 (by kernel_rfl) (by simp; rfl) rfl rfl (fun K hK => ?_)
        go_wp2_with fail
        refine (nodeOf_any d 7000 nd A' l.length c' _ HOK.out HT.out.st (by omega)).mono ?_
        rintro e V1 ⟨⟨j, rfl, -⟩, hs, hg⟩
        replace HT := hide (HT.out.draw hs hg)
        replace HV := hide (own_far HV.out hg HBG.out)
        replace HG := hide (grown_trans HG.out hg)
        clear hs hg
        go_wp2_with fail
        refine ⟨laterX_of HG.out, ?_⟩
        have HR9 := hide ((HT.out.res.set (k := 0) (by simp) (.int .i64 nd)).set (k := 1) (by simp) (.slice A' l.length c'))
        have HD := hide (fun hR => DrwNe.of HT.out HL.out hR HV.out (.int .i64 nd) (.slice A' l.length c') j)
        clear HG
        have r0 := HT.out.res.2.1 0 _ rfl
        have r1 := HT.out.res.2.1 1 _ rfl
        have f0 := HT.out.res.free 0
        have f1 := HT.out.res.free 1
        have rz := HT.out.res.1
        have nn : tb ≠ w.heap.size := by have := HT.out.ord; omega
        refine wpAnyX_last 5 (by kernel_rfl) (by simp; rfl) rfl rfl (by kernel_rfl) (fun K hK => ?_)
        go_wp2_with fail
        refine wpAnyX_last 6 (by kernel_rfl) (by simp; rfl) rfl rfl (by kernel_rfl) (fun K hK => ?_)
        go_wp2_with fail
        refine wpAnyX_last 7 (by kernel_rfl) (by simp; rfl) rfl rfl (by kernel_rfl) (fun K hK => ?_)
        go_wp2_with fail
        refine wpAnyX_done (by kernel_rfl) ?_ _
        clear HT HV r0 r1 f0 f1 rz nn
        generalize (V1.setCell ⟨w.heap.size, 0, none⟩ (.int .i64 nd)).setCell ⟨w.heap.size, 1, none⟩ (.slice A' l.length c') = V9 at *
        have r0 := HR9.out.2.1 0 _ rfl
        have r1 := HR9.out.2.1 1 _ rfl
        have rz := HR9.out.1
        go_wp2
        exact bodyPost_ret (v := .tuple #[.agg #[.int .i64 nd, .slice A' l.length c'], .slice A2 R.length c2, .int .i64 j]) (by simp [results, Tryz.results20, go_sem, *]) rfl (HD.out (Nat.le_trans HLR.out (by omega)))
      · skip
        go_wp2_with fail
        refine (nodeOf_any d 7000 nd A' l.length c' _ HOK.out HT.out.st (by omega)).mono ?_
        rintro e V1 ⟨⟨j, rfl, -⟩, hs, hg⟩
        replace HT := hide (HT.out.draw hs hg)
        replace HV := hide (own_far HV.out hg HBG.out)
        replace HG := hide (grown_trans HG.out hg)
        clear hs hg
        go_wp2_with fail
        refine ⟨laterX_of HG.out, ?_⟩
        have HR9 := hide ((HT.out.res.set (k := 0) (by simp) (.int .i64 nd)).set (k := 1) (by simp) (.slice A' l.length c'))
        have HD := hide (fun hR => DrwNe.of HT.out HL.out hR HV.out (.int .i64 nd) (.slice A' l.length c') j)
        refine wpAnyX_pairX 1 5 (by kernel_rfl) (by simp; rfl) (by simp; rfl) rfl rfl rfl rfl (by kernel_rfl) (fun K hK => ?_) (fun K hK => ?_)
        · go_wp2_with fail
          refine ⟨laterX_of HG.out, ?_⟩
          clear HG
          have r0 := HT.out.res.2.1 0 _ rfl
          have r1 := HT.out.res.2.1 1 _ rfl
          have f0 := HT.out.res.free 0
          have f1 := HT.out.res.free 1
          have rz := HT.out.res.1
          have nn : tb ≠ w.heap.size := by have := HT.out.ord; omega
          refine wpAnyX_last 5 (by kernel_rfl) (by simp; rfl) rfl rfl (by kernel_rfl) (fun K hK => ?_)
          go_wp2_with fail
          refine wpAnyX_last 6 (by kernel_rfl) (by simp; rfl) rfl rfl (by kernel_rfl) (fun K hK => ?_)
          go_wp2_with fail
          refine wpAnyX_last 7 (by kernel_rfl) (by simp; rfl) rfl rfl (by kernel_rfl) (fun K hK => ?_)
          go_wp2_with fail
          refine wpAnyX_done (by kernel_rfl) ?_ _
          clear HT HV r0 r1 f0 f1 rz nn
          generalize (V1.setCell ⟨w.heap.size, 0, none⟩ (.int .i64 nd)).setCell ⟨w.heap.size, 1, none⟩ (.slice A' l.length c') = V9 at *
          have r0 := HR9.out.2.1 0 _ rfl
          have r1 := HR9.out.2.1 1 _ rfl
          have rz := HR9.out.1
          go_wp2
          exact bodyPost_ret (v := .tuple #[.agg #[.int .i64 nd, .slice A' l.length c'], .slice A2 R.length c2, .int .i64 j]) (by simp [results, Tryz.results20, go_sem, *]) rfl (HD.out (Nat.le_trans HLR.out (by omega)))
        · clear HG
          have r0 := HT.out.res.2.1 0 _ rfl
          have r1 := HT.out.res.2.1 1 _ rfl
          have f0 := HT.out.res.free 0
          have f1 := HT.out.res.free 1
          have rz := HT.out.res.1
          have nn : tb ≠ w.heap.size := by have := HT.out.ord; omega
          go_wp2_with fail
          refine wpAnyX_last 1 (by kernel_rfl) (by simp; rfl) rfl rfl (by kernel_rfl) (fun K hK => ?_)
          go_wp2_with fail
          refine wpAnyX_last 6 (by kernel_rfl) (by simp; rfl) rfl rfl (by kernel_rfl) (fun K hK => ?_)
          go_wp2_with fail
          refine wpAnyX_last 7 (by kernel_rfl) (by simp; rfl) rfl rfl (by kernel_rfl) (fun K hK => ?_)
          go_wp2_with fail
          refine wpAnyX_done (by kernel_rfl) ?_ _
          clear HT HV r0 r1 f0 f1 rz nn
          generalize (V1.setCell ⟨w.heap.size, 0, none⟩ (.int .i64 nd)).setCell ⟨w.heap.size, 1, none⟩ (.slice A' l.length c') = V9 at *
          have r0 := HR9.out.2.1 0 _ rfl
          have r1 := HR9.out.2.1 1 _ rfl
          have rz := HR9.out.1
          go_wp2
          exact bodyPost_ret (v := .tuple #[.agg #[.int .i64 nd, .slice A' l.length c'], .slice A2 R.length c2, .int .i64 j]) (by simp [results, Tryz.results20, go_sem, *]) rfl (HD.out (Nat.le_trans HLR.out (by omega)))
end Go.Proofs.YtbhnaakknfienaaGreatDoor
namespace Go.Proofs.YtbhnaakknfienaaGreatDoor
open Go.RowKit
set_option linter.unusedVariables false
set_option linter.unusedSimpArgs false

def TownOnly (w : World) (e : Ending) (w' : World) : Prop :=
  (∃ (nd : Int) (A' : Option Addr) (c' : Nat) (l : List StT), e = .returned (.agg #[.int .i64 nd, .slice A' l.length c']) ∧ l.length ≤ 41 ∧ w'.ownsRow w.heap.size 39 3 (.slice A' l.length c') l.length (l.flatMap tcells)) ∧ Below w.heap.size w w'

set_option maxRecDepth 100000 in
set_option maxHeartbeats 8000000 in
theorem DrawIsTown_any (A : Option Addr) (n c : Nat) (code : List Int) (w : World) (hn : n = code.length) (hm : n ≤ maxLen) (hb : ∀ x ∈ code, 0 ≤ x ∧ x ≤ 255) (hr : Rd w A (code.map (Value.int .u8))) :
    Calls Tryz.prog 61 #[.slice A n c] w (TownOnly w) := by
  obtain ⟨d, hW, hg, hok, hst, hres⟩ := drw_town w A n c code hn hm hb hr
  have HW := hide hW
  have HGE := hide hg.symm
  have HOK := hide hok
  have HS := hide hst
  have HR := hide hres
  clear hn hm hb hr hW hg hok hst hres
  go_enter Tryz.func61, Tryz.ntmps61
  go_wp2_with fail
  rw [HGE.out]
  refine (anyTown_any d 0 _ HOK.out HS.out (by omega)).mono ?_
  rintro e w1 ⟨⟨nd, A1, c1, l, rfl, -, hl, ho⟩, hs, hg⟩
  have HL := hide hl
  have HRR := hide (HR.out.grown hg (fun e => by injection e with e; have := HGE.out; omega))
  have ho' := own_le (B' := w.heap.size + 1 + 1) ho (by simp)
  have hlt : ∀ q, (Value.slice A1 l.length c1).ownBlock = some q → q ≠ w.heap.size := fun q hq => by have := (ho'.lt q hq).1; omega
  have HO9 := hide (own_put (p := ⟨w.heap.size, 1, none⟩) (own_put (p := ⟨w.heap.size, 0, none⟩) ho' hlt (.int .i64 nd)) hlt (.slice A1 l.length c1))
  have HB9 := hide (((drw_below HW.out hs).setCell (p := ⟨w.heap.size, 0, none⟩) (Nat.le_refl _) (.int .i64 nd)).setCell (p := ⟨w.heap.size, 1, none⟩) (Nat.le_refl _) (.slice A1 l.length c1))
  clear hl ho ho' hlt hs hg HR HS
  have r0 := HRR.out.2.1 0 _ rfl
  have r1 := HRR.out.2.1 1 _ rfl
  have f0 := HRR.out.free 0
  have f1 := HRR.out.free 1
  have rz := HRR.out.1
  go_wp2
  exact bodyPost_ret (v := .agg #[.int .i64 nd, .slice A1 l.length c1]) (by simp [results, Tryz.results61, go_sem, *]) rfl ⟨⟨nd, A1, c1, l, rfl, HL.out, own_le HO9.out (by omega)⟩, HB9.out⟩

set_option maxHeartbeats 4000000 in
theorem DrawTownText_any (A : Option Addr) (n c : Nat) (code : List Int) (w : World) (hn : n = code.length) (hm : n ≤ maxLen) (hb : ∀ x ∈ code, 0 ≤ x ∧ x ≤ 255) (hr : Rd w A (code.map (Value.int .u8))) :
    Calls Tryz.prog 23 #[.slice A n c] w (TownOnly w) := by
  have Q := hide (DrawIsTown_any A n c code (w.alloc (.cells #[.int .i64 0, .slice none 0 0] 26)) hn hm hb (hr.alloc _))
  have HR := hide (Row.new w #[.int .i64 0, .slice none 0 0] 26)
  clear hn hm hb hr
  go_enter Tryz.func23, Tryz.ntmps23
  go_wp2_with fail
  refine Q.out.mono ?_
  rintro e w1 ⟨⟨nd, A', c', l, rfl, hl, ho⟩, hb⟩
  have HL := hide hl
  have HO := hide (own_le (B' := w.heap.size + 1) ho (by simp))
  replace HR := hide (HR.out.below hb)
  have HB := hide (below_step (below_alloc (Below.refl w.heap.size w) (.cells #[.int .i64 0, .slice none 0 0] 26)) hb)
  clear hl ho hb Q
  have r0 := HR.out.2.1 0 _ rfl
  have r1 := HR.out.2.1 1 _ rfl
  have f0 := HR.out.free 0
  have f1 := HR.out.free 1
  have rz := HR.out.1
  have HOL := hide (show ∀ q, (Value.slice A' l.length c').ownBlock = some q → q ≠ w.heap.size from fun q hq => by have := (HO.out.lt q hq).1; omega)
  go_wp2
  exact bodyPost_ret (v := .agg #[.int .i64 nd, .slice A' l.length c']) (by simp [results, Tryz.results23, go_sem, *]) rfl ⟨⟨nd, A', c', l, rfl, HL.out, own_put (p := ⟨w.heap.size, 1, none⟩) (own_put (p := ⟨w.heap.size, 0, none⟩) (own_le HO.out (by omega)) HOL.out _) HOL.out _⟩, (HB.out.setCell (Nat.le_refl _) _).setCell (Nat.le_refl _) _⟩
end Go.Proofs.YtbhnaakknfienaaGreatDoor
namespace Go.Proofs.YtbhnaakknfienaaGreatDoor
open Go.RowKit
set_option linter.unusedVariables false
set_option linter.unusedSimpArgs false

set_option maxRecDepth 100000 in
set_option maxHeartbeats 8000000 in
theorem spoilt_any (d : Drw) (N : Nat) (t wth : ByteArray) (w : World) (hd : d.ok) (h : d.st N w) (hN : N ≤ 100000000000) (ht : t.size ≤ 100000) (h0 : 1 ≤ wth.size) (h1 : wth.size ≤ 1000) :
    Calls Tryz.prog 65 #[.pointer (some ⟨d.g, 0, none⟩), .string t, .string wth] w fun e w' => (∃ v, e = .returned (.string v) ∧ v.size ≤ t.size + 2) ∧ d.st (N + 20) w' ∧ w.grownBy w' (some d.g) := by
  have H := hide h
  clear h
  go_enter Tryz.func65, Tryz.ntmps65
  go_wp2_with fail
  refine (pick_any d N 2 w hd H.out (by omega) (by omega)).mono ?_
  rintro e w1 ⟨⟨x, rfl, hx0, hx1, hx2⟩, hs, hg⟩
  have HS1 := hide hs
  have HG1 := hide hg
  clear hs hg
  obtain ⟨n0, rfl⟩ := Int.eq_ofNat_of_zero_le hx0
  have hn0 : n0 ≤ 1 := by omega
  clear hx0 hx1 hx2
  have hn1 : (n0 : Int) ≤ 1 := by omega
  go_wp2_with fail
  clear hn1
  go_loopg [7, 1] 2 (fun g s7 s1 wr => ∃ (n : Nat) (v : ByteArray), s7 = .int .i64 (n : Int) ∧ s1 = .string v ∧ n ≤ 2 ∧ v.size + n ≤ t.size + 2 ∧ Hid (n ≤ g) ∧ Hid (d.st (N + 2 + 6 * (2 - n)) wr) ∧ Hid (w.grownBy wr (some d.g)))
  case atStart => exact ⟨1 + n0, t, by go_num, rfl, by omega, by omega, hide (by omega), hide (HS1.out.more (by omega)), HG1⟩
  case round =>
    obtain ⟨n, v, rfl, rfl, hn, hv, HGN, HS, HG⟩ := hrel
    by_cases hlt : 0 < n
    · have k1 : (0 : Int) < (n : Int) := by omega
      by_cases hz : 0 < v.size
      · have k2 : (0 : Int) < (v.size : Int) := by omega
        go_wp2_with fail
        refine (pick_any d (N + 2 + 6 * (2 - n)) v.size wr hd HS.out (by omega) (by omega)).mono ?_
        rintro e x1 ⟨⟨i, rfl, hi0, hi1, hi2⟩, hs, hg⟩
        obtain ⟨i, rfl⟩ := Int.eq_ofNat_of_zero_le hi0
        have hi : i < v.size := by omega
        have HS2 := hide hs
        have HG2 := hide (grown_trans HG.out hg)
        clear hs hg hi0 hi1 hi2
        go_wp2_with fail
        refine (pick_any d (N + 2 + 6 * (2 - n) + 2) wth.size x1 hd HS2.out (by omega) (by omega)).mono ?_
        rintro e x2 ⟨⟨j, rfl, hj0, hj1, hj2⟩, hs, hg⟩
        obtain ⟨j, rfl⟩ := Int.eq_ofNat_of_zero_le hj0
        have hj : j < wth.size := by omega
        have hji : (j : Int) < (wth.size : Int) := by omega
        have HS3 := hide hs
        have HG3 := hide (grown_trans HG2.out hg)
        clear hs hg hj0 hj1 hj2
        have hcv := run_convert_bytes_back (P := Tryz.prog) (x2.alloc (.cells #[.int .u8 (wth[j].toNat : Int)] 5)) 22 9 5 ⟨x2.heap.size, 0, none⟩ 1 [wth[j]] (by kernel_rfl) (by kernel_rfl) (by kernel_rfl) (fun q hq => by
          have hq0 : q = 0 := by simpa using hq
          subst hq0
          rw [Addr.add_lit]
          exact (Row.new x2 #[.int .u8 (wth[j].toNat : Int)] 5).2.1 0 _ rfl)
        simp only [List.length_singleton] at hcv
        have HS4 := hide (HS3.out.alloc (.cells #[.int .u8 (wth[j].toNat : Int)] 5))
        have HG4 := hide (grown_new HG3.out (.cells #[.int .u8 (wth[j].toNat : Int)] 5))
        go_wp2_with fail
        refine (pick_any d (N + 2 + 6 * (2 - n) + 4) 3 _ hd HS4.out (by omega) (by omega)).mono ?_
        rintro e x3 ⟨⟨q, rfl, hq0, hq1, hq2⟩, hs, hg⟩
        have HS5 := hide (hs.more (show N + 2 + 6 * (2 - n) + 4 + 2 ≤ N + 2 + 6 * (2 - (n - 1)) by omega))
        have HG5 := hide (grown_trans HG4.out hg)
        clear hs hg hcv HS4 HG4 HS3 HG3 HS2 HG2
        have hcz : (⟨#[wth[j]]⟩ : ByteArray).size = 1 := rfl
        generalize (⟨#[wth[j]]⟩ : ByteArray) = wj at *
        have p1 : ((i : Int) + 1).toNat = i + 1 := by omega
        have p2 : (0 : Int) ≤ (i : Int) + 1 := by omega
        have p3 : (i : Int) ≤ (v.size : Int) := by omega
        have p4 : (i : Int) + 1 ≤ (v.size : Int) := by omega
        have p5 : (v.extract 0 i).size = i := by rw [ByteArray.size_extract]; omega
        have p6 : (v.extract i v.size).size = v.size - i := by rw [ByteArray.size_extract]; omega
        have p7 : (v.extract (i + 1) v.size).size = v.size - (i + 1) := by rw [ByteArray.size_extract]; omega
        obtain ⟨n', rfl⟩ : ∃ n', n = n' + 1 := ⟨n - 1, by omega⟩
        have HN := hide (show IntKind.i64.wrap (((n' + 1 : Nat) : Int) - 1) = (n' : Int) by rw [IntKind.wrap_i64]; omega)
        rw [show n' + 1 - 1 = n' by omega] at HS5
        have hsub : (((n' + 1 : Nat) : Int) - 1) = (n' : Int) := by omega
        have h3 : q = 0 ∨ q = 1 ∨ q = 2 := by omega
        rcases h3 with rfl | rfl | rfl
        · skip
          clear hq0 hq1 hq2
          go_wp2_with fail
          go_region
          go_wp2
          go_roundg (gk - 1)
          case rel => exact ⟨n', _, by rw [← hsub], rfl, by omega, by simp only [ByteArray.size_append, p5, p6, p7, hcz]; omega, hide (by have := HGN.out; omega), hide HS5.out.drew, hide (grown_trans HG5.out (grown_of_below (Below.refl _ _).drew _))⟩
          case measure => have := HGN.out; omega
        · skip
          clear hq0 hq1 hq2
          go_wp2_with fail
          go_region
          go_wp2
          go_roundg (gk - 1)
          case rel => exact ⟨n', _, by rw [← hsub], rfl, by omega, by simp only [ByteArray.size_append, p5, p6, p7, hcz]; omega, hide (by have := HGN.out; omega), hide HS5.out.drew, hide (grown_trans HG5.out (grown_of_below (Below.refl _ _).drew _))⟩
          case measure => have := HGN.out; omega
        · skip
          clear hq0 hq1 hq2
          go_wp2_with fail
          go_region
          go_wp2
          go_roundg (gk - 1)
          case rel => exact ⟨n', _, by rw [← hsub], rfl, by omega, by simp only [ByteArray.size_append, p5, p6, p7, hcz]; omega, hide (by have := HGN.out; omega), hide HS5.out.drew, hide (grown_trans HG5.out (grown_of_below (Below.refl _ _).drew _))⟩
          case measure => have := HGN.out; omega
      · have k2 : ¬ (0 : Int) < (v.size : Int) := by omega
        go_wp2
        go_ret
        exact ⟨⟨v, rfl, by omega⟩, HS.out.more (by omega), HG.out⟩
    · have k1 : ¬ (0 : Int) < (n : Int) := by omega
      go_wp2
      go_ret
      exact ⟨⟨v, rfl, by omega⟩, HS.out.more (by omega), HG.out⟩

theorem of_lit (d : Drw) (N : Nat) (l : List ByteArray) (w : World) (b : Nat) (hb : w.heap.size = b) (hd : d.ok) (h : d.st N w) (hN : N ≤ 1000000000000) (h0 : 0 < l.length) (hm : l.length ≤ 1000) :
    Calls Tryz.prog 66 #[.pointer (some ⟨d.g, 0, none⟩), .slice (some ⟨b, 0, none⟩) l.length l.length] (w.alloc (.cells (l.map Value.string).toArray 9)) fun e w' => (∃ v, e = .returned (.string v) ∧ v ∈ l) ∧ d.st (N + 2) w' ∧ w.grownBy w' (some d.g) := by
  subst hb
  have hR := (Row.new w (l.map Value.string).toArray 9).rd
  refine (of_any d N _ l.length l.length l _ hd (h.alloc _) hN rfl h0 hm (by simpa using hR) (fun b o sp e => by injection e with e; injection e with e; have := h.lt; omega)).mono ?_
  rintro e w' ⟨hv, hs, hg⟩
  exact ⟨hv, hs, grown_trans (grown_of_below ((Below.refl _ _).alloc (Nat.le_refl _) _) _) hg⟩
end Go.Proofs.YtbhnaakknfienaaGreatDoor
namespace Go.Proofs.YtbhnaakknfienaaGreatDoor
open Go.RowKit
set_option linter.unusedVariables false
set_option linter.unusedSimpArgs false

theorem drw_startT (w : World) (A : Option Addr) (n c : Nat) (code : List Int) (t : TypeId) (hn : n = code.length) (hm : n ≤ maxLen) (hb : ∀ x ∈ code, 0 ≤ x ∧ x ≤ 255) (hr : Rd w A (code.map (Value.int .u8))) :
    (Drw.mk w w.heap.size A n c code).ok ∧ (Drw.mk w w.heap.size A n c code).st 0 (w.alloc (.cells #[.slice A n c, .int .i64 0, .int .u64 0] t)) :=
  ⟨⟨hn, hm, hb, hr, Nat.le_refl _⟩, (Below.refl _ _).alloc (Nat.le_refl _) _, 0, 0, Nat.le_refl _, ⟨by omega, by omega⟩, Row.new w _ t⟩

set_option maxRecDepth 100000 in
set_option maxHeartbeats 8000000 in
theorem DrawParseTown_any (A : Option Addr) (n c : Nat) (code : List Int) (w : World) (hn : n = code.length) (hm : n ≤ maxLen) (hb : ∀ x ∈ code, 0 ≤ x ∧ x ≤ 255) (hr : Rd w A (code.map (Value.int .u8))) :
    Calls Tryz.prog 26 #[.slice A n c] w fun e w' => (∃ s : ByteArray, e = .returned (.string s) ∧ s.size ≤ 4000) ∧ Below w.heap.size w w' := by
  have HD := hide (drw_startT w A n c code 57 hn hm hb hr)
  clear hn hm hb hr
  obtain ⟨d, hd⟩ : ∃ d, d = Drw.mk w w.heap.size A n c code := ⟨_, rfl⟩
  rw [← hd] at HD
  have HGE := hide (show w.heap.size = d.g by rw [hd])
  have HWE := hide (show d.W0 = w by rw [hd])
  clear hd
  go_enter Tryz.func26, Tryz.ntmps26
  go_wp2_with fail
  rw [HGE.out]
  refine (town_any d 0 _ HD.out.1 HD.out.2 (by omega)).mono ?_
  rintro e w1 ⟨⟨nd, A1, c1, l, rfl, hk, -, ho⟩, hs, hg⟩
  obtain ⟨k, rfl, hk2⟩ := townB_ok hk
  have HK := hide hk2
  have HS := hide hs
  have HO := hide (own_rd ho)
  clear hk hk2 hs hg ho
  go_wp2_with fail
  refine (toText_any k l.length c1 A1 l _ rfl HK.out HO.out).mono ?_
  rintro e w2 ⟨rfl, hq⟩
  have HV : Hid ((ttN k l l.length).size ≤ 500) := hide (by have := ttN_small HK.out l.length; have := HK.out.len; omega)
  replace HS := hide (HS.out.below hq)
  clear hq
  generalize ttN k l l.length = v at *
  go_wp2_with fail
  refine (pick_any d 4000 6 _ HD.out.1 (HS.out.more (by omega)) (by omega) (by omega)).mono ?_
  rintro e w3 ⟨⟨p, rfl, hp0, hp1, hp2⟩, hs, hg⟩
  replace HS := hide hs
  clear hs hg hp0 hp1 hp2
  by_cases h01 : p = 0 ∨ p = 1
  · rcases h01 with h0 | h0
    · have hp : (p == 0) = true := by simpa using h0
      have hpz : p ≠ 0 ∨ p = 0 := by omega
      subst h0
      clear hp hpz
      go_wp2_with fail
      refine (spoilt_any d 4002 v ⟨#[45, 61, 58, 32, 48, 49, 57]⟩ _ HD.out.1 HS.out (by omega) (by have := HV.out; omega) (by decide) (by decide)).mono ?_
      rintro e w4 ⟨⟨u, rfl, hu⟩, hs, hg⟩
      have HB : Hid (Below w.heap.size w w4) := hide (by have := hs.1; rwa [HWE.out] at this)
      clear hs hg
      go_wp2
      go_ret
      exact ⟨⟨u, rfl, by have := HV.out; omega⟩, HB.out⟩
    · have hp : (p == 1) = true := by simpa using h0
      have hpz : p ≠ 0 ∨ p = 0 := by omega
      subst h0
      clear hp hpz
      go_wp2_with fail
      refine (spoilt_any d 4002 v ⟨#[45, 61, 58, 32, 48, 49, 57]⟩ _ HD.out.1 HS.out (by omega) (by have := HV.out; omega) (by decide) (by decide)).mono ?_
      rintro e w4 ⟨⟨u, rfl, hu⟩, hs, hg⟩
      have HB : Hid (Below w.heap.size w w4) := hide (by have := hs.1; rwa [HWE.out] at this)
      clear hs hg
      go_wp2
      go_ret
      exact ⟨⟨u, rfl, by have := HV.out; omega⟩, HB.out⟩
  · have hp0 : (p == 0) = false := by simpa using (fun e => h01 (.inl e))
    have hp1 : (p == 1) = false := by simpa using (fun e => h01 (.inr e))
    by_cases h2 : p = 2
    · have hp2 : (p == 2) = true := by simpa using h2
      clear h01 h2
      go_wp2_with fail
      refine (of_lit d 4002 [⟨#[]⟩, ⟨#[49, 58]⟩, ⟨#[48, 58]⟩, ⟨#[50, 58, 32, 48, 45, 49, 61, 54, 48]⟩, ⟨#[50, 58, 32, 49, 45, 48, 61, 54, 48]⟩, ⟨#[50, 58, 32, 48, 45, 49, 61, 48, 54, 48]⟩, ⟨#[50, 58, 32, 48, 45, 48, 61, 54, 48]⟩, ⟨#[49, 53, 58]⟩, ⟨#[50, 58, 32, 48, 45, 49, 61, 54, 48, 32, 48, 45, 49, 61, 54, 48]⟩, ⟨#[50, 58, 48, 45, 49, 61, 54, 48]⟩] _ _ rfl HD.out.1 HS.out (by omega) (by simp) (by simp)).mono ?_
      rintro e w4 ⟨⟨u, rfl, hu⟩, hs, hg⟩
      have HU : Hid (u.size ≤ 30) := hide (by
        simp only [List.mem_cons, List.not_mem_nil, or_false] at hu
        rcases hu with rfl | rfl | rfl | rfl | rfl | rfl | rfl | rfl | rfl | rfl <;> decide)
      have HB : Hid (Below w.heap.size w w4) := hide (by have := hs.1; rwa [HWE.out] at this)
      clear hs hg hu
      go_wp2
      go_ret
      exact ⟨⟨u, rfl, by have := HU.out; omega⟩, HB.out⟩
    · have hp2 : (p == 2) = false := by simpa using h2
      clear h01 h2
      have HB : Hid (Below w.heap.size w w3) := hide (by have := HS.out.1; rwa [HWE.out] at this)
      go_wp2
      go_ret
      exact ⟨⟨v, rfl, by have := HV.out; omega⟩, HB.out⟩
end Go.Proofs.YtbhnaakknfienaaGreatDoor

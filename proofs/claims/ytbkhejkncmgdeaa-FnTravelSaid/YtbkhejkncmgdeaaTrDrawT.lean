/- Draws of towns: a valid one. -/
import Derived.Test.YtbkhejkncmgdeaaTrA
import Derived.IntWalk
import Derived.Deep.DeepCutAuto
import Derived.Deep.CutBlock
import Derived.Deep.LoopGhost
namespace Go.Proofs.Ytbkhejkncmgdeaa
open Go.RowKit
set_option linter.unusedVariables false

set_option maxRecDepth 100000 in
set_option maxHeartbeats 16000000 in
theorem town_any (d : Drw) (N : Nat) (w : World) (hd : d.ok) (h : d.st N w) (hN : N ≤ 10000000000) :
    Calls Try.prog 69 #[.pointer (some ⟨d.g, 0, none⟩)] w (DrwTown d (N + 4000) 40 (fun nd => 1 ≤ nd ∧ nd ≤ 14) w) := by
  have H := hide h
  have HD := hide (show d.g < w.heap.size ∧ d.W0.heap.size ≤ d.g from ⟨h.lt, hd.2.2.2.2⟩)
  clear h
  go_enter Try.func69, Try.ntmps69
  go_wp2_with fail
  have HR := hide (Row.new w #[.int .i64 0, .slice none 0 0] 30)
  refine (pick_any d N 8 _ hd (H.out.alloc _) (by omega) (by omega)).mono ?_
  rintro e w1 ⟨⟨p, rfl, hp0, hp1, hp2⟩, hs, hg⟩
  replace HR := hide (HR.out.grown hg (fun e => by injection e with e; have := HD.out; omega))
  have HS := hide hs
  have HG := hide (grown_trans (grown_of_below ((Below.refl _ _).alloc (Nat.le_refl _) (.cells #[.int .i64 0, .slice none 0 0] 30)) _) hg)
  have hp7 : p ≤ 7 := by omega
  clear hs hg hp1 hp2 H
  obtain ⟨nd0, hq⟩ := Int.eq_ofNat_of_zero_le (show 0 ≤ 1 + p by omega)
  have HQ0 := hide hq
  have h1 : 1 ≤ nd0 := by omega
  have h14 : nd0 ≤ 14 := by omega
  clear hq
  go_wp2_with fail
  rw [HQ0.out]
  clear hp7 hp0 HQ0
  have HB := hide (Row.new w1 #[.int .i64 (nd0 : Int), .slice none 0 0] 30)
  have HT : Hid (TwAt d w w.heap.size w1.heap.size (nd0 : Int) none 0 [] (N + 2) (w1.alloc (.cells #[.int .i64 (nd0 : Int), .slice none 0 0] 30))) := hide ⟨HD.out.2, HS.out.alloc _, grown_new HG.out _, HR.out.alloc _, HB.out, World.ownsRow_nil _ _ _ _, ⟨HD.out.1, Nat.le_refl _, HR.out.1⟩, fun q hq => by cases hq⟩
  clear HR HS HG HB HD
  generalize w1.alloc (.cells #[.int .i64 (nd0 : Int), .slice none 0 0] 30) = w2 at *
  generalize w1.heap.size = tb at *
  obtain ⟨rb, hrb⟩ : ∃ rb, rb = w.heap.size := ⟨_, rfl⟩
  rw [← hrb] at HT ⊢
  clear hrb
  refine (one_any d (N + 2) 12 _ hd HT.out.st (by omega) (by omega)).mono ?_
  rintro e w3 ⟨⟨b, rfl⟩, hs, hg⟩
  replace HT := hide (HT.out.draw hs hg)
  clear hs hg
  go_upto_if 15 with fail
  go_cut [] (fun wx => ∃ nd : Nat, 1 ≤ nd ∧ nd ≤ 14 ∧ Hid (TwAt d w rb tb (nd : Int) none 0 [] (N + 2 + 2) wx))
  case first =>
    cases b with
    | false =>
      go_wp2_with fail
      go_meet
      exact ⟨nd0, h1, h14, HT⟩
    | true =>
      have t0 := HT.out.box.2.1 0 _ rfl
      have f0 := HT.out.box.free 0
      have tz := HT.out.box.1
      go_wp2_with fail
      go_meet
      exact ⟨14, by omega, by omega, hide (HT.out.setN 14)⟩
  clear HT h1 h14
  obtain ⟨nd, h1, h14, HT⟩ := hcut
  go_wp2_with fail
  go_loopg [4] 14 (fun g t wr => ∃ (k : Nat) (A : Option Addr) (c : Nat) (l : List StT), t = .int .i64 (k : Int) ∧ k ≤ nd ∧ Hid (nd ≤ g + k) ∧ Hid (l.length ≤ 40) ∧ Hid (TwAt d w rb tb (nd : Int) A c l (N + 4 + 8 * k) wr))
  case atStart => exact ⟨1, none, 0, [], rfl, h1, hide (by omega), hide (by simp), hide (HT.out.more (by omega))⟩
  case round =>
    clear HT
    obtain ⟨k, A, c, l, rfl, hk, HGK, HLE, HT⟩ := hrel
    have t0 := HT.out.box.2.1 0 _ rfl
    have tz := HT.out.box.1
    by_cases hlt : k < nd
    · go_wp2_with fail
      refine (one_any d (N + 4 + 8 * k) 20 wr hd HT.out.st (by omega) (by omega)).mono ?_
      rintro e w5 ⟨⟨b, rfl⟩, hs, hg⟩
      replace HT := hide (HT.out.draw hs hg)
      clear hs hg t0 tz
      cases b with
      | true =>
        go_wp2
        go_roundg (gk - 1)
        case rel => exact ⟨k + 1, A, c, l, by go_num, by omega, hide (by have := HGK.out; omega), HLE, hide (HT.out.more (by omega))⟩
        case measure => have := HGK.out; omega
      | false =>
        go_upto_region 8 with fail
        go_cut [5, 6] (fun sa sb wx => ∃ (nb : Nat) (AA : Option Addr) (kk : Nat) (LL : List StT) (bb : Bool) (nn : Int), sa = .pointer (some ⟨nb, 0, none⟩) ∧ sb = .bool bb ∧ Hid (Row wx nb [.int .i64 nn, .slice AA LL.length kk]) ∧ Hid (wx.ownsRow w.heap.size 34 3 (.slice AA LL.length kk) LL.length (LL.flatMap tcells)) ∧ Hid (bb = true → nn = (nd : Int) ∧ LL.length ≤ 40) ∧ Hid (∀ q, (Value.slice AA LL.length kk).ownBlock = some q → q ≠ rb ∧ q ≠ tb) ∧ Hid (TwAt d w rb tb (nd : Int) A c l (N + 4 + 8 * k + 2 + 6) wx))
        case first => as_aux_lemma =>
          have t0 := HT.out.box.2.1 0 _ rfl
          have t1 := HT.out.box.2.1 1 _ rfl
          have tz := HT.out.box.1
          have tg : tb ≠ d.g := by have := HT.out.ord; omega
          go_wp2_with fail
          refine wpAnyS_start (fun w' => ∃ n : LaterX w5 d.g, w' = n.w) (n := 19) (by kernel_rfl) rfl rfl ?_
          refine wpAnyS_take_allE [0, 1, 2, 4, 5, 6] 13 rfl (by kernel_rfl) (by intro c a d v w h; cases d <;> exact h) (by kernel_rfl) (by simp; rfl) rfl (laterX_drew _ _) ?_
          repeat (go_big_quiet_step (fail))
          refine wpQuiet_nil ?_
          have HG : Hid (w5.grownBy w5.drew (some d.g)) := hide (grown_of_below (Below.refl _ _).drew _)
          replace HT := hide HT.out.drew
          clear t0 t1 tz tg
          generalize w5.drew = V0 at *
          refine wpAnyS_two 3 16 (by kernel_rfl) (by simp; rfl) (by simp; rfl) rfl rfl rfl rfl (fun K hK => ?_) (fun K hK => ?_)
          · go_wp2_with fail
            refine (pick_any d (N + 4 + 8 * k + 2 + 0) (k : Int) _ hd HT.out.st (by omega) (by omega)).mono ?_
            rintro e V1 ⟨⟨x, rfl, x0, x1, x2⟩, hs, hg⟩
            clear x1
            replace HT : Hid (TwAt d w rb tb (nd : Int) A c l (N + 4 + 8 * k + 2 + 2) V1) := hide (HT.out.draw hs hg)
            replace HG := hide (grown_trans HG.out hg)
            clear hs hg
            go_wp2_with fail
            refine ⟨laterX_of HG.out, ?_⟩
            refine wpAnyS_two 7 16 (by kernel_rfl) (by simp; rfl) (by simp; rfl) rfl rfl rfl rfl (fun K hK => ?_) (fun K hK => ?_)
            · go_wp2_with fail
              refine (pick_any d (N + 4 + 8 * k + 2 + 2) 200 _ hd HT.out.st (by omega) (by omega)).mono ?_
              rintro e V2 ⟨⟨y, rfl, y0, y1, y2⟩, hs, hg⟩
              clear y1
              replace HT : Hid (TwAt d w rb tb (nd : Int) A c l (N + 4 + 8 * k + 2 + 4) V2) := hide (HT.out.draw hs hg)
              replace HG := hide (grown_trans HG.out hg)
              clear hs hg
              go_wp2_with fail
              refine ⟨laterX_of HG.out, ?_⟩
              have hw1 : IntKind.i64.wrap (1 + y) = 1 + y := IntWalk.i64_in _ (by omega)
              refine wpAnyS_take_allE [8] 10 rfl (by kernel_rfl) (by intro c a d v w h; cases d <;> exact h) (by kernel_rfl) (by simp; rfl) rfl (laterX_of HG.out) ?_
              repeat (go_big_quiet_step (fail))
              refine wpQuiet_nil ?_
              clear hw1
              refine wpAnyS_two 9 16 (by kernel_rfl) (by simp; rfl) (by simp; rfl) rfl rfl rfl rfl (fun K hK => ?_) (fun K hK => ?_)
              · have HB := hide (Row.new V2 #[.int .i64 (30), .int .i64 (60), .int .i64 (90), .int .i64 (120), .int .i64 (1 + y)] 3)
                have HBG : Hid (V2.heap.size ≠ d.g) := hide (by have := HT.out.st.lt; omega)
                replace HT := hide (HT.out.alloc (.cells #[.int .i64 30, .int .i64 60, .int .i64 90, .int .i64 120, .int .i64 (1 + y)] 3))
                replace HG := hide (grown_new HG.out (.cells #[.int .i64 30, .int .i64 60, .int .i64 90, .int .i64 120, .int .i64 (1 + y)] 3))
                refine wp_ints5 (30) (60) (90) (120) (1 + y) (.const (.int .i64 30)) (.const (.int .i64 60)) (.const (.int .i64 90)) (.const (.int .i64 120)) (.tmp 34) rfl rfl rfl rfl rfl rfl (hK _ _ ⟨laterX_of HG.out, ?_⟩)
                simp only [Act.put, List.setIfInBounds_toArray, List.set_cons_succ, List.set_cons_zero]
                generalize V2.alloc (.cells #[.int .i64 30, .int .i64 60, .int .i64 90, .int .i64 120, .int .i64 (1 + y)] 3) = V3 at *
                generalize V2.heap.size = lb at *
                refine wpAnyS_two 10 16 (by kernel_rfl) (by simp; rfl) (by simp; rfl) rfl rfl rfl rfl (fun K hK => ?_) (fun K hK => ?_)
                · go_wp2_with fail
                  refine (among_any d (N + 4 + 8 * k + 2 + 4) (some ⟨lb, 0, none⟩) 5 5 [30, 60, 90, 120, 1 + y] _ hd HT.out.st (by omega) rfl (by omega) (by omega) (by exact HB.out.rd) (fun b o sp e => by injection e with e; injection e with e; have := HBG.out; omega)).mono ?_
                  rintro e V4 ⟨⟨z, rfl, -⟩, hs, hg⟩
                  clear HB HBG
                  replace HT : Hid (TwAt d w rb tb (nd : Int) A c l (N + 4 + 8 * k + 2 + 6) V4) := hide (HT.out.draw hs hg)
                  replace HG := hide (grown_trans HG.out hg)
                  clear hs hg
                  go_wp2_with fail
                  refine ⟨laterX_of HG.out, ?_⟩
                  refine wpAnyS_take_allE [11] 7 rfl (by kernel_rfl) (by intro c a d v w h; cases d <;> exact h) (by kernel_rfl) (by simp; rfl) rfl (laterX_of HG.out) ?_
                  repeat (go_big_quiet_step (fail))
                  refine wpQuiet_nil ?_
                  refine wpAnyS_two 12 16 (by kernel_rfl) (by simp; rfl) (by simp; rfl) rfl rfl rfl rfl (fun K hK => ?_) (fun K hK => ?_)
                  · go_wp2_with fail
                    obtain ⟨p1, p2, p3, p4⟩ := own_pre HT.out.own
                    have HP := hide (And.intro p1 (And.intro p2 (And.intro p3 p4)))
                    clear p1 p2 p3 p4
                    refine (specAddStreet_all (nd : Int) A l.length c l x (k : Int) z _ rfl HP.out.1 HP.out.2.1 HP.out.2.2.1 HP.out.2.2.2).mono ?_
                    rintro e V5 ⟨⟨v', rfl, ho⟩, hq⟩
                    have HAB := hide (fun h => ads_ok (nd := (nd : Int)) (l := l) (s := (x, (k : Int), z)) h)
                    have HQ0 : Hid (∀ q, v'.ownBlock = some q → q ≠ rb ∧ q ≠ tb ∧ (V4.heap.size ≤ q ∧ q < V5.heap.size)) := hide (fun q hq => by have h1 := ho.lt q hq; have h2 := HT.out.res.1; have h3 := HT.out.box.1; refine ⟨by omega, by omega, h1⟩)
                    have HO := hide (own_le ho HT.out.gr.size)
                    clear ho HP
                    replace HT := hide (HT.out.below hq)
                    replace HG := hide (grown_trans HG.out (grown_of_below hq _))
                    clear hq
                    generalize adsL (nd : Int) l (x, (k : Int), z) = LL at *
                    generalize adsOk (nd : Int) l (x, (k : Int), z) = bb at *
                    generalize adsN (nd : Int) l (x, (k : Int), z) = nn at *
                    obtain ⟨AA, kk, hv, -⟩ := own_open HO.out
                    subst hv
                    go_wp2_with fail
                    refine ⟨laterX_of HG.out, ?_⟩
                    refine wpAnyS_take_allE [13, 14, 15] 3 rfl (by kernel_rfl) (by intro c a d v w h; cases d <;> exact h) (by kernel_rfl) (by simp; rfl) rfl (laterX_of HG.out) ?_
                    repeat (go_big_quiet_step (fail))
                    refine wpQuiet_nil ?_
                    refine wpAnyS_only 16 (by kernel_rfl) (by simp; rfl) rfl rfl (fun K hK => ?_)
                    go_wp2_with fail
                    have HN := hide (Row.new V5 #[.int .i64 0, .slice none 0 0] 30)
                    have HNO : Hid (w.heap.size ≤ V5.heap.size ∧ V5.heap.size ≠ rb ∧ V5.heap.size ≠ tb ∧ ∀ q, (Value.slice A l.length c).ownBlock = some q → q ≠ V5.heap.size) := hide ⟨HT.out.gr.size, by have := HT.out.res.1; omega, by have := HT.out.box.1; omega, fun q hq => by have := (HT.out.own.lt q hq).2; omega⟩
                    have HNG : Hid (V5.heap.size ≠ d.g) := hide (by have := HT.out.st.lt; omega)
                    have HNW : Hid (w5.heap.size ≤ V5.heap.size) := hide HG.out.size
                    replace HO := hide (World.ownsRow.alloc HO.out (.cells #[.int .i64 0, .slice none 0 0] 30))
                    have HQ : Hid (∀ q, (Value.slice AA LL.length kk).ownBlock = some q → q ≠ rb ∧ q ≠ tb ∧ q ≠ V5.heap.size) := hide (fun q hq => ⟨(HQ0.out q hq).1, (HQ0.out q hq).2.1, by have := (HQ0.out q hq).2.2; omega⟩)
                    replace HT := hide (HT.out.alloc (.cells #[.int .i64 0, .slice none 0 0] 30))
                    replace HG := hide (grown_new HG.out (.cells #[.int .i64 0, .slice none 0 0] 30))
                    have HNL : Hid (V5.heap.size < (V5.alloc (.cells #[.int .i64 0, .slice none 0 0] 30)).heap.size) := hide (by simp)
                    refine ⟨laterX_of HG.out, ?_⟩
                    generalize V5.alloc (.cells #[.int .i64 0, .slice none 0 0] 30) = V6 at *
                    generalize V5.heap.size = nb at *
                    refine wpAnyS_only 17 (by kernel_rfl) (by simp; rfl) rfl rfl (fun K hK => ?_)
                    have u0 := HN.out.2.1 0 _ rfl
                    have u1 := HN.out.2.1 1 _ rfl
                    have f0 := HN.out.free 0
                    have f1 := HN.out.free 1
                    have nz := HN.out.1
                    have HN9 := hide ((HN.out.set (k := 0) (by simp) (.int .i64 nn)).set (k := 1) (by simp) (.slice AA LL.length kk))
                    have HO9 := hide (own_put (p := ⟨nb, 1, none⟩) (own_put (p := ⟨nb, 0, none⟩) HO.out (fun q hq => (HQ.out q hq).2.2) (.int .i64 nn)) (fun q hq => (HQ.out q hq).2.2) (.slice AA LL.length kk))
                    have HT9 := hide ((HT.out.put (p := ⟨nb, 0, none⟩) HNO.out.1 HNO.out.2.1 HNO.out.2.2.1 HNO.out.2.2.2 (.int .i64 nn)).put (p := ⟨nb, 1, none⟩) HNO.out.1 HNO.out.2.1 HNO.out.2.2.1 HNO.out.2.2.2 (.slice AA LL.length kk))
                    have HG9 := hide (grown_put (grown_put HG.out (p := ⟨nb, 0, none⟩) HNW.out (.int .i64 nn)) (p := ⟨nb, 1, none⟩) HNW.out (.slice AA LL.length kk))
                    go_wp2_with fail
                    refine ⟨laterX_of HG9.out, ?_⟩
                    clear u0 u1 f0 f1 nz HG
                    have HG := HG9
                    refine wpAnyS_take_allE [18] 0 rfl (by kernel_rfl) (by intro c a d v w h; cases d <;> exact h) (by kernel_rfl) (by simp; rfl) rfl (laterX_of HG.out) ?_
                    repeat (go_big_quiet_step (fail))
                    refine wpQuiet_nil ?_
                    refine wpAnyH_done (by kernel_rfl) ?_ _
                    go_wp2_with fail
                    go_meet
                    exact ⟨nb, AA, kk, LL, bb, nn, rfl, rfl, HN9, HO9, HAB, hide (fun q hq => ⟨(HQ.out q hq).1, (HQ.out q hq).2.1⟩), HT9⟩
                  · go_wp2_with fail
                    have HN := hide (Row.new V4 #[.int .i64 0, .slice none 0 0] 30)
                    have HNO : Hid (w.heap.size ≤ V4.heap.size ∧ V4.heap.size ≠ rb ∧ V4.heap.size ≠ tb ∧ ∀ q, (Value.slice A l.length c).ownBlock = some q → q ≠ V4.heap.size) := hide ⟨HT.out.gr.size, by have := HT.out.res.1; omega, by have := HT.out.box.1; omega, fun q hq => by have := (HT.out.own.lt q hq).2; omega⟩
                    have HNG : Hid (V4.heap.size ≠ d.g) := hide (by have := HT.out.st.lt; omega)
                    have HNW : Hid (w5.heap.size ≤ V4.heap.size) := hide HG.out.size
                    replace HT := hide (HT.out.alloc (.cells #[.int .i64 0, .slice none 0 0] 30))
                    replace HG := hide (grown_new HG.out (.cells #[.int .i64 0, .slice none 0 0] 30))
                    have HNL : Hid (V4.heap.size < (V4.alloc (.cells #[.int .i64 0, .slice none 0 0] 30)).heap.size) := hide (by simp)
                    refine ⟨laterX_of HG.out, ?_⟩
                    generalize V4.alloc (.cells #[.int .i64 0, .slice none 0 0] 30) = V5 at *
                    generalize V4.heap.size = nb at *
                    refine wpAnyS_only 12 (by kernel_rfl) (by simp; rfl) rfl rfl (fun K hK => ?_)
                    go_wp2_with fail
                    obtain ⟨p1, p2, p3, p4⟩ := own_pre HT.out.own
                    have HP := hide (And.intro p1 (And.intro p2 (And.intro p3 p4)))
                    clear p1 p2 p3 p4
                    refine (specAddStreet_all (nd : Int) A l.length c l x (k : Int) z _ rfl HP.out.1 HP.out.2.1 HP.out.2.2.1 HP.out.2.2.2).mono ?_
                    rintro e V6 ⟨⟨v', rfl, ho⟩, hq⟩
                    have HAB := hide (fun h => ads_ok (nd := (nd : Int)) (l := l) (s := (x, (k : Int), z)) h)
                    have HQ0 : Hid (∀ q, v'.ownBlock = some q → q ≠ rb ∧ q ≠ tb ∧ (V5.heap.size ≤ q ∧ q < V6.heap.size)) := hide (fun q hq => by have h1 := ho.lt q hq; have h2 := HT.out.res.1; have h3 := HT.out.box.1; refine ⟨by omega, by omega, h1⟩)
                    have HO := hide (own_le ho HT.out.gr.size)
                    clear ho HP
                    replace HN := hide (HN.out.below hq)
                    have HQ : Hid (∀ q, v'.ownBlock = some q → q ≠ rb ∧ q ≠ tb ∧ q ≠ nb) := hide (fun q hq => ⟨(HQ0.out q hq).1, (HQ0.out q hq).2.1, by have := (HQ0.out q hq).2.2; have := HNL.out; omega⟩)
                    clear HQ0
                    replace HNL := hide (Nat.lt_of_lt_of_le HNL.out hq.size)
                    replace HT := hide (HT.out.below hq)
                    replace HG := hide (grown_trans HG.out (grown_of_below hq _))
                    clear hq
                    generalize adsL (nd : Int) l (x, (k : Int), z) = LL at *
                    generalize adsOk (nd : Int) l (x, (k : Int), z) = bb at *
                    generalize adsN (nd : Int) l (x, (k : Int), z) = nn at *
                    obtain ⟨AA, kk, hv, -⟩ := own_open HO.out
                    subst hv
                    go_wp2_with fail
                    refine ⟨laterX_of HG.out, ?_⟩
                    refine wpAnyS_take_allE [13, 14, 15] 2 rfl (by kernel_rfl) (by intro c a d v w h; cases d <;> exact h) (by kernel_rfl) (by simp; rfl) rfl (laterX_of HG.out) ?_
                    repeat (go_big_quiet_step (fail))
                    refine wpQuiet_nil ?_
                    refine wpAnyS_only 17 (by kernel_rfl) (by simp; rfl) rfl rfl (fun K hK => ?_)
                    have u0 := HN.out.2.1 0 _ rfl
                    have u1 := HN.out.2.1 1 _ rfl
                    have f0 := HN.out.free 0
                    have f1 := HN.out.free 1
                    have nz := HN.out.1
                    have HN9 := hide ((HN.out.set (k := 0) (by simp) (.int .i64 nn)).set (k := 1) (by simp) (.slice AA LL.length kk))
                    have HO9 := hide (own_put (p := ⟨nb, 1, none⟩) (own_put (p := ⟨nb, 0, none⟩) HO.out (fun q hq => (HQ.out q hq).2.2) (.int .i64 nn)) (fun q hq => (HQ.out q hq).2.2) (.slice AA LL.length kk))
                    have HT9 := hide ((HT.out.put (p := ⟨nb, 0, none⟩) HNO.out.1 HNO.out.2.1 HNO.out.2.2.1 HNO.out.2.2.2 (.int .i64 nn)).put (p := ⟨nb, 1, none⟩) HNO.out.1 HNO.out.2.1 HNO.out.2.2.1 HNO.out.2.2.2 (.slice AA LL.length kk))
                    have HG9 := hide (grown_put (grown_put HG.out (p := ⟨nb, 0, none⟩) HNW.out (.int .i64 nn)) (p := ⟨nb, 1, none⟩) HNW.out (.slice AA LL.length kk))
                    go_wp2_with fail
                    refine ⟨laterX_of HG9.out, ?_⟩
                    clear u0 u1 f0 f1 nz HG
                    have HG := HG9
                    refine wpAnyS_take_allE [18] 0 rfl (by kernel_rfl) (by intro c a d v w h; cases d <;> exact h) (by kernel_rfl) (by simp; rfl) rfl (laterX_of HG.out) ?_
                    repeat (go_big_quiet_step (fail))
                    refine wpQuiet_nil ?_
                    refine wpAnyH_done (by kernel_rfl) ?_ _
                    go_wp2_with fail
                    go_meet
                    exact ⟨nb, AA, kk, LL, bb, nn, rfl, rfl, HN9, HO9, HAB, hide (fun q hq => ⟨(HQ.out q hq).1, (HQ.out q hq).2.1⟩), HT9⟩
                · go_wp2_with fail
                  have HN := hide (Row.new V3 #[.int .i64 0, .slice none 0 0] 30)
                  have HNO : Hid (w.heap.size ≤ V3.heap.size ∧ V3.heap.size ≠ rb ∧ V3.heap.size ≠ tb ∧ ∀ q, (Value.slice A l.length c).ownBlock = some q → q ≠ V3.heap.size) := hide ⟨HT.out.gr.size, by have := HT.out.res.1; omega, by have := HT.out.box.1; omega, fun q hq => by have := (HT.out.own.lt q hq).2; omega⟩
                  have HNG : Hid (V3.heap.size ≠ d.g) := hide (by have := HT.out.st.lt; omega)
                  have HNW : Hid (w5.heap.size ≤ V3.heap.size) := hide HG.out.size
                  replace HB := hide (HB.out.alloc (.cells #[.int .i64 0, .slice none 0 0] 30))
                  replace HT := hide (HT.out.alloc (.cells #[.int .i64 0, .slice none 0 0] 30))
                  replace HG := hide (grown_new HG.out (.cells #[.int .i64 0, .slice none 0 0] 30))
                  have HNL : Hid (V3.heap.size < (V3.alloc (.cells #[.int .i64 0, .slice none 0 0] 30)).heap.size) := hide (by simp)
                  refine ⟨laterX_of HG.out, ?_⟩
                  generalize V3.alloc (.cells #[.int .i64 0, .slice none 0 0] 30) = V4 at *
                  generalize V3.heap.size = nb at *
                  refine wpAnyS_only 10 (by kernel_rfl) (by simp; rfl) rfl rfl (fun K hK => ?_)
                  go_wp2_with fail
                  refine (among_any d (N + 4 + 8 * k + 2 + 4) (some ⟨lb, 0, none⟩) 5 5 [30, 60, 90, 120, 1 + y] _ hd HT.out.st (by omega) rfl (by omega) (by omega) (by exact HB.out.rd) (fun b o sp e => by injection e with e; injection e with e; have := HBG.out; omega)).mono ?_
                  rintro e V5 ⟨⟨z, rfl, -⟩, hs, hg⟩
                  clear HB HBG
                  replace HN := hide (HN.out.grown hg (fun e => by injection e with e; have := HNG.out; omega))
                  replace HNL := hide (Nat.lt_of_lt_of_le HNL.out hg.size)
                  replace HT : Hid (TwAt d w rb tb (nd : Int) A c l (N + 4 + 8 * k + 2 + 6) V5) := hide (HT.out.draw hs hg)
                  replace HG := hide (grown_trans HG.out hg)
                  clear hs hg
                  go_wp2_with fail
                  refine ⟨laterX_of HG.out, ?_⟩
                  refine wpAnyS_take_allE [11] 6 rfl (by kernel_rfl) (by intro c a d v w h; cases d <;> exact h) (by kernel_rfl) (by simp; rfl) rfl (laterX_of HG.out) ?_
                  repeat (go_big_quiet_step (fail))
                  refine wpQuiet_nil ?_
                  refine wpAnyS_only 12 (by kernel_rfl) (by simp; rfl) rfl rfl (fun K hK => ?_)
                  go_wp2_with fail
                  obtain ⟨p1, p2, p3, p4⟩ := own_pre HT.out.own
                  have HP := hide (And.intro p1 (And.intro p2 (And.intro p3 p4)))
                  clear p1 p2 p3 p4
                  refine (specAddStreet_all (nd : Int) A l.length c l x (k : Int) z _ rfl HP.out.1 HP.out.2.1 HP.out.2.2.1 HP.out.2.2.2).mono ?_
                  rintro e V6 ⟨⟨v', rfl, ho⟩, hq⟩
                  have HAB := hide (fun h => ads_ok (nd := (nd : Int)) (l := l) (s := (x, (k : Int), z)) h)
                  have HQ0 : Hid (∀ q, v'.ownBlock = some q → q ≠ rb ∧ q ≠ tb ∧ (V5.heap.size ≤ q ∧ q < V6.heap.size)) := hide (fun q hq => by have h1 := ho.lt q hq; have h2 := HT.out.res.1; have h3 := HT.out.box.1; refine ⟨by omega, by omega, h1⟩)
                  have HO := hide (own_le ho HT.out.gr.size)
                  clear ho HP
                  replace HN := hide (HN.out.below hq)
                  have HQ : Hid (∀ q, v'.ownBlock = some q → q ≠ rb ∧ q ≠ tb ∧ q ≠ nb) := hide (fun q hq => ⟨(HQ0.out q hq).1, (HQ0.out q hq).2.1, by have := (HQ0.out q hq).2.2; have := HNL.out; omega⟩)
                  clear HQ0
                  replace HNL := hide (Nat.lt_of_lt_of_le HNL.out hq.size)
                  replace HT := hide (HT.out.below hq)
                  replace HG := hide (grown_trans HG.out (grown_of_below hq _))
                  clear hq
                  generalize adsL (nd : Int) l (x, (k : Int), z) = LL at *
                  generalize adsOk (nd : Int) l (x, (k : Int), z) = bb at *
                  generalize adsN (nd : Int) l (x, (k : Int), z) = nn at *
                  obtain ⟨AA, kk, hv, -⟩ := own_open HO.out
                  subst hv
                  go_wp2_with fail
                  refine ⟨laterX_of HG.out, ?_⟩
                  refine wpAnyS_take_allE [13, 14, 15] 2 rfl (by kernel_rfl) (by intro c a d v w h; cases d <;> exact h) (by kernel_rfl) (by simp; rfl) rfl (laterX_of HG.out) ?_
                  repeat (go_big_quiet_step (fail))
                  refine wpQuiet_nil ?_
                  refine wpAnyS_only 17 (by kernel_rfl) (by simp; rfl) rfl rfl (fun K hK => ?_)
                  have u0 := HN.out.2.1 0 _ rfl
                  have u1 := HN.out.2.1 1 _ rfl
                  have f0 := HN.out.free 0
                  have f1 := HN.out.free 1
                  have nz := HN.out.1
                  have HN9 := hide ((HN.out.set (k := 0) (by simp) (.int .i64 nn)).set (k := 1) (by simp) (.slice AA LL.length kk))
                  have HO9 := hide (own_put (p := ⟨nb, 1, none⟩) (own_put (p := ⟨nb, 0, none⟩) HO.out (fun q hq => (HQ.out q hq).2.2) (.int .i64 nn)) (fun q hq => (HQ.out q hq).2.2) (.slice AA LL.length kk))
                  have HT9 := hide ((HT.out.put (p := ⟨nb, 0, none⟩) HNO.out.1 HNO.out.2.1 HNO.out.2.2.1 HNO.out.2.2.2 (.int .i64 nn)).put (p := ⟨nb, 1, none⟩) HNO.out.1 HNO.out.2.1 HNO.out.2.2.1 HNO.out.2.2.2 (.slice AA LL.length kk))
                  have HG9 := hide (grown_put (grown_put HG.out (p := ⟨nb, 0, none⟩) HNW.out (.int .i64 nn)) (p := ⟨nb, 1, none⟩) HNW.out (.slice AA LL.length kk))
                  go_wp2_with fail
                  refine ⟨laterX_of HG9.out, ?_⟩
                  clear u0 u1 f0 f1 nz HG
                  have HG := HG9
                  refine wpAnyS_take_allE [18] 0 rfl (by kernel_rfl) (by intro c a d v w h; cases d <;> exact h) (by kernel_rfl) (by simp; rfl) rfl (laterX_of HG.out) ?_
                  repeat (go_big_quiet_step (fail))
                  refine wpQuiet_nil ?_
                  refine wpAnyH_done (by kernel_rfl) ?_ _
                  go_wp2_with fail
                  go_meet
                  exact ⟨nb, AA, kk, LL, bb, nn, rfl, rfl, HN9, HO9, HAB, hide (fun q hq => ⟨(HQ.out q hq).1, (HQ.out q hq).2.1⟩), HT9⟩
              · go_wp2_with fail
                have HN := hide (Row.new V2 #[.int .i64 0, .slice none 0 0] 30)
                have HNO : Hid (w.heap.size ≤ V2.heap.size ∧ V2.heap.size ≠ rb ∧ V2.heap.size ≠ tb ∧ ∀ q, (Value.slice A l.length c).ownBlock = some q → q ≠ V2.heap.size) := hide ⟨HT.out.gr.size, by have := HT.out.res.1; omega, by have := HT.out.box.1; omega, fun q hq => by have := (HT.out.own.lt q hq).2; omega⟩
                have HNG : Hid (V2.heap.size ≠ d.g) := hide (by have := HT.out.st.lt; omega)
                have HNW : Hid (w5.heap.size ≤ V2.heap.size) := hide HG.out.size
                replace HT := hide (HT.out.alloc (.cells #[.int .i64 0, .slice none 0 0] 30))
                replace HG := hide (grown_new HG.out (.cells #[.int .i64 0, .slice none 0 0] 30))
                have HNL : Hid (V2.heap.size < (V2.alloc (.cells #[.int .i64 0, .slice none 0 0] 30)).heap.size) := hide (by simp)
                refine ⟨laterX_of HG.out, ?_⟩
                generalize V2.alloc (.cells #[.int .i64 0, .slice none 0 0] 30) = V3 at *
                generalize V2.heap.size = nb at *
                refine wpAnyS_only 9 (by kernel_rfl) (by simp; rfl) rfl rfl (fun K hK => ?_)
                have HB := hide (Row.new V3 #[.int .i64 (30), .int .i64 (60), .int .i64 (90), .int .i64 (120), .int .i64 (1 + y)] 3)
                have HBG : Hid (V3.heap.size ≠ d.g) := hide (by have := HT.out.st.lt; omega)
                replace HN := hide (HN.out.alloc (.cells #[.int .i64 30, .int .i64 60, .int .i64 90, .int .i64 120, .int .i64 (1 + y)] 3))
                replace HNL : Hid (nb < (V3.alloc (.cells #[.int .i64 30, .int .i64 60, .int .i64 90, .int .i64 120, .int .i64 (1 + y)] 3)).heap.size) := hide (by have := HNL.out; simp; omega)
                replace HT := hide (HT.out.alloc (.cells #[.int .i64 30, .int .i64 60, .int .i64 90, .int .i64 120, .int .i64 (1 + y)] 3))
                replace HG := hide (grown_new HG.out (.cells #[.int .i64 30, .int .i64 60, .int .i64 90, .int .i64 120, .int .i64 (1 + y)] 3))
                refine wp_ints5 (30) (60) (90) (120) (1 + y) (.const (.int .i64 30)) (.const (.int .i64 60)) (.const (.int .i64 90)) (.const (.int .i64 120)) (.tmp 34) rfl rfl rfl rfl rfl rfl (hK _ _ ⟨laterX_of HG.out, ?_⟩)
                simp only [Act.put, List.setIfInBounds_toArray, List.set_cons_succ, List.set_cons_zero]
                generalize V3.alloc (.cells #[.int .i64 30, .int .i64 60, .int .i64 90, .int .i64 120, .int .i64 (1 + y)] 3) = V4 at *
                generalize V3.heap.size = lb at *
                refine wpAnyS_only 10 (by kernel_rfl) (by simp; rfl) rfl rfl (fun K hK => ?_)
                go_wp2_with fail
                refine (among_any d (N + 4 + 8 * k + 2 + 4) (some ⟨lb, 0, none⟩) 5 5 [30, 60, 90, 120, 1 + y] _ hd HT.out.st (by omega) rfl (by omega) (by omega) (by exact HB.out.rd) (fun b o sp e => by injection e with e; injection e with e; have := HBG.out; omega)).mono ?_
                rintro e V5 ⟨⟨z, rfl, -⟩, hs, hg⟩
                clear HB HBG
                replace HN := hide (HN.out.grown hg (fun e => by injection e with e; have := HNG.out; omega))
                replace HNL := hide (Nat.lt_of_lt_of_le HNL.out hg.size)
                replace HT : Hid (TwAt d w rb tb (nd : Int) A c l (N + 4 + 8 * k + 2 + 6) V5) := hide (HT.out.draw hs hg)
                replace HG := hide (grown_trans HG.out hg)
                clear hs hg
                go_wp2_with fail
                refine ⟨laterX_of HG.out, ?_⟩
                refine wpAnyS_take_allE [11] 6 rfl (by kernel_rfl) (by intro c a d v w h; cases d <;> exact h) (by kernel_rfl) (by simp; rfl) rfl (laterX_of HG.out) ?_
                repeat (go_big_quiet_step (fail))
                refine wpQuiet_nil ?_
                refine wpAnyS_only 12 (by kernel_rfl) (by simp; rfl) rfl rfl (fun K hK => ?_)
                go_wp2_with fail
                obtain ⟨p1, p2, p3, p4⟩ := own_pre HT.out.own
                have HP := hide (And.intro p1 (And.intro p2 (And.intro p3 p4)))
                clear p1 p2 p3 p4
                refine (specAddStreet_all (nd : Int) A l.length c l x (k : Int) z _ rfl HP.out.1 HP.out.2.1 HP.out.2.2.1 HP.out.2.2.2).mono ?_
                rintro e V6 ⟨⟨v', rfl, ho⟩, hq⟩
                have HAB := hide (fun h => ads_ok (nd := (nd : Int)) (l := l) (s := (x, (k : Int), z)) h)
                have HQ0 : Hid (∀ q, v'.ownBlock = some q → q ≠ rb ∧ q ≠ tb ∧ (V5.heap.size ≤ q ∧ q < V6.heap.size)) := hide (fun q hq => by have h1 := ho.lt q hq; have h2 := HT.out.res.1; have h3 := HT.out.box.1; refine ⟨by omega, by omega, h1⟩)
                have HO := hide (own_le ho HT.out.gr.size)
                clear ho HP
                replace HN := hide (HN.out.below hq)
                have HQ : Hid (∀ q, v'.ownBlock = some q → q ≠ rb ∧ q ≠ tb ∧ q ≠ nb) := hide (fun q hq => ⟨(HQ0.out q hq).1, (HQ0.out q hq).2.1, by have := (HQ0.out q hq).2.2; have := HNL.out; omega⟩)
                clear HQ0
                replace HNL := hide (Nat.lt_of_lt_of_le HNL.out hq.size)
                replace HT := hide (HT.out.below hq)
                replace HG := hide (grown_trans HG.out (grown_of_below hq _))
                clear hq
                generalize adsL (nd : Int) l (x, (k : Int), z) = LL at *
                generalize adsOk (nd : Int) l (x, (k : Int), z) = bb at *
                generalize adsN (nd : Int) l (x, (k : Int), z) = nn at *
                obtain ⟨AA, kk, hv, -⟩ := own_open HO.out
                subst hv
                go_wp2_with fail
                refine ⟨laterX_of HG.out, ?_⟩
                refine wpAnyS_take_allE [13, 14, 15] 2 rfl (by kernel_rfl) (by intro c a d v w h; cases d <;> exact h) (by kernel_rfl) (by simp; rfl) rfl (laterX_of HG.out) ?_
                repeat (go_big_quiet_step (fail))
                refine wpQuiet_nil ?_
                refine wpAnyS_only 17 (by kernel_rfl) (by simp; rfl) rfl rfl (fun K hK => ?_)
                have u0 := HN.out.2.1 0 _ rfl
                have u1 := HN.out.2.1 1 _ rfl
                have f0 := HN.out.free 0
                have f1 := HN.out.free 1
                have nz := HN.out.1
                have HN9 := hide ((HN.out.set (k := 0) (by simp) (.int .i64 nn)).set (k := 1) (by simp) (.slice AA LL.length kk))
                have HO9 := hide (own_put (p := ⟨nb, 1, none⟩) (own_put (p := ⟨nb, 0, none⟩) HO.out (fun q hq => (HQ.out q hq).2.2) (.int .i64 nn)) (fun q hq => (HQ.out q hq).2.2) (.slice AA LL.length kk))
                have HT9 := hide ((HT.out.put (p := ⟨nb, 0, none⟩) HNO.out.1 HNO.out.2.1 HNO.out.2.2.1 HNO.out.2.2.2 (.int .i64 nn)).put (p := ⟨nb, 1, none⟩) HNO.out.1 HNO.out.2.1 HNO.out.2.2.1 HNO.out.2.2.2 (.slice AA LL.length kk))
                have HG9 := hide (grown_put (grown_put HG.out (p := ⟨nb, 0, none⟩) HNW.out (.int .i64 nn)) (p := ⟨nb, 1, none⟩) HNW.out (.slice AA LL.length kk))
                go_wp2_with fail
                refine ⟨laterX_of HG9.out, ?_⟩
                clear u0 u1 f0 f1 nz HG
                have HG := HG9
                refine wpAnyS_take_allE [18] 0 rfl (by kernel_rfl) (by intro c a d v w h; cases d <;> exact h) (by kernel_rfl) (by simp; rfl) rfl (laterX_of HG.out) ?_
                repeat (go_big_quiet_step (fail))
                refine wpQuiet_nil ?_
                refine wpAnyH_done (by kernel_rfl) ?_ _
                go_wp2_with fail
                go_meet
                exact ⟨nb, AA, kk, LL, bb, nn, rfl, rfl, HN9, HO9, HAB, hide (fun q hq => ⟨(HQ.out q hq).1, (HQ.out q hq).2.1⟩), HT9⟩
            · go_wp2_with fail
              have HN := hide (Row.new V1 #[.int .i64 0, .slice none 0 0] 30)
              have HNO : Hid (w.heap.size ≤ V1.heap.size ∧ V1.heap.size ≠ rb ∧ V1.heap.size ≠ tb ∧ ∀ q, (Value.slice A l.length c).ownBlock = some q → q ≠ V1.heap.size) := hide ⟨HT.out.gr.size, by have := HT.out.res.1; omega, by have := HT.out.box.1; omega, fun q hq => by have := (HT.out.own.lt q hq).2; omega⟩
              have HNG : Hid (V1.heap.size ≠ d.g) := hide (by have := HT.out.st.lt; omega)
              have HNW : Hid (w5.heap.size ≤ V1.heap.size) := hide HG.out.size
              replace HT := hide (HT.out.alloc (.cells #[.int .i64 0, .slice none 0 0] 30))
              replace HG := hide (grown_new HG.out (.cells #[.int .i64 0, .slice none 0 0] 30))
              have HNL : Hid (V1.heap.size < (V1.alloc (.cells #[.int .i64 0, .slice none 0 0] 30)).heap.size) := hide (by simp)
              refine ⟨laterX_of HG.out, ?_⟩
              generalize V1.alloc (.cells #[.int .i64 0, .slice none 0 0] 30) = V2 at *
              generalize V1.heap.size = nb at *
              refine wpAnyS_only 7 (by kernel_rfl) (by simp; rfl) rfl rfl (fun K hK => ?_)
              go_wp2_with fail
              refine (pick_any d (N + 4 + 8 * k + 2 + 2) 200 _ hd HT.out.st (by omega) (by omega)).mono ?_
              rintro e V3 ⟨⟨y, rfl, y0, y1, y2⟩, hs, hg⟩
              clear y1
              replace HN := hide (HN.out.grown hg (fun e => by injection e with e; have := HNG.out; omega))
              replace HNL := hide (Nat.lt_of_lt_of_le HNL.out hg.size)
              replace HT : Hid (TwAt d w rb tb (nd : Int) A c l (N + 4 + 8 * k + 2 + 4) V3) := hide (HT.out.draw hs hg)
              replace HG := hide (grown_trans HG.out hg)
              clear hs hg
              go_wp2_with fail
              refine ⟨laterX_of HG.out, ?_⟩
              have hw1 : IntKind.i64.wrap (1 + y) = 1 + y := IntWalk.i64_in _ (by omega)
              refine wpAnyS_take_allE [8] 9 rfl (by kernel_rfl) (by intro c a d v w h; cases d <;> exact h) (by kernel_rfl) (by simp; rfl) rfl (laterX_of HG.out) ?_
              repeat (go_big_quiet_step (fail))
              refine wpQuiet_nil ?_
              clear hw1
              refine wpAnyS_only 9 (by kernel_rfl) (by simp; rfl) rfl rfl (fun K hK => ?_)
              have HB := hide (Row.new V3 #[.int .i64 (30), .int .i64 (60), .int .i64 (90), .int .i64 (120), .int .i64 (1 + y)] 3)
              have HBG : Hid (V3.heap.size ≠ d.g) := hide (by have := HT.out.st.lt; omega)
              replace HN := hide (HN.out.alloc (.cells #[.int .i64 30, .int .i64 60, .int .i64 90, .int .i64 120, .int .i64 (1 + y)] 3))
              replace HNL : Hid (nb < (V3.alloc (.cells #[.int .i64 30, .int .i64 60, .int .i64 90, .int .i64 120, .int .i64 (1 + y)] 3)).heap.size) := hide (by have := HNL.out; simp; omega)
              replace HT := hide (HT.out.alloc (.cells #[.int .i64 30, .int .i64 60, .int .i64 90, .int .i64 120, .int .i64 (1 + y)] 3))
              replace HG := hide (grown_new HG.out (.cells #[.int .i64 30, .int .i64 60, .int .i64 90, .int .i64 120, .int .i64 (1 + y)] 3))
              refine wp_ints5 (30) (60) (90) (120) (1 + y) (.const (.int .i64 30)) (.const (.int .i64 60)) (.const (.int .i64 90)) (.const (.int .i64 120)) (.tmp 34) rfl rfl rfl rfl rfl rfl (hK _ _ ⟨laterX_of HG.out, ?_⟩)
              simp only [Act.put, List.setIfInBounds_toArray, List.set_cons_succ, List.set_cons_zero]
              generalize V3.alloc (.cells #[.int .i64 30, .int .i64 60, .int .i64 90, .int .i64 120, .int .i64 (1 + y)] 3) = V4 at *
              generalize V3.heap.size = lb at *
              refine wpAnyS_only 10 (by kernel_rfl) (by simp; rfl) rfl rfl (fun K hK => ?_)
              go_wp2_with fail
              refine (among_any d (N + 4 + 8 * k + 2 + 4) (some ⟨lb, 0, none⟩) 5 5 [30, 60, 90, 120, 1 + y] _ hd HT.out.st (by omega) rfl (by omega) (by omega) (by exact HB.out.rd) (fun b o sp e => by injection e with e; injection e with e; have := HBG.out; omega)).mono ?_
              rintro e V5 ⟨⟨z, rfl, -⟩, hs, hg⟩
              clear HB HBG
              replace HN := hide (HN.out.grown hg (fun e => by injection e with e; have := HNG.out; omega))
              replace HNL := hide (Nat.lt_of_lt_of_le HNL.out hg.size)
              replace HT : Hid (TwAt d w rb tb (nd : Int) A c l (N + 4 + 8 * k + 2 + 6) V5) := hide (HT.out.draw hs hg)
              replace HG := hide (grown_trans HG.out hg)
              clear hs hg
              go_wp2_with fail
              refine ⟨laterX_of HG.out, ?_⟩
              refine wpAnyS_take_allE [11] 6 rfl (by kernel_rfl) (by intro c a d v w h; cases d <;> exact h) (by kernel_rfl) (by simp; rfl) rfl (laterX_of HG.out) ?_
              repeat (go_big_quiet_step (fail))
              refine wpQuiet_nil ?_
              refine wpAnyS_only 12 (by kernel_rfl) (by simp; rfl) rfl rfl (fun K hK => ?_)
              go_wp2_with fail
              obtain ⟨p1, p2, p3, p4⟩ := own_pre HT.out.own
              have HP := hide (And.intro p1 (And.intro p2 (And.intro p3 p4)))
              clear p1 p2 p3 p4
              refine (specAddStreet_all (nd : Int) A l.length c l x (k : Int) z _ rfl HP.out.1 HP.out.2.1 HP.out.2.2.1 HP.out.2.2.2).mono ?_
              rintro e V6 ⟨⟨v', rfl, ho⟩, hq⟩
              have HAB := hide (fun h => ads_ok (nd := (nd : Int)) (l := l) (s := (x, (k : Int), z)) h)
              have HQ0 : Hid (∀ q, v'.ownBlock = some q → q ≠ rb ∧ q ≠ tb ∧ (V5.heap.size ≤ q ∧ q < V6.heap.size)) := hide (fun q hq => by have h1 := ho.lt q hq; have h2 := HT.out.res.1; have h3 := HT.out.box.1; refine ⟨by omega, by omega, h1⟩)
              have HO := hide (own_le ho HT.out.gr.size)
              clear ho HP
              replace HN := hide (HN.out.below hq)
              have HQ : Hid (∀ q, v'.ownBlock = some q → q ≠ rb ∧ q ≠ tb ∧ q ≠ nb) := hide (fun q hq => ⟨(HQ0.out q hq).1, (HQ0.out q hq).2.1, by have := (HQ0.out q hq).2.2; have := HNL.out; omega⟩)
              clear HQ0
              replace HNL := hide (Nat.lt_of_lt_of_le HNL.out hq.size)
              replace HT := hide (HT.out.below hq)
              replace HG := hide (grown_trans HG.out (grown_of_below hq _))
              clear hq
              generalize adsL (nd : Int) l (x, (k : Int), z) = LL at *
              generalize adsOk (nd : Int) l (x, (k : Int), z) = bb at *
              generalize adsN (nd : Int) l (x, (k : Int), z) = nn at *
              obtain ⟨AA, kk, hv, -⟩ := own_open HO.out
              subst hv
              go_wp2_with fail
              refine ⟨laterX_of HG.out, ?_⟩
              refine wpAnyS_take_allE [13, 14, 15] 2 rfl (by kernel_rfl) (by intro c a d v w h; cases d <;> exact h) (by kernel_rfl) (by simp; rfl) rfl (laterX_of HG.out) ?_
              repeat (go_big_quiet_step (fail))
              refine wpQuiet_nil ?_
              refine wpAnyS_only 17 (by kernel_rfl) (by simp; rfl) rfl rfl (fun K hK => ?_)
              have u0 := HN.out.2.1 0 _ rfl
              have u1 := HN.out.2.1 1 _ rfl
              have f0 := HN.out.free 0
              have f1 := HN.out.free 1
              have nz := HN.out.1
              have HN9 := hide ((HN.out.set (k := 0) (by simp) (.int .i64 nn)).set (k := 1) (by simp) (.slice AA LL.length kk))
              have HO9 := hide (own_put (p := ⟨nb, 1, none⟩) (own_put (p := ⟨nb, 0, none⟩) HO.out (fun q hq => (HQ.out q hq).2.2) (.int .i64 nn)) (fun q hq => (HQ.out q hq).2.2) (.slice AA LL.length kk))
              have HT9 := hide ((HT.out.put (p := ⟨nb, 0, none⟩) HNO.out.1 HNO.out.2.1 HNO.out.2.2.1 HNO.out.2.2.2 (.int .i64 nn)).put (p := ⟨nb, 1, none⟩) HNO.out.1 HNO.out.2.1 HNO.out.2.2.1 HNO.out.2.2.2 (.slice AA LL.length kk))
              have HG9 := hide (grown_put (grown_put HG.out (p := ⟨nb, 0, none⟩) HNW.out (.int .i64 nn)) (p := ⟨nb, 1, none⟩) HNW.out (.slice AA LL.length kk))
              go_wp2_with fail
              refine ⟨laterX_of HG9.out, ?_⟩
              clear u0 u1 f0 f1 nz HG
              have HG := HG9
              refine wpAnyS_take_allE [18] 0 rfl (by kernel_rfl) (by intro c a d v w h; cases d <;> exact h) (by kernel_rfl) (by simp; rfl) rfl (laterX_of HG.out) ?_
              repeat (go_big_quiet_step (fail))
              refine wpQuiet_nil ?_
              refine wpAnyH_done (by kernel_rfl) ?_ _
              go_wp2_with fail
              go_meet
              exact ⟨nb, AA, kk, LL, bb, nn, rfl, rfl, HN9, HO9, HAB, hide (fun q hq => ⟨(HQ.out q hq).1, (HQ.out q hq).2.1⟩), HT9⟩
          · go_wp2_with fail
            have HN := hide (Row.new V0 #[.int .i64 0, .slice none 0 0] 30)
            have HNO : Hid (w.heap.size ≤ V0.heap.size ∧ V0.heap.size ≠ rb ∧ V0.heap.size ≠ tb ∧ ∀ q, (Value.slice A l.length c).ownBlock = some q → q ≠ V0.heap.size) := hide ⟨HT.out.gr.size, by have := HT.out.res.1; omega, by have := HT.out.box.1; omega, fun q hq => by have := (HT.out.own.lt q hq).2; omega⟩
            have HNG : Hid (V0.heap.size ≠ d.g) := hide (by have := HT.out.st.lt; omega)
            have HNW : Hid (w5.heap.size ≤ V0.heap.size) := hide HG.out.size
            replace HT := hide (HT.out.alloc (.cells #[.int .i64 0, .slice none 0 0] 30))
            replace HG := hide (grown_new HG.out (.cells #[.int .i64 0, .slice none 0 0] 30))
            have HNL : Hid (V0.heap.size < (V0.alloc (.cells #[.int .i64 0, .slice none 0 0] 30)).heap.size) := hide (by simp)
            refine ⟨laterX_of HG.out, ?_⟩
            generalize V0.alloc (.cells #[.int .i64 0, .slice none 0 0] 30) = V1 at *
            generalize V0.heap.size = nb at *
            refine wpAnyS_only 3 (by kernel_rfl) (by simp; rfl) rfl rfl (fun K hK => ?_)
            go_wp2_with fail
            refine (pick_any d (N + 4 + 8 * k + 2 + 0) (k : Int) _ hd HT.out.st (by omega) (by omega)).mono ?_
            rintro e V2 ⟨⟨x, rfl, x0, x1, x2⟩, hs, hg⟩
            clear x1
            replace HN := hide (HN.out.grown hg (fun e => by injection e with e; have := HNG.out; omega))
            replace HNL := hide (Nat.lt_of_lt_of_le HNL.out hg.size)
            replace HT : Hid (TwAt d w rb tb (nd : Int) A c l (N + 4 + 8 * k + 2 + 2) V2) := hide (HT.out.draw hs hg)
            replace HG := hide (grown_trans HG.out hg)
            clear hs hg
            go_wp2_with fail
            refine ⟨laterX_of HG.out, ?_⟩
            refine wpAnyS_only 7 (by kernel_rfl) (by simp; rfl) rfl rfl (fun K hK => ?_)
            go_wp2_with fail
            refine (pick_any d (N + 4 + 8 * k + 2 + 2) 200 _ hd HT.out.st (by omega) (by omega)).mono ?_
            rintro e V3 ⟨⟨y, rfl, y0, y1, y2⟩, hs, hg⟩
            clear y1
            replace HN := hide (HN.out.grown hg (fun e => by injection e with e; have := HNG.out; omega))
            replace HNL := hide (Nat.lt_of_lt_of_le HNL.out hg.size)
            replace HT : Hid (TwAt d w rb tb (nd : Int) A c l (N + 4 + 8 * k + 2 + 4) V3) := hide (HT.out.draw hs hg)
            replace HG := hide (grown_trans HG.out hg)
            clear hs hg
            go_wp2_with fail
            refine ⟨laterX_of HG.out, ?_⟩
            have hw1 : IntKind.i64.wrap (1 + y) = 1 + y := IntWalk.i64_in _ (by omega)
            refine wpAnyS_take_allE [8] 9 rfl (by kernel_rfl) (by intro c a d v w h; cases d <;> exact h) (by kernel_rfl) (by simp; rfl) rfl (laterX_of HG.out) ?_
            repeat (go_big_quiet_step (fail))
            refine wpQuiet_nil ?_
            clear hw1
            refine wpAnyS_only 9 (by kernel_rfl) (by simp; rfl) rfl rfl (fun K hK => ?_)
            have HB := hide (Row.new V3 #[.int .i64 (30), .int .i64 (60), .int .i64 (90), .int .i64 (120), .int .i64 (1 + y)] 3)
            have HBG : Hid (V3.heap.size ≠ d.g) := hide (by have := HT.out.st.lt; omega)
            replace HN := hide (HN.out.alloc (.cells #[.int .i64 30, .int .i64 60, .int .i64 90, .int .i64 120, .int .i64 (1 + y)] 3))
            replace HNL : Hid (nb < (V3.alloc (.cells #[.int .i64 30, .int .i64 60, .int .i64 90, .int .i64 120, .int .i64 (1 + y)] 3)).heap.size) := hide (by have := HNL.out; simp; omega)
            replace HT := hide (HT.out.alloc (.cells #[.int .i64 30, .int .i64 60, .int .i64 90, .int .i64 120, .int .i64 (1 + y)] 3))
            replace HG := hide (grown_new HG.out (.cells #[.int .i64 30, .int .i64 60, .int .i64 90, .int .i64 120, .int .i64 (1 + y)] 3))
            refine wp_ints5 (30) (60) (90) (120) (1 + y) (.const (.int .i64 30)) (.const (.int .i64 60)) (.const (.int .i64 90)) (.const (.int .i64 120)) (.tmp 34) rfl rfl rfl rfl rfl rfl (hK _ _ ⟨laterX_of HG.out, ?_⟩)
            simp only [Act.put, List.setIfInBounds_toArray, List.set_cons_succ, List.set_cons_zero]
            generalize V3.alloc (.cells #[.int .i64 30, .int .i64 60, .int .i64 90, .int .i64 120, .int .i64 (1 + y)] 3) = V4 at *
            generalize V3.heap.size = lb at *
            refine wpAnyS_only 10 (by kernel_rfl) (by simp; rfl) rfl rfl (fun K hK => ?_)
            go_wp2_with fail
            refine (among_any d (N + 4 + 8 * k + 2 + 4) (some ⟨lb, 0, none⟩) 5 5 [30, 60, 90, 120, 1 + y] _ hd HT.out.st (by omega) rfl (by omega) (by omega) (by exact HB.out.rd) (fun b o sp e => by injection e with e; injection e with e; have := HBG.out; omega)).mono ?_
            rintro e V5 ⟨⟨z, rfl, -⟩, hs, hg⟩
            clear HB HBG
            replace HN := hide (HN.out.grown hg (fun e => by injection e with e; have := HNG.out; omega))
            replace HNL := hide (Nat.lt_of_lt_of_le HNL.out hg.size)
            replace HT : Hid (TwAt d w rb tb (nd : Int) A c l (N + 4 + 8 * k + 2 + 6) V5) := hide (HT.out.draw hs hg)
            replace HG := hide (grown_trans HG.out hg)
            clear hs hg
            go_wp2_with fail
            refine ⟨laterX_of HG.out, ?_⟩
            refine wpAnyS_take_allE [11] 6 rfl (by kernel_rfl) (by intro c a d v w h; cases d <;> exact h) (by kernel_rfl) (by simp; rfl) rfl (laterX_of HG.out) ?_
            repeat (go_big_quiet_step (fail))
            refine wpQuiet_nil ?_
            refine wpAnyS_only 12 (by kernel_rfl) (by simp; rfl) rfl rfl (fun K hK => ?_)
            go_wp2_with fail
            obtain ⟨p1, p2, p3, p4⟩ := own_pre HT.out.own
            have HP := hide (And.intro p1 (And.intro p2 (And.intro p3 p4)))
            clear p1 p2 p3 p4
            refine (specAddStreet_all (nd : Int) A l.length c l x (k : Int) z _ rfl HP.out.1 HP.out.2.1 HP.out.2.2.1 HP.out.2.2.2).mono ?_
            rintro e V6 ⟨⟨v', rfl, ho⟩, hq⟩
            have HAB := hide (fun h => ads_ok (nd := (nd : Int)) (l := l) (s := (x, (k : Int), z)) h)
            have HQ0 : Hid (∀ q, v'.ownBlock = some q → q ≠ rb ∧ q ≠ tb ∧ (V5.heap.size ≤ q ∧ q < V6.heap.size)) := hide (fun q hq => by have h1 := ho.lt q hq; have h2 := HT.out.res.1; have h3 := HT.out.box.1; refine ⟨by omega, by omega, h1⟩)
            have HO := hide (own_le ho HT.out.gr.size)
            clear ho HP
            replace HN := hide (HN.out.below hq)
            have HQ : Hid (∀ q, v'.ownBlock = some q → q ≠ rb ∧ q ≠ tb ∧ q ≠ nb) := hide (fun q hq => ⟨(HQ0.out q hq).1, (HQ0.out q hq).2.1, by have := (HQ0.out q hq).2.2; have := HNL.out; omega⟩)
            clear HQ0
            replace HNL := hide (Nat.lt_of_lt_of_le HNL.out hq.size)
            replace HT := hide (HT.out.below hq)
            replace HG := hide (grown_trans HG.out (grown_of_below hq _))
            clear hq
            generalize adsL (nd : Int) l (x, (k : Int), z) = LL at *
            generalize adsOk (nd : Int) l (x, (k : Int), z) = bb at *
            generalize adsN (nd : Int) l (x, (k : Int), z) = nn at *
            obtain ⟨AA, kk, hv, -⟩ := own_open HO.out
            subst hv
            go_wp2_with fail
            refine ⟨laterX_of HG.out, ?_⟩
            refine wpAnyS_take_allE [13, 14, 15] 2 rfl (by kernel_rfl) (by intro c a d v w h; cases d <;> exact h) (by kernel_rfl) (by simp; rfl) rfl (laterX_of HG.out) ?_
            repeat (go_big_quiet_step (fail))
            refine wpQuiet_nil ?_
            refine wpAnyS_only 17 (by kernel_rfl) (by simp; rfl) rfl rfl (fun K hK => ?_)
            have u0 := HN.out.2.1 0 _ rfl
            have u1 := HN.out.2.1 1 _ rfl
            have f0 := HN.out.free 0
            have f1 := HN.out.free 1
            have nz := HN.out.1
            have HN9 := hide ((HN.out.set (k := 0) (by simp) (.int .i64 nn)).set (k := 1) (by simp) (.slice AA LL.length kk))
            have HO9 := hide (own_put (p := ⟨nb, 1, none⟩) (own_put (p := ⟨nb, 0, none⟩) HO.out (fun q hq => (HQ.out q hq).2.2) (.int .i64 nn)) (fun q hq => (HQ.out q hq).2.2) (.slice AA LL.length kk))
            have HT9 := hide ((HT.out.put (p := ⟨nb, 0, none⟩) HNO.out.1 HNO.out.2.1 HNO.out.2.2.1 HNO.out.2.2.2 (.int .i64 nn)).put (p := ⟨nb, 1, none⟩) HNO.out.1 HNO.out.2.1 HNO.out.2.2.1 HNO.out.2.2.2 (.slice AA LL.length kk))
            have HG9 := hide (grown_put (grown_put HG.out (p := ⟨nb, 0, none⟩) HNW.out (.int .i64 nn)) (p := ⟨nb, 1, none⟩) HNW.out (.slice AA LL.length kk))
            go_wp2_with fail
            refine ⟨laterX_of HG9.out, ?_⟩
            clear u0 u1 f0 f1 nz HG
            have HG := HG9
            refine wpAnyS_take_allE [18] 0 rfl (by kernel_rfl) (by intro c a d v w h; cases d <;> exact h) (by kernel_rfl) (by simp; rfl) rfl (laterX_of HG.out) ?_
            repeat (go_big_quiet_step (fail))
            refine wpQuiet_nil ?_
            refine wpAnyH_done (by kernel_rfl) ?_ _
            go_wp2_with fail
            go_meet
            exact ⟨nb, AA, kk, LL, bb, nn, rfl, rfl, HN9, HO9, HAB, hide (fun q hq => ⟨(HQ.out q hq).1, (HQ.out q hq).2.1⟩), HT9⟩
        clear HT
        obtain ⟨nb, AA, kk, LL, bb, nn, rfl, rfl, HN, HO, HAB, HQ, HT⟩ := hcut
        cases bb with
        | false =>
          clear HN HO HAB HQ
          go_wp2
          go_roundg (gk - 1)
          case rel => exact ⟨k + 1, A, c, l, by go_num, by omega, hide (by have := HGK.out; omega), HLE, hide (HT.out.more (by omega))⟩
          case measure => have := HGK.out; omega
        | true =>
          obtain ⟨hnn, hLL⟩ := HAB.out rfl
          have HLL := hide hLL
          subst hnn
          have HT9 := hide (HT.out.set (nd : Int) HO.out HQ.out)
          have t0 := HT.out.box.2.1 0 _ rfl
          have t1 := HT.out.box.2.1 1 _ rfl
          have f0 := HT.out.box.free 0
          have f1 := HT.out.box.free 1
          have tz := HT.out.box.1
          have n0 := HN.out.2.1 0 _ rfl
          have n1 := HN.out.2.1 1 _ rfl
          have nz := HN.out.1
          clear hLL HAB
          go_wp2
          go_roundg (gk - 1)
          case rel => exact ⟨k + 1, AA, kk, LL, by go_num, by omega, hide (by have := HGK.out; omega), HLL, hide (HT9.out.more (by omega))⟩
          case measure => have := HGK.out; omega
    · have hlt' : ((k : Int) < (nd : Int)) = False := by simp; omega
      go_wp2_with fail
      clear hlt' t0 tz
      refine (pick_any d (N + 4 + 8 * k) 6 wr hd HT.out.st (by omega) (by omega)).mono ?_
      rintro e w6 ⟨⟨x, rfl, hx0, hx1, hx2⟩, hs, hg⟩
      replace HT : Hid (TwAt d w rb tb (nd : Int) A c l (N + 190) w6) := hide ((HT.out.draw hs hg).more (by omega))
      obtain ⟨m0, rfl⟩ := Int.eq_ofNat_of_zero_le hx0
      have hm6 : m0 ≤ 200 := by omega
      clear hs hg hx0 hx1 hx2 HGK hk hlt
      go_wp2_with fail
      refine (one_any d (N + 190) 16 _ hd HT.out.st (by omega) (by omega)).mono ?_
      rintro e w7 ⟨⟨b, rfl⟩, hs, hg⟩
      replace HT := hide (HT.out.draw hs hg)
      clear hs hg
      go_upto_if 46 with fail
      go_cut [7] (fun s7 wx => ∃ m : Nat, m ≤ 200 ∧ s7 = .int .i64 (m : Int) ∧ Hid (TwAt d w rb tb (nd : Int) A c l (N + 192) wx))
      case first =>
        cases b with
        | false =>
          go_wp2_with fail
          go_meet
          exact ⟨m0, hm6, rfl, HT⟩
        | true =>
          go_wp2_with fail
          go_meet
          exact ⟨200, by omega, rfl, HT⟩
      clear HT
      obtain ⟨m1, hm1, rfl, HT⟩ := hcut
      go_wp2_with fail
      go_loopg [7] 200 (fun g t wr => ∃ (m : Nat) (A : Option Addr) (c : Nat) (l : List StT), t = .int .i64 (m : Int) ∧ m ≤ 200 ∧ Hid (m ≤ g) ∧ Hid (l.length ≤ 40) ∧ Hid (TwAt d w rb tb (nd : Int) A c l (N + 200 + 8 * (200 - m)) wr))
      case atStart => exact ⟨m1, A, c, l, rfl, hm1, hide hm1, HLE, hide (HT.out.more (by omega))⟩
      case round =>
        clear HT HLE
        obtain ⟨m, A, c, l, rfl, hm, HGK, HLE, HT⟩ := hrel
        by_cases hgt : 0 < m
        · obtain ⟨q, rfl⟩ : ∃ q, m = q + 1 := ⟨m - 1, by omega⟩
          have hq : q < 200 := by omega
          replace HT : Hid (TwAt d w rb tb (nd : Int) A c l (N + 200 + 8 * (199 - q)) wr) := hide (HT.out.more (by omega))
          have hg0 : ((0 : Int) < ((q + 1 : Nat) : Int)) = True := by simp
          go_wp2_with fail
          clear hg0 hgt hm
          go_upto_region 16 with fail
          go_cut [8, 9] (fun sa sb wx => ∃ (nb : Nat) (AA : Option Addr) (kk : Nat) (LL : List StT) (bb : Bool) (nn : Int), sa = .pointer (some ⟨nb, 0, none⟩) ∧ sb = .bool bb ∧ Hid (Row wx nb [.int .i64 nn, .slice AA LL.length kk]) ∧ Hid (wx.ownsRow w.heap.size 34 3 (.slice AA LL.length kk) LL.length (LL.flatMap tcells)) ∧ Hid (bb = true → nn = (nd : Int) ∧ LL.length ≤ 40) ∧ Hid (∀ q, (Value.slice AA LL.length kk).ownBlock = some q → q ≠ rb ∧ q ≠ tb) ∧ Hid (TwAt d w rb tb (nd : Int) A c l (N + 200 + 8 * (199 - q) + 8) wx))
          case first => as_aux_lemma =>
            have t0 := HT.out.box.2.1 0 _ rfl
            have t1 := HT.out.box.2.1 1 _ rfl
            have tz := HT.out.box.1
            have tg : tb ≠ d.g := by have := HT.out.ord; omega
            go_wp2_with fail
            refine wpAnyS_start (fun w' => ∃ n : LaterX wr d.g, w' = n.w) (n := 23) (by kernel_rfl) rfl rfl ?_
            refine wpAnyS_take_allE [0, 1, 2, 3, 5, 6, 7, 9, 10] 14 rfl (by kernel_rfl) (by intro c a d v w h; cases d <;> exact h) (by kernel_rfl) (by simp; rfl) rfl (laterX_drew _ _) ?_
            repeat (go_big_quiet_step (fail))
            refine wpQuiet_nil ?_
            have HG : Hid (wr.grownBy wr.drew (some d.g)) := hide (grown_of_below (Below.refl _ _).drew _)
            replace HT := hide HT.out.drew
            clear t0 t1 tz tg
            generalize wr.drew = V0 at *
            refine wpAnyS_two 4 20 (by kernel_rfl) (by simp; rfl) (by simp; rfl) rfl rfl rfl rfl (fun K hK => ?_) (fun K hK => ?_)
            · go_wp2_with fail
              refine (pick_any d (N + 200 + 8 * (199 - q) + 0) (nd : Int) _ hd HT.out.st (by omega) (by omega)).mono ?_
              rintro e V1 ⟨⟨x, rfl, x0, x1, x2⟩, hs, hg⟩
              clear x1
              replace HT : Hid (TwAt d w rb tb (nd : Int) A c l (N + 200 + 8 * (199 - q) + 2) V1) := hide (HT.out.draw hs hg)
              replace HG := hide (grown_trans HG.out hg)
              clear hs hg
              go_wp2_with fail
              refine ⟨laterX_of HG.out, ?_⟩
              refine wpAnyS_two 8 20 (by kernel_rfl) (by simp; rfl) (by simp; rfl) rfl rfl rfl rfl (fun K hK => ?_) (fun K hK => ?_)
              · go_wp2_with fail
                refine (pick_any d (N + 200 + 8 * (199 - q) + 2) (nd : Int) _ hd HT.out.st (by omega) (by omega)).mono ?_
                rintro e V2 ⟨⟨x', rfl, x'0, x'1, x'2⟩, hs, hg⟩
                clear x'1
                replace HT : Hid (TwAt d w rb tb (nd : Int) A c l (N + 200 + 8 * (199 - q) + 4) V2) := hide (HT.out.draw hs hg)
                replace HG := hide (grown_trans HG.out hg)
                clear hs hg
                go_wp2_with fail
                refine ⟨laterX_of HG.out, ?_⟩
                refine wpAnyS_two 11 20 (by kernel_rfl) (by simp; rfl) (by simp; rfl) rfl rfl rfl rfl (fun K hK => ?_) (fun K hK => ?_)
                · go_wp2_with fail
                  refine (pick_any d (N + 200 + 8 * (199 - q) + 4) 400 _ hd HT.out.st (by omega) (by omega)).mono ?_
                  rintro e V3 ⟨⟨y, rfl, y0, y1, y2⟩, hs, hg⟩
                  clear y1
                  replace HT : Hid (TwAt d w rb tb (nd : Int) A c l (N + 200 + 8 * (199 - q) + 6) V3) := hide (HT.out.draw hs hg)
                  replace HG := hide (grown_trans HG.out hg)
                  clear hs hg
                  go_wp2_with fail
                  refine ⟨laterX_of HG.out, ?_⟩
                  have hw1 : IntKind.i64.wrap (1 + y) = 1 + y := IntWalk.i64_in _ (by omega)
                  refine wpAnyS_take_allE [12] 10 rfl (by kernel_rfl) (by intro c a d v w h; cases d <;> exact h) (by kernel_rfl) (by simp; rfl) rfl (laterX_of HG.out) ?_
                  repeat (go_big_quiet_step (fail))
                  refine wpQuiet_nil ?_
                  clear hw1
                  refine wpAnyS_two 13 20 (by kernel_rfl) (by simp; rfl) (by simp; rfl) rfl rfl rfl rfl (fun K hK => ?_) (fun K hK => ?_)
                  · have HB := hide (Row.new V3 #[.int .i64 (30), .int .i64 (60), .int .i64 (90), .int .i64 (300), .int .i64 (3600), .int .i64 (1 + y)] 3)
                    have HBG : Hid (V3.heap.size ≠ d.g) := hide (by have := HT.out.st.lt; omega)
                    replace HT := hide (HT.out.alloc (.cells #[.int .i64 30, .int .i64 60, .int .i64 90, .int .i64 300, .int .i64 3600, .int .i64 (1 + y)] 3))
                    replace HG := hide (grown_new HG.out (.cells #[.int .i64 30, .int .i64 60, .int .i64 90, .int .i64 300, .int .i64 3600, .int .i64 (1 + y)] 3))
                    refine wp_ints6 (30) (60) (90) (300) (3600) (1 + y) (.const (.int .i64 30)) (.const (.int .i64 60)) (.const (.int .i64 90)) (.const (.int .i64 300)) (.const (.int .i64 3600)) (.tmp 64) rfl rfl rfl rfl rfl rfl rfl (hK _ _ ⟨laterX_of HG.out, ?_⟩)
                    simp only [Act.put, List.setIfInBounds_toArray, List.set_cons_succ, List.set_cons_zero]
                    generalize V3.alloc (.cells #[.int .i64 30, .int .i64 60, .int .i64 90, .int .i64 300, .int .i64 3600, .int .i64 (1 + y)] 3) = V4 at *
                    generalize V3.heap.size = lb at *
                    refine wpAnyS_two 14 20 (by kernel_rfl) (by simp; rfl) (by simp; rfl) rfl rfl rfl rfl (fun K hK => ?_) (fun K hK => ?_)
                    · go_wp2_with fail
                      refine (among_any d (N + 200 + 8 * (199 - q) + 6) (some ⟨lb, 0, none⟩) 6 6 [30, 60, 90, 300, 3600, 1 + y] _ hd HT.out.st (by omega) rfl (by omega) (by omega) (by exact HB.out.rd) (fun b o sp e => by injection e with e; injection e with e; have := HBG.out; omega)).mono ?_
                      rintro e V5 ⟨⟨z, rfl, -⟩, hs, hg⟩
                      clear HB HBG
                      replace HT : Hid (TwAt d w rb tb (nd : Int) A c l (N + 200 + 8 * (199 - q) + 8) V5) := hide (HT.out.draw hs hg)
                      replace HG := hide (grown_trans HG.out hg)
                      clear hs hg
                      go_wp2_with fail
                      refine ⟨laterX_of HG.out, ?_⟩
                      refine wpAnyS_take_allE [15] 7 rfl (by kernel_rfl) (by intro c a d v w h; cases d <;> exact h) (by kernel_rfl) (by simp; rfl) rfl (laterX_of HG.out) ?_
                      repeat (go_big_quiet_step (fail))
                      refine wpQuiet_nil ?_
                      refine wpAnyS_two 16 20 (by kernel_rfl) (by simp; rfl) (by simp; rfl) rfl rfl rfl rfl (fun K hK => ?_) (fun K hK => ?_)
                      · go_wp2_with fail
                        obtain ⟨p1, p2, p3, p4⟩ := own_pre HT.out.own
                        have HP := hide (And.intro p1 (And.intro p2 (And.intro p3 p4)))
                        clear p1 p2 p3 p4
                        refine (specAddStreet_all (nd : Int) A l.length c l x x' z _ rfl HP.out.1 HP.out.2.1 HP.out.2.2.1 HP.out.2.2.2).mono ?_
                        rintro e V6 ⟨⟨v', rfl, ho⟩, hq⟩
                        have HAB := hide (fun h => ads_ok (nd := (nd : Int)) (l := l) (s := (x, x', z)) h)
                        have HQ0 : Hid (∀ q, v'.ownBlock = some q → q ≠ rb ∧ q ≠ tb ∧ (V5.heap.size ≤ q ∧ q < V6.heap.size)) := hide (fun q hq => by have h1 := ho.lt q hq; have h2 := HT.out.res.1; have h3 := HT.out.box.1; refine ⟨by omega, by omega, h1⟩)
                        have HO := hide (own_le ho HT.out.gr.size)
                        clear ho HP
                        replace HT := hide (HT.out.below hq)
                        replace HG := hide (grown_trans HG.out (grown_of_below hq _))
                        clear hq
                        generalize adsL (nd : Int) l (x, x', z) = LL at *
                        generalize adsOk (nd : Int) l (x, x', z) = bb at *
                        generalize adsN (nd : Int) l (x, x', z) = nn at *
                        obtain ⟨AA, kk, hv, -⟩ := own_open HO.out
                        subst hv
                        go_wp2_with fail
                        refine ⟨laterX_of HG.out, ?_⟩
                        refine wpAnyS_take_allE [17, 18, 19] 3 rfl (by kernel_rfl) (by intro c a d v w h; cases d <;> exact h) (by kernel_rfl) (by simp; rfl) rfl (laterX_of HG.out) ?_
                        repeat (go_big_quiet_step (fail))
                        refine wpQuiet_nil ?_
                        refine wpAnyS_only 20 (by kernel_rfl) (by simp; rfl) rfl rfl (fun K hK => ?_)
                        go_wp2_with fail
                        have HN := hide (Row.new V6 #[.int .i64 0, .slice none 0 0] 30)
                        have HNO : Hid (w.heap.size ≤ V6.heap.size ∧ V6.heap.size ≠ rb ∧ V6.heap.size ≠ tb ∧ ∀ q, (Value.slice A l.length c).ownBlock = some q → q ≠ V6.heap.size) := hide ⟨HT.out.gr.size, by have := HT.out.res.1; omega, by have := HT.out.box.1; omega, fun q hq => by have := (HT.out.own.lt q hq).2; omega⟩
                        have HNG : Hid (V6.heap.size ≠ d.g) := hide (by have := HT.out.st.lt; omega)
                        have HNW : Hid (wr.heap.size ≤ V6.heap.size) := hide HG.out.size
                        replace HO := hide (World.ownsRow.alloc HO.out (.cells #[.int .i64 0, .slice none 0 0] 30))
                        have HQ : Hid (∀ q, (Value.slice AA LL.length kk).ownBlock = some q → q ≠ rb ∧ q ≠ tb ∧ q ≠ V6.heap.size) := hide (fun q hq => ⟨(HQ0.out q hq).1, (HQ0.out q hq).2.1, by have := (HQ0.out q hq).2.2; omega⟩)
                        replace HT := hide (HT.out.alloc (.cells #[.int .i64 0, .slice none 0 0] 30))
                        replace HG := hide (grown_new HG.out (.cells #[.int .i64 0, .slice none 0 0] 30))
                        have HNL : Hid (V6.heap.size < (V6.alloc (.cells #[.int .i64 0, .slice none 0 0] 30)).heap.size) := hide (by simp)
                        refine ⟨laterX_of HG.out, ?_⟩
                        generalize V6.alloc (.cells #[.int .i64 0, .slice none 0 0] 30) = V7 at *
                        generalize V6.heap.size = nb at *
                        refine wpAnyS_only 21 (by kernel_rfl) (by simp; rfl) rfl rfl (fun K hK => ?_)
                        have u0 := HN.out.2.1 0 _ rfl
                        have u1 := HN.out.2.1 1 _ rfl
                        have f0 := HN.out.free 0
                        have f1 := HN.out.free 1
                        have nz := HN.out.1
                        have HN9 := hide ((HN.out.set (k := 0) (by simp) (.int .i64 nn)).set (k := 1) (by simp) (.slice AA LL.length kk))
                        have HO9 := hide (own_put (p := ⟨nb, 1, none⟩) (own_put (p := ⟨nb, 0, none⟩) HO.out (fun q hq => (HQ.out q hq).2.2) (.int .i64 nn)) (fun q hq => (HQ.out q hq).2.2) (.slice AA LL.length kk))
                        have HT9 := hide ((HT.out.put (p := ⟨nb, 0, none⟩) HNO.out.1 HNO.out.2.1 HNO.out.2.2.1 HNO.out.2.2.2 (.int .i64 nn)).put (p := ⟨nb, 1, none⟩) HNO.out.1 HNO.out.2.1 HNO.out.2.2.1 HNO.out.2.2.2 (.slice AA LL.length kk))
                        have HG9 := hide (grown_put (grown_put HG.out (p := ⟨nb, 0, none⟩) HNW.out (.int .i64 nn)) (p := ⟨nb, 1, none⟩) HNW.out (.slice AA LL.length kk))
                        go_wp2_with fail
                        refine ⟨laterX_of HG9.out, ?_⟩
                        clear u0 u1 f0 f1 nz HG
                        have HG := HG9
                        refine wpAnyS_take_allE [22] 0 rfl (by kernel_rfl) (by intro c a d v w h; cases d <;> exact h) (by kernel_rfl) (by simp; rfl) rfl (laterX_of HG.out) ?_
                        repeat (go_big_quiet_step (fail))
                        refine wpQuiet_nil ?_
                        refine wpAnyH_done (by kernel_rfl) ?_ _
                        go_wp2_with fail
                        go_meet
                        exact ⟨nb, AA, kk, LL, bb, nn, rfl, rfl, HN9, HO9, HAB, hide (fun q hq => ⟨(HQ.out q hq).1, (HQ.out q hq).2.1⟩), HT9⟩
                      · go_wp2_with fail
                        have HN := hide (Row.new V5 #[.int .i64 0, .slice none 0 0] 30)
                        have HNO : Hid (w.heap.size ≤ V5.heap.size ∧ V5.heap.size ≠ rb ∧ V5.heap.size ≠ tb ∧ ∀ q, (Value.slice A l.length c).ownBlock = some q → q ≠ V5.heap.size) := hide ⟨HT.out.gr.size, by have := HT.out.res.1; omega, by have := HT.out.box.1; omega, fun q hq => by have := (HT.out.own.lt q hq).2; omega⟩
                        have HNG : Hid (V5.heap.size ≠ d.g) := hide (by have := HT.out.st.lt; omega)
                        have HNW : Hid (wr.heap.size ≤ V5.heap.size) := hide HG.out.size
                        replace HT := hide (HT.out.alloc (.cells #[.int .i64 0, .slice none 0 0] 30))
                        replace HG := hide (grown_new HG.out (.cells #[.int .i64 0, .slice none 0 0] 30))
                        have HNL : Hid (V5.heap.size < (V5.alloc (.cells #[.int .i64 0, .slice none 0 0] 30)).heap.size) := hide (by simp)
                        refine ⟨laterX_of HG.out, ?_⟩
                        generalize V5.alloc (.cells #[.int .i64 0, .slice none 0 0] 30) = V6 at *
                        generalize V5.heap.size = nb at *
                        refine wpAnyS_only 16 (by kernel_rfl) (by simp; rfl) rfl rfl (fun K hK => ?_)
                        go_wp2_with fail
                        obtain ⟨p1, p2, p3, p4⟩ := own_pre HT.out.own
                        have HP := hide (And.intro p1 (And.intro p2 (And.intro p3 p4)))
                        clear p1 p2 p3 p4
                        refine (specAddStreet_all (nd : Int) A l.length c l x x' z _ rfl HP.out.1 HP.out.2.1 HP.out.2.2.1 HP.out.2.2.2).mono ?_
                        rintro e V7 ⟨⟨v', rfl, ho⟩, hq⟩
                        have HAB := hide (fun h => ads_ok (nd := (nd : Int)) (l := l) (s := (x, x', z)) h)
                        have HQ0 : Hid (∀ q, v'.ownBlock = some q → q ≠ rb ∧ q ≠ tb ∧ (V6.heap.size ≤ q ∧ q < V7.heap.size)) := hide (fun q hq => by have h1 := ho.lt q hq; have h2 := HT.out.res.1; have h3 := HT.out.box.1; refine ⟨by omega, by omega, h1⟩)
                        have HO := hide (own_le ho HT.out.gr.size)
                        clear ho HP
                        replace HN := hide (HN.out.below hq)
                        have HQ : Hid (∀ q, v'.ownBlock = some q → q ≠ rb ∧ q ≠ tb ∧ q ≠ nb) := hide (fun q hq => ⟨(HQ0.out q hq).1, (HQ0.out q hq).2.1, by have := (HQ0.out q hq).2.2; have := HNL.out; omega⟩)
                        clear HQ0
                        replace HNL := hide (Nat.lt_of_lt_of_le HNL.out hq.size)
                        replace HT := hide (HT.out.below hq)
                        replace HG := hide (grown_trans HG.out (grown_of_below hq _))
                        clear hq
                        generalize adsL (nd : Int) l (x, x', z) = LL at *
                        generalize adsOk (nd : Int) l (x, x', z) = bb at *
                        generalize adsN (nd : Int) l (x, x', z) = nn at *
                        obtain ⟨AA, kk, hv, -⟩ := own_open HO.out
                        subst hv
                        go_wp2_with fail
                        refine ⟨laterX_of HG.out, ?_⟩
                        refine wpAnyS_take_allE [17, 18, 19] 2 rfl (by kernel_rfl) (by intro c a d v w h; cases d <;> exact h) (by kernel_rfl) (by simp; rfl) rfl (laterX_of HG.out) ?_
                        repeat (go_big_quiet_step (fail))
                        refine wpQuiet_nil ?_
                        refine wpAnyS_only 21 (by kernel_rfl) (by simp; rfl) rfl rfl (fun K hK => ?_)
                        have u0 := HN.out.2.1 0 _ rfl
                        have u1 := HN.out.2.1 1 _ rfl
                        have f0 := HN.out.free 0
                        have f1 := HN.out.free 1
                        have nz := HN.out.1
                        have HN9 := hide ((HN.out.set (k := 0) (by simp) (.int .i64 nn)).set (k := 1) (by simp) (.slice AA LL.length kk))
                        have HO9 := hide (own_put (p := ⟨nb, 1, none⟩) (own_put (p := ⟨nb, 0, none⟩) HO.out (fun q hq => (HQ.out q hq).2.2) (.int .i64 nn)) (fun q hq => (HQ.out q hq).2.2) (.slice AA LL.length kk))
                        have HT9 := hide ((HT.out.put (p := ⟨nb, 0, none⟩) HNO.out.1 HNO.out.2.1 HNO.out.2.2.1 HNO.out.2.2.2 (.int .i64 nn)).put (p := ⟨nb, 1, none⟩) HNO.out.1 HNO.out.2.1 HNO.out.2.2.1 HNO.out.2.2.2 (.slice AA LL.length kk))
                        have HG9 := hide (grown_put (grown_put HG.out (p := ⟨nb, 0, none⟩) HNW.out (.int .i64 nn)) (p := ⟨nb, 1, none⟩) HNW.out (.slice AA LL.length kk))
                        go_wp2_with fail
                        refine ⟨laterX_of HG9.out, ?_⟩
                        clear u0 u1 f0 f1 nz HG
                        have HG := HG9
                        refine wpAnyS_take_allE [22] 0 rfl (by kernel_rfl) (by intro c a d v w h; cases d <;> exact h) (by kernel_rfl) (by simp; rfl) rfl (laterX_of HG.out) ?_
                        repeat (go_big_quiet_step (fail))
                        refine wpQuiet_nil ?_
                        refine wpAnyH_done (by kernel_rfl) ?_ _
                        go_wp2_with fail
                        go_meet
                        exact ⟨nb, AA, kk, LL, bb, nn, rfl, rfl, HN9, HO9, HAB, hide (fun q hq => ⟨(HQ.out q hq).1, (HQ.out q hq).2.1⟩), HT9⟩
                    · go_wp2_with fail
                      have HN := hide (Row.new V4 #[.int .i64 0, .slice none 0 0] 30)
                      have HNO : Hid (w.heap.size ≤ V4.heap.size ∧ V4.heap.size ≠ rb ∧ V4.heap.size ≠ tb ∧ ∀ q, (Value.slice A l.length c).ownBlock = some q → q ≠ V4.heap.size) := hide ⟨HT.out.gr.size, by have := HT.out.res.1; omega, by have := HT.out.box.1; omega, fun q hq => by have := (HT.out.own.lt q hq).2; omega⟩
                      have HNG : Hid (V4.heap.size ≠ d.g) := hide (by have := HT.out.st.lt; omega)
                      have HNW : Hid (wr.heap.size ≤ V4.heap.size) := hide HG.out.size
                      replace HB := hide (HB.out.alloc (.cells #[.int .i64 0, .slice none 0 0] 30))
                      replace HT := hide (HT.out.alloc (.cells #[.int .i64 0, .slice none 0 0] 30))
                      replace HG := hide (grown_new HG.out (.cells #[.int .i64 0, .slice none 0 0] 30))
                      have HNL : Hid (V4.heap.size < (V4.alloc (.cells #[.int .i64 0, .slice none 0 0] 30)).heap.size) := hide (by simp)
                      refine ⟨laterX_of HG.out, ?_⟩
                      generalize V4.alloc (.cells #[.int .i64 0, .slice none 0 0] 30) = V5 at *
                      generalize V4.heap.size = nb at *
                      refine wpAnyS_only 14 (by kernel_rfl) (by simp; rfl) rfl rfl (fun K hK => ?_)
                      go_wp2_with fail
                      refine (among_any d (N + 200 + 8 * (199 - q) + 6) (some ⟨lb, 0, none⟩) 6 6 [30, 60, 90, 300, 3600, 1 + y] _ hd HT.out.st (by omega) rfl (by omega) (by omega) (by exact HB.out.rd) (fun b o sp e => by injection e with e; injection e with e; have := HBG.out; omega)).mono ?_
                      rintro e V6 ⟨⟨z, rfl, -⟩, hs, hg⟩
                      clear HB HBG
                      replace HN := hide (HN.out.grown hg (fun e => by injection e with e; have := HNG.out; omega))
                      replace HNL := hide (Nat.lt_of_lt_of_le HNL.out hg.size)
                      replace HT : Hid (TwAt d w rb tb (nd : Int) A c l (N + 200 + 8 * (199 - q) + 8) V6) := hide (HT.out.draw hs hg)
                      replace HG := hide (grown_trans HG.out hg)
                      clear hs hg
                      go_wp2_with fail
                      refine ⟨laterX_of HG.out, ?_⟩
                      refine wpAnyS_take_allE [15] 6 rfl (by kernel_rfl) (by intro c a d v w h; cases d <;> exact h) (by kernel_rfl) (by simp; rfl) rfl (laterX_of HG.out) ?_
                      repeat (go_big_quiet_step (fail))
                      refine wpQuiet_nil ?_
                      refine wpAnyS_only 16 (by kernel_rfl) (by simp; rfl) rfl rfl (fun K hK => ?_)
                      go_wp2_with fail
                      obtain ⟨p1, p2, p3, p4⟩ := own_pre HT.out.own
                      have HP := hide (And.intro p1 (And.intro p2 (And.intro p3 p4)))
                      clear p1 p2 p3 p4
                      refine (specAddStreet_all (nd : Int) A l.length c l x x' z _ rfl HP.out.1 HP.out.2.1 HP.out.2.2.1 HP.out.2.2.2).mono ?_
                      rintro e V7 ⟨⟨v', rfl, ho⟩, hq⟩
                      have HAB := hide (fun h => ads_ok (nd := (nd : Int)) (l := l) (s := (x, x', z)) h)
                      have HQ0 : Hid (∀ q, v'.ownBlock = some q → q ≠ rb ∧ q ≠ tb ∧ (V6.heap.size ≤ q ∧ q < V7.heap.size)) := hide (fun q hq => by have h1 := ho.lt q hq; have h2 := HT.out.res.1; have h3 := HT.out.box.1; refine ⟨by omega, by omega, h1⟩)
                      have HO := hide (own_le ho HT.out.gr.size)
                      clear ho HP
                      replace HN := hide (HN.out.below hq)
                      have HQ : Hid (∀ q, v'.ownBlock = some q → q ≠ rb ∧ q ≠ tb ∧ q ≠ nb) := hide (fun q hq => ⟨(HQ0.out q hq).1, (HQ0.out q hq).2.1, by have := (HQ0.out q hq).2.2; have := HNL.out; omega⟩)
                      clear HQ0
                      replace HNL := hide (Nat.lt_of_lt_of_le HNL.out hq.size)
                      replace HT := hide (HT.out.below hq)
                      replace HG := hide (grown_trans HG.out (grown_of_below hq _))
                      clear hq
                      generalize adsL (nd : Int) l (x, x', z) = LL at *
                      generalize adsOk (nd : Int) l (x, x', z) = bb at *
                      generalize adsN (nd : Int) l (x, x', z) = nn at *
                      obtain ⟨AA, kk, hv, -⟩ := own_open HO.out
                      subst hv
                      go_wp2_with fail
                      refine ⟨laterX_of HG.out, ?_⟩
                      refine wpAnyS_take_allE [17, 18, 19] 2 rfl (by kernel_rfl) (by intro c a d v w h; cases d <;> exact h) (by kernel_rfl) (by simp; rfl) rfl (laterX_of HG.out) ?_
                      repeat (go_big_quiet_step (fail))
                      refine wpQuiet_nil ?_
                      refine wpAnyS_only 21 (by kernel_rfl) (by simp; rfl) rfl rfl (fun K hK => ?_)
                      have u0 := HN.out.2.1 0 _ rfl
                      have u1 := HN.out.2.1 1 _ rfl
                      have f0 := HN.out.free 0
                      have f1 := HN.out.free 1
                      have nz := HN.out.1
                      have HN9 := hide ((HN.out.set (k := 0) (by simp) (.int .i64 nn)).set (k := 1) (by simp) (.slice AA LL.length kk))
                      have HO9 := hide (own_put (p := ⟨nb, 1, none⟩) (own_put (p := ⟨nb, 0, none⟩) HO.out (fun q hq => (HQ.out q hq).2.2) (.int .i64 nn)) (fun q hq => (HQ.out q hq).2.2) (.slice AA LL.length kk))
                      have HT9 := hide ((HT.out.put (p := ⟨nb, 0, none⟩) HNO.out.1 HNO.out.2.1 HNO.out.2.2.1 HNO.out.2.2.2 (.int .i64 nn)).put (p := ⟨nb, 1, none⟩) HNO.out.1 HNO.out.2.1 HNO.out.2.2.1 HNO.out.2.2.2 (.slice AA LL.length kk))
                      have HG9 := hide (grown_put (grown_put HG.out (p := ⟨nb, 0, none⟩) HNW.out (.int .i64 nn)) (p := ⟨nb, 1, none⟩) HNW.out (.slice AA LL.length kk))
                      go_wp2_with fail
                      refine ⟨laterX_of HG9.out, ?_⟩
                      clear u0 u1 f0 f1 nz HG
                      have HG := HG9
                      refine wpAnyS_take_allE [22] 0 rfl (by kernel_rfl) (by intro c a d v w h; cases d <;> exact h) (by kernel_rfl) (by simp; rfl) rfl (laterX_of HG.out) ?_
                      repeat (go_big_quiet_step (fail))
                      refine wpQuiet_nil ?_
                      refine wpAnyH_done (by kernel_rfl) ?_ _
                      go_wp2_with fail
                      go_meet
                      exact ⟨nb, AA, kk, LL, bb, nn, rfl, rfl, HN9, HO9, HAB, hide (fun q hq => ⟨(HQ.out q hq).1, (HQ.out q hq).2.1⟩), HT9⟩
                  · go_wp2_with fail
                    have HN := hide (Row.new V3 #[.int .i64 0, .slice none 0 0] 30)
                    have HNO : Hid (w.heap.size ≤ V3.heap.size ∧ V3.heap.size ≠ rb ∧ V3.heap.size ≠ tb ∧ ∀ q, (Value.slice A l.length c).ownBlock = some q → q ≠ V3.heap.size) := hide ⟨HT.out.gr.size, by have := HT.out.res.1; omega, by have := HT.out.box.1; omega, fun q hq => by have := (HT.out.own.lt q hq).2; omega⟩
                    have HNG : Hid (V3.heap.size ≠ d.g) := hide (by have := HT.out.st.lt; omega)
                    have HNW : Hid (wr.heap.size ≤ V3.heap.size) := hide HG.out.size
                    replace HT := hide (HT.out.alloc (.cells #[.int .i64 0, .slice none 0 0] 30))
                    replace HG := hide (grown_new HG.out (.cells #[.int .i64 0, .slice none 0 0] 30))
                    have HNL : Hid (V3.heap.size < (V3.alloc (.cells #[.int .i64 0, .slice none 0 0] 30)).heap.size) := hide (by simp)
                    refine ⟨laterX_of HG.out, ?_⟩
                    generalize V3.alloc (.cells #[.int .i64 0, .slice none 0 0] 30) = V4 at *
                    generalize V3.heap.size = nb at *
                    refine wpAnyS_only 13 (by kernel_rfl) (by simp; rfl) rfl rfl (fun K hK => ?_)
                    have HB := hide (Row.new V4 #[.int .i64 (30), .int .i64 (60), .int .i64 (90), .int .i64 (300), .int .i64 (3600), .int .i64 (1 + y)] 3)
                    have HBG : Hid (V4.heap.size ≠ d.g) := hide (by have := HT.out.st.lt; omega)
                    replace HN := hide (HN.out.alloc (.cells #[.int .i64 30, .int .i64 60, .int .i64 90, .int .i64 300, .int .i64 3600, .int .i64 (1 + y)] 3))
                    replace HNL : Hid (nb < (V4.alloc (.cells #[.int .i64 30, .int .i64 60, .int .i64 90, .int .i64 300, .int .i64 3600, .int .i64 (1 + y)] 3)).heap.size) := hide (by have := HNL.out; simp; omega)
                    replace HT := hide (HT.out.alloc (.cells #[.int .i64 30, .int .i64 60, .int .i64 90, .int .i64 300, .int .i64 3600, .int .i64 (1 + y)] 3))
                    replace HG := hide (grown_new HG.out (.cells #[.int .i64 30, .int .i64 60, .int .i64 90, .int .i64 300, .int .i64 3600, .int .i64 (1 + y)] 3))
                    refine wp_ints6 (30) (60) (90) (300) (3600) (1 + y) (.const (.int .i64 30)) (.const (.int .i64 60)) (.const (.int .i64 90)) (.const (.int .i64 300)) (.const (.int .i64 3600)) (.tmp 64) rfl rfl rfl rfl rfl rfl rfl (hK _ _ ⟨laterX_of HG.out, ?_⟩)
                    simp only [Act.put, List.setIfInBounds_toArray, List.set_cons_succ, List.set_cons_zero]
                    generalize V4.alloc (.cells #[.int .i64 30, .int .i64 60, .int .i64 90, .int .i64 300, .int .i64 3600, .int .i64 (1 + y)] 3) = V5 at *
                    generalize V4.heap.size = lb at *
                    refine wpAnyS_only 14 (by kernel_rfl) (by simp; rfl) rfl rfl (fun K hK => ?_)
                    go_wp2_with fail
                    refine (among_any d (N + 200 + 8 * (199 - q) + 6) (some ⟨lb, 0, none⟩) 6 6 [30, 60, 90, 300, 3600, 1 + y] _ hd HT.out.st (by omega) rfl (by omega) (by omega) (by exact HB.out.rd) (fun b o sp e => by injection e with e; injection e with e; have := HBG.out; omega)).mono ?_
                    rintro e V6 ⟨⟨z, rfl, -⟩, hs, hg⟩
                    clear HB HBG
                    replace HN := hide (HN.out.grown hg (fun e => by injection e with e; have := HNG.out; omega))
                    replace HNL := hide (Nat.lt_of_lt_of_le HNL.out hg.size)
                    replace HT : Hid (TwAt d w rb tb (nd : Int) A c l (N + 200 + 8 * (199 - q) + 8) V6) := hide (HT.out.draw hs hg)
                    replace HG := hide (grown_trans HG.out hg)
                    clear hs hg
                    go_wp2_with fail
                    refine ⟨laterX_of HG.out, ?_⟩
                    refine wpAnyS_take_allE [15] 6 rfl (by kernel_rfl) (by intro c a d v w h; cases d <;> exact h) (by kernel_rfl) (by simp; rfl) rfl (laterX_of HG.out) ?_
                    repeat (go_big_quiet_step (fail))
                    refine wpQuiet_nil ?_
                    refine wpAnyS_only 16 (by kernel_rfl) (by simp; rfl) rfl rfl (fun K hK => ?_)
                    go_wp2_with fail
                    obtain ⟨p1, p2, p3, p4⟩ := own_pre HT.out.own
                    have HP := hide (And.intro p1 (And.intro p2 (And.intro p3 p4)))
                    clear p1 p2 p3 p4
                    refine (specAddStreet_all (nd : Int) A l.length c l x x' z _ rfl HP.out.1 HP.out.2.1 HP.out.2.2.1 HP.out.2.2.2).mono ?_
                    rintro e V7 ⟨⟨v', rfl, ho⟩, hq⟩
                    have HAB := hide (fun h => ads_ok (nd := (nd : Int)) (l := l) (s := (x, x', z)) h)
                    have HQ0 : Hid (∀ q, v'.ownBlock = some q → q ≠ rb ∧ q ≠ tb ∧ (V6.heap.size ≤ q ∧ q < V7.heap.size)) := hide (fun q hq => by have h1 := ho.lt q hq; have h2 := HT.out.res.1; have h3 := HT.out.box.1; refine ⟨by omega, by omega, h1⟩)
                    have HO := hide (own_le ho HT.out.gr.size)
                    clear ho HP
                    replace HN := hide (HN.out.below hq)
                    have HQ : Hid (∀ q, v'.ownBlock = some q → q ≠ rb ∧ q ≠ tb ∧ q ≠ nb) := hide (fun q hq => ⟨(HQ0.out q hq).1, (HQ0.out q hq).2.1, by have := (HQ0.out q hq).2.2; have := HNL.out; omega⟩)
                    clear HQ0
                    replace HNL := hide (Nat.lt_of_lt_of_le HNL.out hq.size)
                    replace HT := hide (HT.out.below hq)
                    replace HG := hide (grown_trans HG.out (grown_of_below hq _))
                    clear hq
                    generalize adsL (nd : Int) l (x, x', z) = LL at *
                    generalize adsOk (nd : Int) l (x, x', z) = bb at *
                    generalize adsN (nd : Int) l (x, x', z) = nn at *
                    obtain ⟨AA, kk, hv, -⟩ := own_open HO.out
                    subst hv
                    go_wp2_with fail
                    refine ⟨laterX_of HG.out, ?_⟩
                    refine wpAnyS_take_allE [17, 18, 19] 2 rfl (by kernel_rfl) (by intro c a d v w h; cases d <;> exact h) (by kernel_rfl) (by simp; rfl) rfl (laterX_of HG.out) ?_
                    repeat (go_big_quiet_step (fail))
                    refine wpQuiet_nil ?_
                    refine wpAnyS_only 21 (by kernel_rfl) (by simp; rfl) rfl rfl (fun K hK => ?_)
                    have u0 := HN.out.2.1 0 _ rfl
                    have u1 := HN.out.2.1 1 _ rfl
                    have f0 := HN.out.free 0
                    have f1 := HN.out.free 1
                    have nz := HN.out.1
                    have HN9 := hide ((HN.out.set (k := 0) (by simp) (.int .i64 nn)).set (k := 1) (by simp) (.slice AA LL.length kk))
                    have HO9 := hide (own_put (p := ⟨nb, 1, none⟩) (own_put (p := ⟨nb, 0, none⟩) HO.out (fun q hq => (HQ.out q hq).2.2) (.int .i64 nn)) (fun q hq => (HQ.out q hq).2.2) (.slice AA LL.length kk))
                    have HT9 := hide ((HT.out.put (p := ⟨nb, 0, none⟩) HNO.out.1 HNO.out.2.1 HNO.out.2.2.1 HNO.out.2.2.2 (.int .i64 nn)).put (p := ⟨nb, 1, none⟩) HNO.out.1 HNO.out.2.1 HNO.out.2.2.1 HNO.out.2.2.2 (.slice AA LL.length kk))
                    have HG9 := hide (grown_put (grown_put HG.out (p := ⟨nb, 0, none⟩) HNW.out (.int .i64 nn)) (p := ⟨nb, 1, none⟩) HNW.out (.slice AA LL.length kk))
                    go_wp2_with fail
                    refine ⟨laterX_of HG9.out, ?_⟩
                    clear u0 u1 f0 f1 nz HG
                    have HG := HG9
                    refine wpAnyS_take_allE [22] 0 rfl (by kernel_rfl) (by intro c a d v w h; cases d <;> exact h) (by kernel_rfl) (by simp; rfl) rfl (laterX_of HG.out) ?_
                    repeat (go_big_quiet_step (fail))
                    refine wpQuiet_nil ?_
                    refine wpAnyH_done (by kernel_rfl) ?_ _
                    go_wp2_with fail
                    go_meet
                    exact ⟨nb, AA, kk, LL, bb, nn, rfl, rfl, HN9, HO9, HAB, hide (fun q hq => ⟨(HQ.out q hq).1, (HQ.out q hq).2.1⟩), HT9⟩
                · go_wp2_with fail
                  have HN := hide (Row.new V2 #[.int .i64 0, .slice none 0 0] 30)
                  have HNO : Hid (w.heap.size ≤ V2.heap.size ∧ V2.heap.size ≠ rb ∧ V2.heap.size ≠ tb ∧ ∀ q, (Value.slice A l.length c).ownBlock = some q → q ≠ V2.heap.size) := hide ⟨HT.out.gr.size, by have := HT.out.res.1; omega, by have := HT.out.box.1; omega, fun q hq => by have := (HT.out.own.lt q hq).2; omega⟩
                  have HNG : Hid (V2.heap.size ≠ d.g) := hide (by have := HT.out.st.lt; omega)
                  have HNW : Hid (wr.heap.size ≤ V2.heap.size) := hide HG.out.size
                  replace HT := hide (HT.out.alloc (.cells #[.int .i64 0, .slice none 0 0] 30))
                  replace HG := hide (grown_new HG.out (.cells #[.int .i64 0, .slice none 0 0] 30))
                  have HNL : Hid (V2.heap.size < (V2.alloc (.cells #[.int .i64 0, .slice none 0 0] 30)).heap.size) := hide (by simp)
                  refine ⟨laterX_of HG.out, ?_⟩
                  generalize V2.alloc (.cells #[.int .i64 0, .slice none 0 0] 30) = V3 at *
                  generalize V2.heap.size = nb at *
                  refine wpAnyS_only 11 (by kernel_rfl) (by simp; rfl) rfl rfl (fun K hK => ?_)
                  go_wp2_with fail
                  refine (pick_any d (N + 200 + 8 * (199 - q) + 4) 400 _ hd HT.out.st (by omega) (by omega)).mono ?_
                  rintro e V4 ⟨⟨y, rfl, y0, y1, y2⟩, hs, hg⟩
                  clear y1
                  replace HN := hide (HN.out.grown hg (fun e => by injection e with e; have := HNG.out; omega))
                  replace HNL := hide (Nat.lt_of_lt_of_le HNL.out hg.size)
                  replace HT : Hid (TwAt d w rb tb (nd : Int) A c l (N + 200 + 8 * (199 - q) + 6) V4) := hide (HT.out.draw hs hg)
                  replace HG := hide (grown_trans HG.out hg)
                  clear hs hg
                  go_wp2_with fail
                  refine ⟨laterX_of HG.out, ?_⟩
                  have hw1 : IntKind.i64.wrap (1 + y) = 1 + y := IntWalk.i64_in _ (by omega)
                  refine wpAnyS_take_allE [12] 9 rfl (by kernel_rfl) (by intro c a d v w h; cases d <;> exact h) (by kernel_rfl) (by simp; rfl) rfl (laterX_of HG.out) ?_
                  repeat (go_big_quiet_step (fail))
                  refine wpQuiet_nil ?_
                  clear hw1
                  refine wpAnyS_only 13 (by kernel_rfl) (by simp; rfl) rfl rfl (fun K hK => ?_)
                  have HB := hide (Row.new V4 #[.int .i64 (30), .int .i64 (60), .int .i64 (90), .int .i64 (300), .int .i64 (3600), .int .i64 (1 + y)] 3)
                  have HBG : Hid (V4.heap.size ≠ d.g) := hide (by have := HT.out.st.lt; omega)
                  replace HN := hide (HN.out.alloc (.cells #[.int .i64 30, .int .i64 60, .int .i64 90, .int .i64 300, .int .i64 3600, .int .i64 (1 + y)] 3))
                  replace HNL : Hid (nb < (V4.alloc (.cells #[.int .i64 30, .int .i64 60, .int .i64 90, .int .i64 300, .int .i64 3600, .int .i64 (1 + y)] 3)).heap.size) := hide (by have := HNL.out; simp; omega)
                  replace HT := hide (HT.out.alloc (.cells #[.int .i64 30, .int .i64 60, .int .i64 90, .int .i64 300, .int .i64 3600, .int .i64 (1 + y)] 3))
                  replace HG := hide (grown_new HG.out (.cells #[.int .i64 30, .int .i64 60, .int .i64 90, .int .i64 300, .int .i64 3600, .int .i64 (1 + y)] 3))
                  refine wp_ints6 (30) (60) (90) (300) (3600) (1 + y) (.const (.int .i64 30)) (.const (.int .i64 60)) (.const (.int .i64 90)) (.const (.int .i64 300)) (.const (.int .i64 3600)) (.tmp 64) rfl rfl rfl rfl rfl rfl rfl (hK _ _ ⟨laterX_of HG.out, ?_⟩)
                  simp only [Act.put, List.setIfInBounds_toArray, List.set_cons_succ, List.set_cons_zero]
                  generalize V4.alloc (.cells #[.int .i64 30, .int .i64 60, .int .i64 90, .int .i64 300, .int .i64 3600, .int .i64 (1 + y)] 3) = V5 at *
                  generalize V4.heap.size = lb at *
                  refine wpAnyS_only 14 (by kernel_rfl) (by simp; rfl) rfl rfl (fun K hK => ?_)
                  go_wp2_with fail
                  refine (among_any d (N + 200 + 8 * (199 - q) + 6) (some ⟨lb, 0, none⟩) 6 6 [30, 60, 90, 300, 3600, 1 + y] _ hd HT.out.st (by omega) rfl (by omega) (by omega) (by exact HB.out.rd) (fun b o sp e => by injection e with e; injection e with e; have := HBG.out; omega)).mono ?_
                  rintro e V6 ⟨⟨z, rfl, -⟩, hs, hg⟩
                  clear HB HBG
                  replace HN := hide (HN.out.grown hg (fun e => by injection e with e; have := HNG.out; omega))
                  replace HNL := hide (Nat.lt_of_lt_of_le HNL.out hg.size)
                  replace HT : Hid (TwAt d w rb tb (nd : Int) A c l (N + 200 + 8 * (199 - q) + 8) V6) := hide (HT.out.draw hs hg)
                  replace HG := hide (grown_trans HG.out hg)
                  clear hs hg
                  go_wp2_with fail
                  refine ⟨laterX_of HG.out, ?_⟩
                  refine wpAnyS_take_allE [15] 6 rfl (by kernel_rfl) (by intro c a d v w h; cases d <;> exact h) (by kernel_rfl) (by simp; rfl) rfl (laterX_of HG.out) ?_
                  repeat (go_big_quiet_step (fail))
                  refine wpQuiet_nil ?_
                  refine wpAnyS_only 16 (by kernel_rfl) (by simp; rfl) rfl rfl (fun K hK => ?_)
                  go_wp2_with fail
                  obtain ⟨p1, p2, p3, p4⟩ := own_pre HT.out.own
                  have HP := hide (And.intro p1 (And.intro p2 (And.intro p3 p4)))
                  clear p1 p2 p3 p4
                  refine (specAddStreet_all (nd : Int) A l.length c l x x' z _ rfl HP.out.1 HP.out.2.1 HP.out.2.2.1 HP.out.2.2.2).mono ?_
                  rintro e V7 ⟨⟨v', rfl, ho⟩, hq⟩
                  have HAB := hide (fun h => ads_ok (nd := (nd : Int)) (l := l) (s := (x, x', z)) h)
                  have HQ0 : Hid (∀ q, v'.ownBlock = some q → q ≠ rb ∧ q ≠ tb ∧ (V6.heap.size ≤ q ∧ q < V7.heap.size)) := hide (fun q hq => by have h1 := ho.lt q hq; have h2 := HT.out.res.1; have h3 := HT.out.box.1; refine ⟨by omega, by omega, h1⟩)
                  have HO := hide (own_le ho HT.out.gr.size)
                  clear ho HP
                  replace HN := hide (HN.out.below hq)
                  have HQ : Hid (∀ q, v'.ownBlock = some q → q ≠ rb ∧ q ≠ tb ∧ q ≠ nb) := hide (fun q hq => ⟨(HQ0.out q hq).1, (HQ0.out q hq).2.1, by have := (HQ0.out q hq).2.2; have := HNL.out; omega⟩)
                  clear HQ0
                  replace HNL := hide (Nat.lt_of_lt_of_le HNL.out hq.size)
                  replace HT := hide (HT.out.below hq)
                  replace HG := hide (grown_trans HG.out (grown_of_below hq _))
                  clear hq
                  generalize adsL (nd : Int) l (x, x', z) = LL at *
                  generalize adsOk (nd : Int) l (x, x', z) = bb at *
                  generalize adsN (nd : Int) l (x, x', z) = nn at *
                  obtain ⟨AA, kk, hv, -⟩ := own_open HO.out
                  subst hv
                  go_wp2_with fail
                  refine ⟨laterX_of HG.out, ?_⟩
                  refine wpAnyS_take_allE [17, 18, 19] 2 rfl (by kernel_rfl) (by intro c a d v w h; cases d <;> exact h) (by kernel_rfl) (by simp; rfl) rfl (laterX_of HG.out) ?_
                  repeat (go_big_quiet_step (fail))
                  refine wpQuiet_nil ?_
                  refine wpAnyS_only 21 (by kernel_rfl) (by simp; rfl) rfl rfl (fun K hK => ?_)
                  have u0 := HN.out.2.1 0 _ rfl
                  have u1 := HN.out.2.1 1 _ rfl
                  have f0 := HN.out.free 0
                  have f1 := HN.out.free 1
                  have nz := HN.out.1
                  have HN9 := hide ((HN.out.set (k := 0) (by simp) (.int .i64 nn)).set (k := 1) (by simp) (.slice AA LL.length kk))
                  have HO9 := hide (own_put (p := ⟨nb, 1, none⟩) (own_put (p := ⟨nb, 0, none⟩) HO.out (fun q hq => (HQ.out q hq).2.2) (.int .i64 nn)) (fun q hq => (HQ.out q hq).2.2) (.slice AA LL.length kk))
                  have HT9 := hide ((HT.out.put (p := ⟨nb, 0, none⟩) HNO.out.1 HNO.out.2.1 HNO.out.2.2.1 HNO.out.2.2.2 (.int .i64 nn)).put (p := ⟨nb, 1, none⟩) HNO.out.1 HNO.out.2.1 HNO.out.2.2.1 HNO.out.2.2.2 (.slice AA LL.length kk))
                  have HG9 := hide (grown_put (grown_put HG.out (p := ⟨nb, 0, none⟩) HNW.out (.int .i64 nn)) (p := ⟨nb, 1, none⟩) HNW.out (.slice AA LL.length kk))
                  go_wp2_with fail
                  refine ⟨laterX_of HG9.out, ?_⟩
                  clear u0 u1 f0 f1 nz HG
                  have HG := HG9
                  refine wpAnyS_take_allE [22] 0 rfl (by kernel_rfl) (by intro c a d v w h; cases d <;> exact h) (by kernel_rfl) (by simp; rfl) rfl (laterX_of HG.out) ?_
                  repeat (go_big_quiet_step (fail))
                  refine wpQuiet_nil ?_
                  refine wpAnyH_done (by kernel_rfl) ?_ _
                  go_wp2_with fail
                  go_meet
                  exact ⟨nb, AA, kk, LL, bb, nn, rfl, rfl, HN9, HO9, HAB, hide (fun q hq => ⟨(HQ.out q hq).1, (HQ.out q hq).2.1⟩), HT9⟩
              · go_wp2_with fail
                have HN := hide (Row.new V1 #[.int .i64 0, .slice none 0 0] 30)
                have HNO : Hid (w.heap.size ≤ V1.heap.size ∧ V1.heap.size ≠ rb ∧ V1.heap.size ≠ tb ∧ ∀ q, (Value.slice A l.length c).ownBlock = some q → q ≠ V1.heap.size) := hide ⟨HT.out.gr.size, by have := HT.out.res.1; omega, by have := HT.out.box.1; omega, fun q hq => by have := (HT.out.own.lt q hq).2; omega⟩
                have HNG : Hid (V1.heap.size ≠ d.g) := hide (by have := HT.out.st.lt; omega)
                have HNW : Hid (wr.heap.size ≤ V1.heap.size) := hide HG.out.size
                replace HT := hide (HT.out.alloc (.cells #[.int .i64 0, .slice none 0 0] 30))
                replace HG := hide (grown_new HG.out (.cells #[.int .i64 0, .slice none 0 0] 30))
                have HNL : Hid (V1.heap.size < (V1.alloc (.cells #[.int .i64 0, .slice none 0 0] 30)).heap.size) := hide (by simp)
                refine ⟨laterX_of HG.out, ?_⟩
                generalize V1.alloc (.cells #[.int .i64 0, .slice none 0 0] 30) = V2 at *
                generalize V1.heap.size = nb at *
                refine wpAnyS_only 8 (by kernel_rfl) (by simp; rfl) rfl rfl (fun K hK => ?_)
                go_wp2_with fail
                refine (pick_any d (N + 200 + 8 * (199 - q) + 2) (nd : Int) _ hd HT.out.st (by omega) (by omega)).mono ?_
                rintro e V3 ⟨⟨x', rfl, x'0, x'1, x'2⟩, hs, hg⟩
                clear x'1
                replace HN := hide (HN.out.grown hg (fun e => by injection e with e; have := HNG.out; omega))
                replace HNL := hide (Nat.lt_of_lt_of_le HNL.out hg.size)
                replace HT : Hid (TwAt d w rb tb (nd : Int) A c l (N + 200 + 8 * (199 - q) + 4) V3) := hide (HT.out.draw hs hg)
                replace HG := hide (grown_trans HG.out hg)
                clear hs hg
                go_wp2_with fail
                refine ⟨laterX_of HG.out, ?_⟩
                refine wpAnyS_only 11 (by kernel_rfl) (by simp; rfl) rfl rfl (fun K hK => ?_)
                go_wp2_with fail
                refine (pick_any d (N + 200 + 8 * (199 - q) + 4) 400 _ hd HT.out.st (by omega) (by omega)).mono ?_
                rintro e V4 ⟨⟨y, rfl, y0, y1, y2⟩, hs, hg⟩
                clear y1
                replace HN := hide (HN.out.grown hg (fun e => by injection e with e; have := HNG.out; omega))
                replace HNL := hide (Nat.lt_of_lt_of_le HNL.out hg.size)
                replace HT : Hid (TwAt d w rb tb (nd : Int) A c l (N + 200 + 8 * (199 - q) + 6) V4) := hide (HT.out.draw hs hg)
                replace HG := hide (grown_trans HG.out hg)
                clear hs hg
                go_wp2_with fail
                refine ⟨laterX_of HG.out, ?_⟩
                have hw1 : IntKind.i64.wrap (1 + y) = 1 + y := IntWalk.i64_in _ (by omega)
                refine wpAnyS_take_allE [12] 9 rfl (by kernel_rfl) (by intro c a d v w h; cases d <;> exact h) (by kernel_rfl) (by simp; rfl) rfl (laterX_of HG.out) ?_
                repeat (go_big_quiet_step (fail))
                refine wpQuiet_nil ?_
                clear hw1
                refine wpAnyS_only 13 (by kernel_rfl) (by simp; rfl) rfl rfl (fun K hK => ?_)
                have HB := hide (Row.new V4 #[.int .i64 (30), .int .i64 (60), .int .i64 (90), .int .i64 (300), .int .i64 (3600), .int .i64 (1 + y)] 3)
                have HBG : Hid (V4.heap.size ≠ d.g) := hide (by have := HT.out.st.lt; omega)
                replace HN := hide (HN.out.alloc (.cells #[.int .i64 30, .int .i64 60, .int .i64 90, .int .i64 300, .int .i64 3600, .int .i64 (1 + y)] 3))
                replace HNL : Hid (nb < (V4.alloc (.cells #[.int .i64 30, .int .i64 60, .int .i64 90, .int .i64 300, .int .i64 3600, .int .i64 (1 + y)] 3)).heap.size) := hide (by have := HNL.out; simp; omega)
                replace HT := hide (HT.out.alloc (.cells #[.int .i64 30, .int .i64 60, .int .i64 90, .int .i64 300, .int .i64 3600, .int .i64 (1 + y)] 3))
                replace HG := hide (grown_new HG.out (.cells #[.int .i64 30, .int .i64 60, .int .i64 90, .int .i64 300, .int .i64 3600, .int .i64 (1 + y)] 3))
                refine wp_ints6 (30) (60) (90) (300) (3600) (1 + y) (.const (.int .i64 30)) (.const (.int .i64 60)) (.const (.int .i64 90)) (.const (.int .i64 300)) (.const (.int .i64 3600)) (.tmp 64) rfl rfl rfl rfl rfl rfl rfl (hK _ _ ⟨laterX_of HG.out, ?_⟩)
                simp only [Act.put, List.setIfInBounds_toArray, List.set_cons_succ, List.set_cons_zero]
                generalize V4.alloc (.cells #[.int .i64 30, .int .i64 60, .int .i64 90, .int .i64 300, .int .i64 3600, .int .i64 (1 + y)] 3) = V5 at *
                generalize V4.heap.size = lb at *
                refine wpAnyS_only 14 (by kernel_rfl) (by simp; rfl) rfl rfl (fun K hK => ?_)
                go_wp2_with fail
                refine (among_any d (N + 200 + 8 * (199 - q) + 6) (some ⟨lb, 0, none⟩) 6 6 [30, 60, 90, 300, 3600, 1 + y] _ hd HT.out.st (by omega) rfl (by omega) (by omega) (by exact HB.out.rd) (fun b o sp e => by injection e with e; injection e with e; have := HBG.out; omega)).mono ?_
                rintro e V6 ⟨⟨z, rfl, -⟩, hs, hg⟩
                clear HB HBG
                replace HN := hide (HN.out.grown hg (fun e => by injection e with e; have := HNG.out; omega))
                replace HNL := hide (Nat.lt_of_lt_of_le HNL.out hg.size)
                replace HT : Hid (TwAt d w rb tb (nd : Int) A c l (N + 200 + 8 * (199 - q) + 8) V6) := hide (HT.out.draw hs hg)
                replace HG := hide (grown_trans HG.out hg)
                clear hs hg
                go_wp2_with fail
                refine ⟨laterX_of HG.out, ?_⟩
                refine wpAnyS_take_allE [15] 6 rfl (by kernel_rfl) (by intro c a d v w h; cases d <;> exact h) (by kernel_rfl) (by simp; rfl) rfl (laterX_of HG.out) ?_
                repeat (go_big_quiet_step (fail))
                refine wpQuiet_nil ?_
                refine wpAnyS_only 16 (by kernel_rfl) (by simp; rfl) rfl rfl (fun K hK => ?_)
                go_wp2_with fail
                obtain ⟨p1, p2, p3, p4⟩ := own_pre HT.out.own
                have HP := hide (And.intro p1 (And.intro p2 (And.intro p3 p4)))
                clear p1 p2 p3 p4
                refine (specAddStreet_all (nd : Int) A l.length c l x x' z _ rfl HP.out.1 HP.out.2.1 HP.out.2.2.1 HP.out.2.2.2).mono ?_
                rintro e V7 ⟨⟨v', rfl, ho⟩, hq⟩
                have HAB := hide (fun h => ads_ok (nd := (nd : Int)) (l := l) (s := (x, x', z)) h)
                have HQ0 : Hid (∀ q, v'.ownBlock = some q → q ≠ rb ∧ q ≠ tb ∧ (V6.heap.size ≤ q ∧ q < V7.heap.size)) := hide (fun q hq => by have h1 := ho.lt q hq; have h2 := HT.out.res.1; have h3 := HT.out.box.1; refine ⟨by omega, by omega, h1⟩)
                have HO := hide (own_le ho HT.out.gr.size)
                clear ho HP
                replace HN := hide (HN.out.below hq)
                have HQ : Hid (∀ q, v'.ownBlock = some q → q ≠ rb ∧ q ≠ tb ∧ q ≠ nb) := hide (fun q hq => ⟨(HQ0.out q hq).1, (HQ0.out q hq).2.1, by have := (HQ0.out q hq).2.2; have := HNL.out; omega⟩)
                clear HQ0
                replace HNL := hide (Nat.lt_of_lt_of_le HNL.out hq.size)
                replace HT := hide (HT.out.below hq)
                replace HG := hide (grown_trans HG.out (grown_of_below hq _))
                clear hq
                generalize adsL (nd : Int) l (x, x', z) = LL at *
                generalize adsOk (nd : Int) l (x, x', z) = bb at *
                generalize adsN (nd : Int) l (x, x', z) = nn at *
                obtain ⟨AA, kk, hv, -⟩ := own_open HO.out
                subst hv
                go_wp2_with fail
                refine ⟨laterX_of HG.out, ?_⟩
                refine wpAnyS_take_allE [17, 18, 19] 2 rfl (by kernel_rfl) (by intro c a d v w h; cases d <;> exact h) (by kernel_rfl) (by simp; rfl) rfl (laterX_of HG.out) ?_
                repeat (go_big_quiet_step (fail))
                refine wpQuiet_nil ?_
                refine wpAnyS_only 21 (by kernel_rfl) (by simp; rfl) rfl rfl (fun K hK => ?_)
                have u0 := HN.out.2.1 0 _ rfl
                have u1 := HN.out.2.1 1 _ rfl
                have f0 := HN.out.free 0
                have f1 := HN.out.free 1
                have nz := HN.out.1
                have HN9 := hide ((HN.out.set (k := 0) (by simp) (.int .i64 nn)).set (k := 1) (by simp) (.slice AA LL.length kk))
                have HO9 := hide (own_put (p := ⟨nb, 1, none⟩) (own_put (p := ⟨nb, 0, none⟩) HO.out (fun q hq => (HQ.out q hq).2.2) (.int .i64 nn)) (fun q hq => (HQ.out q hq).2.2) (.slice AA LL.length kk))
                have HT9 := hide ((HT.out.put (p := ⟨nb, 0, none⟩) HNO.out.1 HNO.out.2.1 HNO.out.2.2.1 HNO.out.2.2.2 (.int .i64 nn)).put (p := ⟨nb, 1, none⟩) HNO.out.1 HNO.out.2.1 HNO.out.2.2.1 HNO.out.2.2.2 (.slice AA LL.length kk))
                have HG9 := hide (grown_put (grown_put HG.out (p := ⟨nb, 0, none⟩) HNW.out (.int .i64 nn)) (p := ⟨nb, 1, none⟩) HNW.out (.slice AA LL.length kk))
                go_wp2_with fail
                refine ⟨laterX_of HG9.out, ?_⟩
                clear u0 u1 f0 f1 nz HG
                have HG := HG9
                refine wpAnyS_take_allE [22] 0 rfl (by kernel_rfl) (by intro c a d v w h; cases d <;> exact h) (by kernel_rfl) (by simp; rfl) rfl (laterX_of HG.out) ?_
                repeat (go_big_quiet_step (fail))
                refine wpQuiet_nil ?_
                refine wpAnyH_done (by kernel_rfl) ?_ _
                go_wp2_with fail
                go_meet
                exact ⟨nb, AA, kk, LL, bb, nn, rfl, rfl, HN9, HO9, HAB, hide (fun q hq => ⟨(HQ.out q hq).1, (HQ.out q hq).2.1⟩), HT9⟩
            · go_wp2_with fail
              have HN := hide (Row.new V0 #[.int .i64 0, .slice none 0 0] 30)
              have HNO : Hid (w.heap.size ≤ V0.heap.size ∧ V0.heap.size ≠ rb ∧ V0.heap.size ≠ tb ∧ ∀ q, (Value.slice A l.length c).ownBlock = some q → q ≠ V0.heap.size) := hide ⟨HT.out.gr.size, by have := HT.out.res.1; omega, by have := HT.out.box.1; omega, fun q hq => by have := (HT.out.own.lt q hq).2; omega⟩
              have HNG : Hid (V0.heap.size ≠ d.g) := hide (by have := HT.out.st.lt; omega)
              have HNW : Hid (wr.heap.size ≤ V0.heap.size) := hide HG.out.size
              replace HT := hide (HT.out.alloc (.cells #[.int .i64 0, .slice none 0 0] 30))
              replace HG := hide (grown_new HG.out (.cells #[.int .i64 0, .slice none 0 0] 30))
              have HNL : Hid (V0.heap.size < (V0.alloc (.cells #[.int .i64 0, .slice none 0 0] 30)).heap.size) := hide (by simp)
              refine ⟨laterX_of HG.out, ?_⟩
              generalize V0.alloc (.cells #[.int .i64 0, .slice none 0 0] 30) = V1 at *
              generalize V0.heap.size = nb at *
              refine wpAnyS_only 4 (by kernel_rfl) (by simp; rfl) rfl rfl (fun K hK => ?_)
              go_wp2_with fail
              refine (pick_any d (N + 200 + 8 * (199 - q) + 0) (nd : Int) _ hd HT.out.st (by omega) (by omega)).mono ?_
              rintro e V2 ⟨⟨x, rfl, x0, x1, x2⟩, hs, hg⟩
              clear x1
              replace HN := hide (HN.out.grown hg (fun e => by injection e with e; have := HNG.out; omega))
              replace HNL := hide (Nat.lt_of_lt_of_le HNL.out hg.size)
              replace HT : Hid (TwAt d w rb tb (nd : Int) A c l (N + 200 + 8 * (199 - q) + 2) V2) := hide (HT.out.draw hs hg)
              replace HG := hide (grown_trans HG.out hg)
              clear hs hg
              go_wp2_with fail
              refine ⟨laterX_of HG.out, ?_⟩
              refine wpAnyS_only 8 (by kernel_rfl) (by simp; rfl) rfl rfl (fun K hK => ?_)
              go_wp2_with fail
              refine (pick_any d (N + 200 + 8 * (199 - q) + 2) (nd : Int) _ hd HT.out.st (by omega) (by omega)).mono ?_
              rintro e V3 ⟨⟨x', rfl, x'0, x'1, x'2⟩, hs, hg⟩
              clear x'1
              replace HN := hide (HN.out.grown hg (fun e => by injection e with e; have := HNG.out; omega))
              replace HNL := hide (Nat.lt_of_lt_of_le HNL.out hg.size)
              replace HT : Hid (TwAt d w rb tb (nd : Int) A c l (N + 200 + 8 * (199 - q) + 4) V3) := hide (HT.out.draw hs hg)
              replace HG := hide (grown_trans HG.out hg)
              clear hs hg
              go_wp2_with fail
              refine ⟨laterX_of HG.out, ?_⟩
              refine wpAnyS_only 11 (by kernel_rfl) (by simp; rfl) rfl rfl (fun K hK => ?_)
              go_wp2_with fail
              refine (pick_any d (N + 200 + 8 * (199 - q) + 4) 400 _ hd HT.out.st (by omega) (by omega)).mono ?_
              rintro e V4 ⟨⟨y, rfl, y0, y1, y2⟩, hs, hg⟩
              clear y1
              replace HN := hide (HN.out.grown hg (fun e => by injection e with e; have := HNG.out; omega))
              replace HNL := hide (Nat.lt_of_lt_of_le HNL.out hg.size)
              replace HT : Hid (TwAt d w rb tb (nd : Int) A c l (N + 200 + 8 * (199 - q) + 6) V4) := hide (HT.out.draw hs hg)
              replace HG := hide (grown_trans HG.out hg)
              clear hs hg
              go_wp2_with fail
              refine ⟨laterX_of HG.out, ?_⟩
              have hw1 : IntKind.i64.wrap (1 + y) = 1 + y := IntWalk.i64_in _ (by omega)
              refine wpAnyS_take_allE [12] 9 rfl (by kernel_rfl) (by intro c a d v w h; cases d <;> exact h) (by kernel_rfl) (by simp; rfl) rfl (laterX_of HG.out) ?_
              repeat (go_big_quiet_step (fail))
              refine wpQuiet_nil ?_
              clear hw1
              refine wpAnyS_only 13 (by kernel_rfl) (by simp; rfl) rfl rfl (fun K hK => ?_)
              have HB := hide (Row.new V4 #[.int .i64 (30), .int .i64 (60), .int .i64 (90), .int .i64 (300), .int .i64 (3600), .int .i64 (1 + y)] 3)
              have HBG : Hid (V4.heap.size ≠ d.g) := hide (by have := HT.out.st.lt; omega)
              replace HN := hide (HN.out.alloc (.cells #[.int .i64 30, .int .i64 60, .int .i64 90, .int .i64 300, .int .i64 3600, .int .i64 (1 + y)] 3))
              replace HNL : Hid (nb < (V4.alloc (.cells #[.int .i64 30, .int .i64 60, .int .i64 90, .int .i64 300, .int .i64 3600, .int .i64 (1 + y)] 3)).heap.size) := hide (by have := HNL.out; simp; omega)
              replace HT := hide (HT.out.alloc (.cells #[.int .i64 30, .int .i64 60, .int .i64 90, .int .i64 300, .int .i64 3600, .int .i64 (1 + y)] 3))
              replace HG := hide (grown_new HG.out (.cells #[.int .i64 30, .int .i64 60, .int .i64 90, .int .i64 300, .int .i64 3600, .int .i64 (1 + y)] 3))
              refine wp_ints6 (30) (60) (90) (300) (3600) (1 + y) (.const (.int .i64 30)) (.const (.int .i64 60)) (.const (.int .i64 90)) (.const (.int .i64 300)) (.const (.int .i64 3600)) (.tmp 64) rfl rfl rfl rfl rfl rfl rfl (hK _ _ ⟨laterX_of HG.out, ?_⟩)
              simp only [Act.put, List.setIfInBounds_toArray, List.set_cons_succ, List.set_cons_zero]
              generalize V4.alloc (.cells #[.int .i64 30, .int .i64 60, .int .i64 90, .int .i64 300, .int .i64 3600, .int .i64 (1 + y)] 3) = V5 at *
              generalize V4.heap.size = lb at *
              refine wpAnyS_only 14 (by kernel_rfl) (by simp; rfl) rfl rfl (fun K hK => ?_)
              go_wp2_with fail
              refine (among_any d (N + 200 + 8 * (199 - q) + 6) (some ⟨lb, 0, none⟩) 6 6 [30, 60, 90, 300, 3600, 1 + y] _ hd HT.out.st (by omega) rfl (by omega) (by omega) (by exact HB.out.rd) (fun b o sp e => by injection e with e; injection e with e; have := HBG.out; omega)).mono ?_
              rintro e V6 ⟨⟨z, rfl, -⟩, hs, hg⟩
              clear HB HBG
              replace HN := hide (HN.out.grown hg (fun e => by injection e with e; have := HNG.out; omega))
              replace HNL := hide (Nat.lt_of_lt_of_le HNL.out hg.size)
              replace HT : Hid (TwAt d w rb tb (nd : Int) A c l (N + 200 + 8 * (199 - q) + 8) V6) := hide (HT.out.draw hs hg)
              replace HG := hide (grown_trans HG.out hg)
              clear hs hg
              go_wp2_with fail
              refine ⟨laterX_of HG.out, ?_⟩
              refine wpAnyS_take_allE [15] 6 rfl (by kernel_rfl) (by intro c a d v w h; cases d <;> exact h) (by kernel_rfl) (by simp; rfl) rfl (laterX_of HG.out) ?_
              repeat (go_big_quiet_step (fail))
              refine wpQuiet_nil ?_
              refine wpAnyS_only 16 (by kernel_rfl) (by simp; rfl) rfl rfl (fun K hK => ?_)
              go_wp2_with fail
              obtain ⟨p1, p2, p3, p4⟩ := own_pre HT.out.own
              have HP := hide (And.intro p1 (And.intro p2 (And.intro p3 p4)))
              clear p1 p2 p3 p4
              refine (specAddStreet_all (nd : Int) A l.length c l x x' z _ rfl HP.out.1 HP.out.2.1 HP.out.2.2.1 HP.out.2.2.2).mono ?_
              rintro e V7 ⟨⟨v', rfl, ho⟩, hq⟩
              have HAB := hide (fun h => ads_ok (nd := (nd : Int)) (l := l) (s := (x, x', z)) h)
              have HQ0 : Hid (∀ q, v'.ownBlock = some q → q ≠ rb ∧ q ≠ tb ∧ (V6.heap.size ≤ q ∧ q < V7.heap.size)) := hide (fun q hq => by have h1 := ho.lt q hq; have h2 := HT.out.res.1; have h3 := HT.out.box.1; refine ⟨by omega, by omega, h1⟩)
              have HO := hide (own_le ho HT.out.gr.size)
              clear ho HP
              replace HN := hide (HN.out.below hq)
              have HQ : Hid (∀ q, v'.ownBlock = some q → q ≠ rb ∧ q ≠ tb ∧ q ≠ nb) := hide (fun q hq => ⟨(HQ0.out q hq).1, (HQ0.out q hq).2.1, by have := (HQ0.out q hq).2.2; have := HNL.out; omega⟩)
              clear HQ0
              replace HNL := hide (Nat.lt_of_lt_of_le HNL.out hq.size)
              replace HT := hide (HT.out.below hq)
              replace HG := hide (grown_trans HG.out (grown_of_below hq _))
              clear hq
              generalize adsL (nd : Int) l (x, x', z) = LL at *
              generalize adsOk (nd : Int) l (x, x', z) = bb at *
              generalize adsN (nd : Int) l (x, x', z) = nn at *
              obtain ⟨AA, kk, hv, -⟩ := own_open HO.out
              subst hv
              go_wp2_with fail
              refine ⟨laterX_of HG.out, ?_⟩
              refine wpAnyS_take_allE [17, 18, 19] 2 rfl (by kernel_rfl) (by intro c a d v w h; cases d <;> exact h) (by kernel_rfl) (by simp; rfl) rfl (laterX_of HG.out) ?_
              repeat (go_big_quiet_step (fail))
              refine wpQuiet_nil ?_
              refine wpAnyS_only 21 (by kernel_rfl) (by simp; rfl) rfl rfl (fun K hK => ?_)
              have u0 := HN.out.2.1 0 _ rfl
              have u1 := HN.out.2.1 1 _ rfl
              have f0 := HN.out.free 0
              have f1 := HN.out.free 1
              have nz := HN.out.1
              have HN9 := hide ((HN.out.set (k := 0) (by simp) (.int .i64 nn)).set (k := 1) (by simp) (.slice AA LL.length kk))
              have HO9 := hide (own_put (p := ⟨nb, 1, none⟩) (own_put (p := ⟨nb, 0, none⟩) HO.out (fun q hq => (HQ.out q hq).2.2) (.int .i64 nn)) (fun q hq => (HQ.out q hq).2.2) (.slice AA LL.length kk))
              have HT9 := hide ((HT.out.put (p := ⟨nb, 0, none⟩) HNO.out.1 HNO.out.2.1 HNO.out.2.2.1 HNO.out.2.2.2 (.int .i64 nn)).put (p := ⟨nb, 1, none⟩) HNO.out.1 HNO.out.2.1 HNO.out.2.2.1 HNO.out.2.2.2 (.slice AA LL.length kk))
              have HG9 := hide (grown_put (grown_put HG.out (p := ⟨nb, 0, none⟩) HNW.out (.int .i64 nn)) (p := ⟨nb, 1, none⟩) HNW.out (.slice AA LL.length kk))
              go_wp2_with fail
              refine ⟨laterX_of HG9.out, ?_⟩
              clear u0 u1 f0 f1 nz HG
              have HG := HG9
              refine wpAnyS_take_allE [22] 0 rfl (by kernel_rfl) (by intro c a d v w h; cases d <;> exact h) (by kernel_rfl) (by simp; rfl) rfl (laterX_of HG.out) ?_
              repeat (go_big_quiet_step (fail))
              refine wpQuiet_nil ?_
              refine wpAnyH_done (by kernel_rfl) ?_ _
              go_wp2_with fail
              go_meet
              exact ⟨nb, AA, kk, LL, bb, nn, rfl, rfl, HN9, HO9, HAB, hide (fun q hq => ⟨(HQ.out q hq).1, (HQ.out q hq).2.1⟩), HT9⟩
          clear HT
          obtain ⟨nb, AA, kk, LL, bb, nn, rfl, rfl, HN, HO, HAB, HQ, HT⟩ := hcut
          cases bb with
          | false =>
            clear HN HO HAB HQ
            go_wp2
            go_roundg (gk - 1)
            case rel => exact ⟨q, A, c, l, by go_num, by omega, hide (by have := HGK.out; omega), HLE, hide (HT.out.more (by omega))⟩
            case measure => have := HGK.out; omega
          | true =>
            obtain ⟨hnn, hLL⟩ := HAB.out rfl
            have HLL := hide hLL
            subst hnn
            have HT9 := hide (HT.out.set (nd : Int) HO.out HQ.out)
            have t0 := HT.out.box.2.1 0 _ rfl
            have t1 := HT.out.box.2.1 1 _ rfl
            have f0 := HT.out.box.free 0
            have f1 := HT.out.box.free 1
            have tz := HT.out.box.1
            have n0 := HN.out.2.1 0 _ rfl
            have n1 := HN.out.2.1 1 _ rfl
            have nz := HN.out.1
            clear hLL HAB
            go_wp2
            go_roundg (gk - 1)
            case rel => exact ⟨q, AA, kk, LL, by go_num, by omega, hide (by have := HGK.out; omega), HLL, hide (HT9.out.more (by omega))⟩
            case measure => have := HGK.out; omega
        · obtain rfl : m = 0 := by omega
          have t0 := HT.out.box.2.1 0 _ rfl
          have t1 := HT.out.box.2.1 1 _ rfl
          have tz := HT.out.box.1
          have u0 := HT.out.res.2.1 0 _ rfl
          have u1 := HT.out.res.2.1 1 _ rfl
          have f0 := HT.out.res.free 0
          have f1 := HT.out.res.free 1
          have uz := HT.out.res.1
          go_wp2
          exact bodyPost_ret (v := .agg #[.int .i64 (nd : Int), .slice A l.length c]) (by simp [results, Try.results69, go_sem, *]) rfl (HT.out.done (by omega) HLE.out (by omega) _ _)
end Go.Proofs.Ytbkhejkncmgdeaa

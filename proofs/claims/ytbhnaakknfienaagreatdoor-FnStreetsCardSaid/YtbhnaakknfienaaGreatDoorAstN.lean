/- A street added: the reference's way. -/
import Derived.Test.YtbhnaakknfienaaGreatDoorAstA
import Derived.Deep.DeepCutAuto
import Derived.Deep.CutBlock
namespace Go.Proofs.YtbhnaakknfienaaGreatDoor
open Go.RowKit
set_option linter.unusedVariables false

/-- 'append' of nothing to a row of the call's own. -/
theorem wp_append_nil {P : Program} {Q : Exit → Act → World → Prop} {o : Oper} {a : Act} {w : World} {K : Act → World → Prop} (s x : Operand) (t : TypeId) (ho : o.op = Op.call { callee := Callee.builtin Builtin.append, args := #[s, x], argTypes := #[t, t] })
  (base : Nat) (e : TypeId) (i : TypeInfo) (size : Nat) (ht : P.underlying t = some (.slice e)) (hi : P.info? e = some i)
  (v : Value) (n : Nat) (xs : List Value) (hs : a.eval s = v) (hown : w.ownsRow base e size v n xs) (c : Nat) (hx : a.eval x = .slice none 0 c) (h : K (a.put o.dst v) w) : Oper.wp P o a w K Q := by
 have hrun : (Builtin.append_ #[t, t] o.type #[v, .slice none 0 c]).run P w = .ok v w := by
  rcases hown.2 with ⟨rfl, rfl⟩ | ⟨g, cap, cur, rfl, _, _, hnc, _⟩
  ·
   simp [Builtin.append_, run_underlying ht, sizeOf, typeInfo, hi, Builtin.lenOf, Builtin.firstCells]
  ·
   simp [Builtin.append_, run_underlying ht, sizeOf, typeInfo, hi, Builtin.lenOf, Builtin.firstCells, hnc, storeCells]
 unfold Oper.wp execOp
 simp only [ho, resolve, invoke, builtin, Sem.run_bind, Sem.run_pure, Result.andThen_ok, List.map_toArray, List.map_cons, List.map_nil, hs, hx, hrun]
 exact h

theorem turn_mm' (a b c : Int) : turnT (a, b, c) = (min a b, max a b, c) := by
 unfold turnT
 dsimp only
 split
 ·
  rw [Int.min_eq_right (by omega), Int.max_eq_left (by omega)]
 ·
  rw [Int.min_eq_left (by omega), Int.max_eq_right (by omega)]

set_option maxRecDepth 100000 in
set_option maxHeartbeats 8000000 in
theorem specAddStreet_all (nd : Int) (A : Option Addr) (n c : Nat) (l : List (Int × Int × Int)) (s0 s1 s2 : Int) (w : World) (hn : n = l.length) (hnc : n ≤ c) (hc : c ≤ maxLen) (hr : Rd w A (l.flatMap tcells)) (hA : (A = none ∧ n = 0 ∧ c = 0) ∨ ∃ b off, A = some ⟨b, off, none⟩) :
  Calls Tryz.prog 19 #[.agg #[.int .i64 nd, .slice A n c], .agg #[.int .i64 s0, .int .i64 s1, .int .i64 s2]] w (AdsPost nd l (s0, s1, s2) w) := by
 have Hn := hide hn
 have Hr := hide hr
 have HC := hide (And.intro hnc hc)
 have hm : n ≤ maxLen := Nat.le_trans hnc hc
 have HA := hide hA
 have Hm := hide hm
 clear hn hr hA hnc hc hm
 go_enter Tryz.func19, Tryz.ntmps19
 go_wp2_with fail
 have HF := hide (((Row.new w #[.int .i64 nd, .slice A n c] 26).alloc (.cells #[.int .i64 s0, .int .i64 s1, .int .i64 s2] 39)).alloc (.cells #[.int .i64 0, .slice none 0 0] 26))
 have HS : Hid (Row (((w.alloc (.cells #[.int .i64 nd, .slice A n c] 26)).alloc (.cells #[.int .i64 s0, .int .i64 s1, .int .i64 s2] 39)).alloc (.cells #[.int .i64 0, .slice none 0 0] 26)) (w.heap.size + 1) [.int .i64 s0, .int .i64 s1, .int .i64 s2]) := hide (by
  have h := (Row.new (w.alloc (.cells #[.int .i64 nd, .slice A n c] 26)) #[.int .i64 s0, .int .i64 s1, .int .i64 s2] 39).alloc (.cells #[.int .i64 0, .slice none 0 0] 26)
  rwa [show (w.alloc (.cells #[.int .i64 nd, .slice A n c] 26)).heap.size = w.heap.size + 1 by simp] at h)
 have HG : Hid (Row (((w.alloc (.cells #[.int .i64 nd, .slice A n c] 26)).alloc (.cells #[.int .i64 s0, .int .i64 s1, .int .i64 s2] 39)).alloc (.cells #[.int .i64 0, .slice none 0 0] 26)) (w.heap.size + 1 + 1) [.int .i64 0, .slice none 0 0]) := hide (by
  have h := Row.new ((w.alloc (.cells #[.int .i64 nd, .slice A n c] 26)).alloc (.cells #[.int .i64 s0, .int .i64 s1, .int .i64 s2] 39)) #[.int .i64 0, .slice none 0 0] 26
  rwa [show ((w.alloc (.cells #[.int .i64 nd, .slice A n c] 26)).alloc (.cells #[.int .i64 s0, .int .i64 s1, .int .i64 s2] 39)).heap.size = w.heap.size + 1 + 1 by simp] at h)
 have HW := hide (below_alloc (below_alloc (below_alloc (Below.refl w.heap.size w) (.cells #[.int .i64 nd, .slice A n c] 26)) (.cells #[.int .i64 s0, .int .i64 s1, .int .i64 s2] 39)) (.cells #[.int .i64 0, .slice none 0 0] 26))
 generalize ((w.alloc (.cells #[.int .i64 nd, .slice A n c] 26)).alloc (.cells #[.int .i64 s0, .int .i64 s1, .int .i64 s2] 39)).alloc (.cells #[.int .i64 0, .slice none 0 0] 26) = W0 at *
 have Q := hide (toGood_any nd A n c l W0 Hn.out Hm.out (Hr.out.below HW.out))
 cases ht : townB nd l with
 | false =>
  have HE := hide (show adsOk nd l (s0, s1, s2) = false by rw [adsOk, ht]; rfl)
  rw [ht] at Q
  clear ht
  refine Q.out.mono ?_
  rintro e w1 ⟨rfl, hq⟩
  replace HW := hide (below_step HW.out hq)
  replace HF := hide (HF.out.below hq)
  replace HS := hide (HS.out.below hq)
  replace HG := hide (HG.out.below hq)
  clear hq
  have e0 := HG.out.2.1 0 _ rfl
  have e1 := HG.out.2.1 1 _ rfl
  have f0 := HG.out.free 0
  have f1 := HG.out.free 1
  go_wp2
  exact bodyPost_ret (v := .tuple #[.agg #[.int .i64 0, .slice none 0 0], .bool false]) (by simp [results, Tryz.results19, go_sem, *]) rfl (AdsPost.no HE.out ((HW.out.setCell (by simp; omega) _).setCell (by simp; omega) _))
 | true =>
  rw [ht] at Q
  have HTB := hide ht
  obtain ⟨k0, rfl, hk0⟩ := townB_ok ht
  have h1 := hk0.lo
  have h2 := hk0.hi
  have hn40 : n ≤ 40 := by have := hk0.len; have := Hn.out; omega
  clear ht hk0
  refine Q.out.mono ?_
  rintro e w1 ⟨rfl, hq⟩
  replace HW := hide (below_step HW.out hq)
  replace HF := hide (HF.out.below hq)
  replace HS := hide (HS.out.below hq)
  replace HG := hide (HG.out.below hq)
  clear hq
  have a0 := HF.out.2.1 0 _ rfl
  have a1 := HF.out.2.1 1 _ rfl
  have r0 := HS.out.2.1 0 _ rfl
  have r1 := HS.out.2.1 1 _ rfl
  have r2 := HS.out.2.1 2 _ rfl
  have az := HF.out.1
  have rz := HS.out.1
  have QF := hide (toStreetB_any (k0 : Int) s0 s1 s2 w1 (by omega) (by omega))
  cases hf : strB (k0 : Int) (s0, s1, s2) with
  | false =>
   have HE := hide (show adsOk k0 l (s0, s1, s2) = false by rw [adsOk, hf, Bool.and_false]; rfl)
   rw [hf] at QF
   clear hf
   go_wp2_with fail
   refine QF.out.mono ?_
   rintro e w2 ⟨rfl, hq⟩
   clear a0 a1 r0 r1 r2 az rz
   replace HW := hide (below_step HW.out hq)
   replace HF := hide (HF.out.below hq)
   replace HS := hide (HS.out.below hq)
   replace HG := hide (HG.out.below hq)
   clear hq
   have e0 := HG.out.2.1 0 _ rfl
   have e1 := HG.out.2.1 1 _ rfl
   have f0 := HG.out.free 0
   have f1 := HG.out.free 1
   go_wp2
   exact bodyPost_ret (v := .tuple #[.agg #[.int .i64 0, .slice none 0 0], .bool false]) (by simp [results, Tryz.results19, go_sem, *]) rfl (AdsPost.no HE.out ((HW.out.setCell (by simp; omega) _).setCell (by simp; omega) _))
  | true =>
   rw [hf] at QF
   have HFT := hide hf
   clear hf
   go_wp2_with fail
   refine QF.out.mono ?_
   rintro e w2 ⟨rfl, hq⟩
   clear a0 a1 r0 r1 r2 az rz
   replace HW := hide (below_step HW.out hq)
   replace HF := hide (HF.out.below hq)
   replace HS := hide (HS.out.below hq)
   replace HG := hide (HG.out.below hq)
   clear hq
   have a0 := HF.out.2.1 0 _ rfl
   have a1 := HF.out.2.1 1 _ rfl
   have r0 := HS.out.2.1 0 _ rfl
   have r1 := HS.out.2.1 1 _ rfl
   have r2 := HS.out.2.1 2 _ rfl
   have az := HF.out.1
   have rz := HS.out.1
   go_wp2_with fail
   refine (toFind_any (k0 : Int) A n c l s0 s1 _ Hn.out (by omega) (Hr.out.below HW.out)).mono ?_
   rintro e w3 ⟨rfl, hq⟩
   clear a0 a1 r0 r1 r2 az rz
   replace HW := hide (below_step HW.out hq)
   replace HF := hide (HF.out.below hq)
   replace HS := hide (HS.out.below hq)
   replace HG := hide (HG.out.below hq)
   clear hq
   have a0 := HF.out.2.1 0 _ rfl
   have a1 := HF.out.2.1 1 _ rfl
   have r0 := HS.out.2.1 0 _ rfl
   have r1 := HS.out.2.1 1 _ rfl
   have r2 := HS.out.2.1 2 _ rfl
   have az := HF.out.1
   have rz := HS.out.1
   by_cases hs : 0 ≤ stFind l s0 s1
   ·
    have HE := hide (show adsOk k0 l (s0, s1, s2) = false by rw [adsOk, decide_eq_false (show ¬ stFind l (s0, s1, s2).1 (s0, s1, s2).2.1 < 0 by show ¬ stFind l s0 s1 < 0; omega), Bool.and_false]; rfl)
    have e0 := HG.out.2.1 0 _ rfl
    have e1 := HG.out.2.1 1 _ rfl
    have f0 := HG.out.free 0
    have f1 := HG.out.free 1
    go_wp2
    exact bodyPost_ret (v := .tuple #[.agg #[.int .i64 0, .slice none 0 0], .bool false]) (by simp [results, Tryz.results19, go_sem, *]) rfl (AdsPost.no HE.out ((HW.out.setCell (by simp; omega) _).setCell (by simp; omega) _))
   ·
    have HFN := hide (show stFind l s0 s1 < 0 by omega)
    go_upto_region 3 with fail
    go_cut [6] (fun s6 wx => ∃ tb : Nat, s6 = .pointer (some ⟨tb, 0, none⟩) ∧ Hid (Row wx tb [.int .i64 (min s0 s1), .int .i64 (max s0 s1), .int .i64 s2]) ∧ Hid (Below w3.heap.size w3 wx))
    case first => as_aux_lemma =>
     go_wp2_with fail
     refine wpAnyS_start (fun w' => ∃ n : Later w3, w' = n.w) (n := 15) (by kernel_rfl) rfl rfl ?_
     refine wpAnyS_take_all [0, 1, 2, 3, 5, 6, 7, 8, 10, 11] 5 rfl (by kernel_rfl) (by intro c a d v w h; cases d <;> exact h) (by kernel_rfl) (by simp; rfl) rfl (later_drew _) ?_
     repeat (go_big_quiet_step (fail))
     refine wpQuiet_nil ?_
     clear a0 a1 r0 r1 r2 az rz
     have HL : Hid (Below w3.heap.size w3 w3.drew) := hide (Below.refl _ _).drew
     generalize w3.drew = V0 at *
     refine wpAnyS_two 4 13 (by kernel_rfl) (by simp; rfl) (by simp; rfl) rfl rfl rfl rfl (fun K hK => ?_) (fun K hK => ?_)
     ·
      go_wp2_with fail
      refine (l1Least_any s0 s1 _).mono ?_
      rintro e w' ⟨rfl, rfl⟩
      go_wp2_with fail
      refine ⟨later_of HL.out, ?_⟩
      refine wpAnyS_two 9 13 (by kernel_rfl) (by simp; rfl) (by simp; rfl) rfl rfl rfl rfl (fun K hK => ?_) (fun K hK => ?_)
      ·
       go_wp2_with fail
       refine (l1Most_any s0 s1 _).mono ?_
       rintro e w' ⟨rfl, rfl⟩
       go_wp2_with fail
       refine ⟨later_of HL.out, ?_⟩
       refine wpAnyS_two 12 13 (by kernel_rfl) (by simp; rfl) (by simp; rfl) rfl rfl rfl rfl (fun K hK => ?_) (fun K hK => ?_)
       ·
        go_wp2_with fail
        refine ⟨later_of HL.out, ?_⟩
        refine wpAnyS_only 13 (by kernel_rfl) (by simp; rfl) rfl rfl (fun K hK => ?_)
        go_wp2_with fail
        have HX := hide (Row.new V0 #[.int .i64 0, .int .i64 0, .int .i64 0] 39)
        have HTL : Hid (w3.heap.size ≤ V0.heap.size) := hide HL.out.size
        have HL' := hide (below_alloc HL.out (.cells #[.int .i64 0, .int .i64 0, .int .i64 0] 39))
        refine ⟨later_of HL'.out, ?_⟩
        clear HL
        have HL := hide HL'.out
        clear HL'
        generalize V0.alloc (.cells #[.int .i64 0, .int .i64 0, .int .i64 0] 39) = V1 at *
        generalize V0.heap.size = tb at *
        refine wpAnyS_only 14 (by kernel_rfl) (by simp; rfl) rfl rfl (fun K hK => ?_)
        have t0 := HX.out.2.1 0 _ rfl
        have t1 := HX.out.2.1 1 _ rfl
        have t2 := HX.out.2.1 2 _ rfl
        have g0 := HX.out.free 0
        have g1 := HX.out.free 1
        have g2 := HX.out.free 2
        go_wp2_with fail
        have HL9 : Hid (Below w3.heap.size w3 (((V1.setCell ⟨tb, 0, none⟩ (.int .i64 (min s0 s1))).setCell ⟨tb, 1, none⟩ (.int .i64 (max s0 s1))).setCell ⟨tb, 2, none⟩ (.int .i64 s2))) := hide (((HL.out.setCell (by exact HTL.out) _).setCell (by exact HTL.out) _).setCell (by exact HTL.out) _)
        refine ⟨later_of HL9.out, ?_⟩
        refine wpAnyH_done (by kernel_rfl) ?_ _
        go_wp2_with fail
        go_meet
        exact ⟨tb, rfl, hide (((HX.out.set (k := 0) (by simp) _).set (k := 1) (by simp) _).set (k := 2) (by simp) _), HL9⟩
       ·
        go_wp2_with fail
        have HX := hide (Row.new V0 #[.int .i64 0, .int .i64 0, .int .i64 0] 39)
        have HTL : Hid (w3.heap.size ≤ V0.heap.size) := hide HL.out.size
        have HL' := hide (below_alloc HL.out (.cells #[.int .i64 0, .int .i64 0, .int .i64 0] 39))
        refine ⟨later_of HL'.out, ?_⟩
        clear HL
        have HL := hide HL'.out
        clear HL'
        generalize V0.alloc (.cells #[.int .i64 0, .int .i64 0, .int .i64 0] 39) = V1 at *
        generalize V0.heap.size = tb at *
        refine wpAnyS_only 12 (by kernel_rfl) (by simp; rfl) rfl rfl (fun K hK => ?_)
        go_wp2_with fail
        refine ⟨later_of HL.out, ?_⟩
        refine wpAnyS_only 14 (by kernel_rfl) (by simp; rfl) rfl rfl (fun K hK => ?_)
        have t0 := HX.out.2.1 0 _ rfl
        have t1 := HX.out.2.1 1 _ rfl
        have t2 := HX.out.2.1 2 _ rfl
        have g0 := HX.out.free 0
        have g1 := HX.out.free 1
        have g2 := HX.out.free 2
        go_wp2_with fail
        have HL9 : Hid (Below w3.heap.size w3 (((V1.setCell ⟨tb, 0, none⟩ (.int .i64 (min s0 s1))).setCell ⟨tb, 1, none⟩ (.int .i64 (max s0 s1))).setCell ⟨tb, 2, none⟩ (.int .i64 s2))) := hide (((HL.out.setCell (by exact HTL.out) _).setCell (by exact HTL.out) _).setCell (by exact HTL.out) _)
        refine ⟨later_of HL9.out, ?_⟩
        refine wpAnyH_done (by kernel_rfl) ?_ _
        go_wp2_with fail
        go_meet
        exact ⟨tb, rfl, hide (((HX.out.set (k := 0) (by simp) _).set (k := 1) (by simp) _).set (k := 2) (by simp) _), HL9⟩
      ·
       go_wp2_with fail
       have HX := hide (Row.new V0 #[.int .i64 0, .int .i64 0, .int .i64 0] 39)
       have HTL : Hid (w3.heap.size ≤ V0.heap.size) := hide HL.out.size
       have HL' := hide (below_alloc HL.out (.cells #[.int .i64 0, .int .i64 0, .int .i64 0] 39))
       refine ⟨later_of HL'.out, ?_⟩
       clear HL
       have HL := hide HL'.out
       clear HL'
       generalize V0.alloc (.cells #[.int .i64 0, .int .i64 0, .int .i64 0] 39) = V1 at *
       generalize V0.heap.size = tb at *
       refine wpAnyS_only 9 (by kernel_rfl) (by simp; rfl) rfl rfl (fun K hK => ?_)
       go_wp2_with fail
       refine (l1Most_any s0 s1 _).mono ?_
       rintro e w' ⟨rfl, rfl⟩
       go_wp2_with fail
       refine ⟨later_of HL.out, ?_⟩
       refine wpAnyS_only 12 (by kernel_rfl) (by simp; rfl) rfl rfl (fun K hK => ?_)
       go_wp2_with fail
       refine ⟨later_of HL.out, ?_⟩
       refine wpAnyS_only 14 (by kernel_rfl) (by simp; rfl) rfl rfl (fun K hK => ?_)
       have t0 := HX.out.2.1 0 _ rfl
       have t1 := HX.out.2.1 1 _ rfl
       have t2 := HX.out.2.1 2 _ rfl
       have g0 := HX.out.free 0
       have g1 := HX.out.free 1
       have g2 := HX.out.free 2
       go_wp2_with fail
       have HL9 : Hid (Below w3.heap.size w3 (((V1.setCell ⟨tb, 0, none⟩ (.int .i64 (min s0 s1))).setCell ⟨tb, 1, none⟩ (.int .i64 (max s0 s1))).setCell ⟨tb, 2, none⟩ (.int .i64 s2))) := hide (((HL.out.setCell (by exact HTL.out) _).setCell (by exact HTL.out) _).setCell (by exact HTL.out) _)
       refine ⟨later_of HL9.out, ?_⟩
       refine wpAnyH_done (by kernel_rfl) ?_ _
       go_wp2_with fail
       go_meet
       exact ⟨tb, rfl, hide (((HX.out.set (k := 0) (by simp) _).set (k := 1) (by simp) _).set (k := 2) (by simp) _), HL9⟩
     ·
      go_wp2_with fail
      have HX := hide (Row.new V0 #[.int .i64 0, .int .i64 0, .int .i64 0] 39)
      have HTL : Hid (w3.heap.size ≤ V0.heap.size) := hide HL.out.size
      have HL' := hide (below_alloc HL.out (.cells #[.int .i64 0, .int .i64 0, .int .i64 0] 39))
      refine ⟨later_of HL'.out, ?_⟩
      clear HL
      have HL := hide HL'.out
      clear HL'
      generalize V0.alloc (.cells #[.int .i64 0, .int .i64 0, .int .i64 0] 39) = V1 at *
      generalize V0.heap.size = tb at *
      refine wpAnyS_only 4 (by kernel_rfl) (by simp; rfl) rfl rfl (fun K hK => ?_)
      go_wp2_with fail
      refine (l1Least_any s0 s1 _).mono ?_
      rintro e w' ⟨rfl, rfl⟩
      go_wp2_with fail
      refine ⟨later_of HL.out, ?_⟩
      refine wpAnyS_only 9 (by kernel_rfl) (by simp; rfl) rfl rfl (fun K hK => ?_)
      go_wp2_with fail
      refine (l1Most_any s0 s1 _).mono ?_
      rintro e w' ⟨rfl, rfl⟩
      go_wp2_with fail
      refine ⟨later_of HL.out, ?_⟩
      refine wpAnyS_only 12 (by kernel_rfl) (by simp; rfl) rfl rfl (fun K hK => ?_)
      go_wp2_with fail
      refine ⟨later_of HL.out, ?_⟩
      refine wpAnyS_only 14 (by kernel_rfl) (by simp; rfl) rfl rfl (fun K hK => ?_)
      have t0 := HX.out.2.1 0 _ rfl
      have t1 := HX.out.2.1 1 _ rfl
      have t2 := HX.out.2.1 2 _ rfl
      have g0 := HX.out.free 0
      have g1 := HX.out.free 1
      have g2 := HX.out.free 2
      go_wp2_with fail
      have HL9 : Hid (Below w3.heap.size w3 (((V1.setCell ⟨tb, 0, none⟩ (.int .i64 (min s0 s1))).setCell ⟨tb, 1, none⟩ (.int .i64 (max s0 s1))).setCell ⟨tb, 2, none⟩ (.int .i64 s2))) := hide (((HL.out.setCell (by exact HTL.out) _).setCell (by exact HTL.out) _).setCell (by exact HTL.out) _)
      refine ⟨later_of HL9.out, ?_⟩
      refine wpAnyH_done (by kernel_rfl) ?_ _
      go_wp2_with fail
      go_meet
      exact ⟨tb, rfl, hide (((HX.out.set (k := 0) (by simp) _).set (k := 1) (by simp) _).set (k := 2) (by simp) _), HL9⟩
    clear a0 a1 r0 r1 r2 az rz
    obtain ⟨tb, rfl, HX, HB3⟩ := hcut
    replace HW := hide (below_step HW.out HB3.out)
    replace HF := hide (HF.out.below HB3.out)
    replace HG := hide (HG.out.below HB3.out)
    clear HB3 HS
    have HTM := hide (turn_mm' s0 s1 s2)
    have HFT2 := hide ((turn_fit (k0 : Int) (s0, s1, s2)).trans HFT.out)
    have HFN2 := hide (show stFind l (turnT (s0, s1, s2)).1 (turnT (s0, s1, s2)).2.1 < 0 by rw [turn_find]; exact HFN.out)
    rw [HTM.out] at HFT2 HFN2
    generalize min s0 s1 = p0 at *
    generalize max s0 s1 = p1 at *
    first
     | (go_upto_block 2 with fail; go_cut [7] (fun s7 wx => ∃ k : Nat, k ≤ n ∧ s7 = .int .i64 k ∧ Hid (SrchAt l (p0, p1, s2) k) ∧ Hid (Below wc.heap.size wc wx)))
     | (go_upto_block 0 with fail; go_cut [7] (fun s7 wx => ∃ k : Nat, k ≤ n ∧ s7 = .int .i64 k ∧ Hid (SrchAt l (p0, p1, s2) k) ∧ Hid (Below wc.heap.size wc wx)))
     | (go_upto_block 3 with fail; go_cut [7] (fun s7 wx => ∃ k : Nat, k ≤ n ∧ s7 = .int .i64 k ∧ Hid (SrchAt l (p0, p1, s2) k) ∧ Hid (Below wc.heap.size wc wx)))
     | (go_upto_block 4 with fail; go_cut [7] (fun s7 wx => ∃ k : Nat, k ≤ n ∧ s7 = .int .i64 k ∧ Hid (SrchAt l (p0, p1, s2) k) ∧ Hid (Below wc.heap.size wc wx)))
     | (go_upto_block 5 with fail; go_cut [7] (fun s7 wx => ∃ k : Nat, k ≤ n ∧ s7 = .int .i64 k ∧ Hid (SrchAt l (p0, p1, s2) k) ∧ Hid (Below wc.heap.size wc wx)))
     | (go_upto_block 6 with fail; go_cut [7] (fun s7 wx => ∃ k : Nat, k ≤ n ∧ s7 = .int .i64 k ∧ Hid (SrchAt l (p0, p1, s2) k) ∧ Hid (Below wc.heap.size wc wx)))
    case first => as_aux_lemma =>
     go_wp2_with fail
     go_loopw [7] (fun t wr => ∃ k : Nat, k ≤ n ∧ t = .int .i64 k ∧ Hid (∀ x, 0 < k → l[k - 1]? = some x → befB x (p0, p1, s2) = true) ∧ Hid (Below wc.heap.size wc wr)) (fun t _ => n - (intOf t).toNat)
     case atStart => exact ⟨0, by omega, rfl, hide (fun x hi => absurd hi (by omega)), hide (Below.refl _ _)⟩
     case round =>
      obtain ⟨k, hk, rfl, HK, HB⟩ := hrel
      have HWr := hide (below_step HW.out HB.out)
      have a1 := (HF.out.below HB.out).2.1 1 _ rfl
      have t0 := (HX.out.below HB.out).2.1 0 _ rfl
      have t1 := (HX.out.below HB.out).2.1 1 _ rfl
      have t2 := (HX.out.below HB.out).2.1 2 _ rfl
      have az := (HF.out.below HB.out).1
      have tz := (HX.out.below HB.out).1
      by_cases hlt : k < n
      ·
       obtain ⟨⟨x0, x1, x2⟩, hx⟩ : ∃ x, l[k]? = some x := ⟨_, List.getElem?_eq_getElem (by rw [← Hn.out]; exact hlt)⟩
       have HXX := hide hx
       obtain ⟨b, off, rfl, hbs, c0, c1, c2⟩ := (Hr.out.below HWr.out).get3 (fun _ => rfl) hx rfl
       dsimp only at c0 c1 c2
       clear hx
       have Q2 := hide (fun W => toBefore_any x0 x1 x2 p0 p1 s2 W)
       cases hb : befB (x0, x1, x2) (p0, p1, s2) with
       | true =>
        have HKN : Hid (∀ x, 0 < k + 1 → l[k + 1 - 1]? = some x → befB x (p0, p1, s2) = true) := hide (fun x _ hx => by rw [show k + 1 - 1 = k by omega, HXX.out] at hx; injection hx with hx; rw [← hx]; exact hb)
        rw [hb] at Q2
        clear hb
        go_wp2_with fail
        refine wp_region_later (by kernel_rfl) (by kernel_rfl) ?_
        repeat (go_big_quiet_step ((go_at_call 54; exact calls_later (Q2.out _))))
        refine wpQuiet_nil ?_
        refine later_intro fun w5 hb5 => ?_
        have HB5 := hide (below_step HB.out hb5)
        clear hb5 c0 c1 c2 a1 t0 t1 t2 az tz hbs
        go_wp2
        go_roundw
        case rel => exact ⟨k + 1, by omega, by go_num, HKN, HB5⟩
        case measure => simp [intOf]; omega
       | false =>
        have HSR : Hid (SrchAt l (p0, p1, s2) k) := hide ⟨by have := Hn.out; omega, HK.out, fun x hx => by rw [HXX.out] at hx; injection hx with hx; rw [← hx]; exact hb⟩
        rw [hb] at Q2
        clear hb
        go_wp2_with fail
        refine wp_region_later (by kernel_rfl) (by kernel_rfl) ?_
        repeat (go_big_quiet_step ((go_at_call 54; exact calls_later (Q2.out _))))
        refine wpQuiet_nil ?_
        refine later_intro fun w5 hb5 => ?_
        have HB5 := hide (below_step HB.out hb5)
        clear hb5 c0 c1 c2 a1 t0 t1 t2 az tz hbs
        go_wp2_with fail
        go_meet
        exact ⟨k, hk, rfl, HSR, HB5⟩
      ·
       have hkn : ((k : Int) < (n : Int)) = False := by simp; omega
       have HSR : Hid (SrchAt l (p0, p1, s2) k) := hide ⟨by have := Hn.out; omega, HK.out, fun x hx => by have := (List.getElem?_eq_some_iff.1 hx).1; have := Hn.out; omega⟩
       go_wp2_with fail
       refine wp_region_later (by kernel_rfl) (by kernel_rfl) ?_
       repeat (go_big_quiet_step (fail))
       refine wpQuiet_nil ?_
       refine later_intro fun w5 hb5 => ?_
       have HB5 := hide (below_step HB.out hb5)
       clear hb5 a1 t0 t1 t2 az tz
       go_wp2_with fail
       go_meet
       exact ⟨k, hk, rfl, HSR, HB5⟩
    obtain ⟨k, hk, rfl, HSR, HB5⟩ := hcut
    replace HW := hide (below_step HW.out HB5.out)
    replace HF := hide (HF.out.below HB5.out)
    replace HG := hide (HG.out.below HB5.out)
    replace HX := hide (HX.out.below HB5.out)
    clear HB5
    go_upto_region 7 with fail
    go_cut [8] (fun s8 wx => ∃ tk g3 c3 : Nat, s8 = .pointer (some ⟨tk, 0, none⟩) ∧ Hid (Row wx tk [.int .i64 (k0 : Int), .slice (some ⟨g3, 0, none⟩) (n + 1) c3]) ∧ Hid (wx.ownsRow wc.heap.size 39 3 (.slice (some ⟨g3, 0, none⟩) (n + 1) c3) (n + 1) ((insL l k (p0, p1, s2)).flatMap tcells)) ∧ Hid (Below wc.heap.size wc wx))
    case first => as_aux_lemma =>
     obtain ⟨i0, hi0, hz0, hz1, hz2⟩ := info_parts infoStreet
     have Hi := hide hi0
     have Hz := hide (And.intro hz0 (And.intro hz1 hz2))
     clear hi0 hz0 hz1 hz2
     rcases HA.out with ⟨rfl, hn0, hc0⟩ | ⟨b, off, rfl⟩
     ·
      subst hn0 hc0
      obtain rfl : k = 0 := by omega
      obtain rfl : l = [] := List.eq_nil_of_length_eq_zero Hn.out.symm
      have HBw := hide HW.out
      have a0 := HF.out.2.1 0 _ rfl
      have a1 := HF.out.2.1 1 _ rfl
      have r0 := HX.out.2.1 0 _ rfl
      have r1 := HX.out.2.1 1 _ rfl
      have r2 := HX.out.2.1 2 _ rfl
      have az := HF.out.1
      have rz := HX.out.1
      go_wp2_with fail
      refine wpAnyS_start (fun w' => ∃ n : Later wc, w' = n.w) (n := 19) (by kernel_rfl) rfl rfl ?_
      refine wpAnyS_take_all [0, 1, 3, 4, 5, 6, 8, 11, 12, 13, 14] 8 rfl (by kernel_rfl) (by intro c a d v w h; cases d <;> exact h) (by kernel_rfl) (by simp; rfl) rfl (later_drew _) ?_
      repeat (go_big_quiet_step (fail))
      refine wpQuiet_nil ?_
      have HL : Hid (Below wc.heap.size wc wc.drew) := hide (Below.refl _ _).drew
      have HCC : Hid (Below w.heap.size w wc.drew) := hide HBw.out.drew
      clear a0 a1 r0 r1 r2 az rz
      generalize wc.drew = V0 at *
      refine wpAnyS_three 2 9 17 (by kernel_rfl) (by simp; rfl) (by simp; rfl) (by simp; rfl) rfl rfl rfl rfl rfl rfl (fun K hK => ?_) (fun K hK => ?_) (fun K hK => ?_)
      ·
       go_wp2_with fail
       have HL' : Hid (Below wc.heap.size wc (V0.alloc (.cells #[] 39))) := hide (below_alloc HL.out _)
       have HC' : Hid (Below w.heap.size w (V0.alloc (.cells #[] 39))) := hide (below_alloc HCC.out _)
       refine ⟨later_of HL'.out, ?_⟩
       have F_b0 : Hid ((V0.alloc (.cells #[] 39)).ownsRow wc.heap.size 39 3 (.slice (some ⟨V0.heap.size, 0, none⟩) 0 0) 0 []) := hide (World.ownsRow_made V0 #[] 0 HL.out.size (Nat.zero_le _) rfl)
       have L_b0 : Hid (V0.heap.size < (V0.alloc (.cells #[] 39)).heap.size) := hide (by simp)
       clear HL HCC
       have HL := hide HL'.out
       have HCC := hide HC'.out
       clear HL' HC'
       generalize (V0.alloc (.cells #[] 39)) = V1 at *
       generalize V0.heap.size = b0 at *
       refine wpAnyS_three 7 9 17 (by kernel_rfl) (by simp; rfl) (by simp; rfl) (by simp; rfl) rfl rfl rfl rfl rfl rfl (fun K hK => ?_) (fun K hK => ?_) (fun K hK => ?_)
       ·
        refine wp_append_nil (.tmp 60) (.tmp 64) 24 rfl wc.heap.size 39 i0 3 Tryz.underlying24 Hi.out (.slice (some ⟨b0, 0, none⟩) 0 0) 0 [] rfl F_b0.out 0 rfl (hK _ _ ⟨later_of HL.out, ?_⟩)
        obtain ⟨g1, rfl⟩ : ∃ g, g = b0 := ⟨_, rfl⟩
        have F_g1 := hide F_b0.out
        have L_g1 := hide L_b0.out
        clear F_b0 L_b0
        simp only [Act.put, List.setIfInBounds_toArray, List.set_cons_succ, List.set_cons_zero]
        refine wpAnyS_two 9 17 (by kernel_rfl) (by simp; rfl) (by simp; rfl) rfl rfl rfl rfl (fun K hK => ?_) (fun K hK => ?_)
        ·
         go_wp2_with fail
         have HL' : Hid (Below wc.heap.size wc (V1.alloc (.cells #[.int .i64 p0, .int .i64 p1, .int .i64 s2] 39))) := hide (below_alloc HL.out _)
         have HC' : Hid (Below w.heap.size w (V1.alloc (.cells #[.int .i64 p0, .int .i64 p1, .int .i64 s2] 39))) := hide (below_alloc HCC.out _)
         refine ⟨later_of HL'.out, ?_⟩
         replace F_g1 := hide (World.ownsRow.alloc F_g1.out (.cells #[.int .i64 p0, .int .i64 p1, .int .i64 s2] 39))
         have N_g1_bs : Hid (g1 ≠ V1.heap.size) := hide (by have := L_g1.out; omega)
         replace L_g1 : Hid (g1 < (V1.alloc (.cells #[.int .i64 p0, .int .i64 p1, .int .i64 s2] 39)).heap.size) := hide (by have := L_g1.out; simp; omega)
         have F_bs := hide (Row.new V1 #[.int .i64 p0, .int .i64 p1, .int .i64 s2] 39)
         have L_bs : Hid (V1.heap.size < (V1.alloc (.cells #[.int .i64 p0, .int .i64 p1, .int .i64 s2] 39)).heap.size) := hide (by simp)
         clear HL HCC
         have HL := hide HL'.out
         have HCC := hide HC'.out
         clear HL' HC'
         generalize (V1.alloc (.cells #[.int .i64 p0, .int .i64 p1, .int .i64 s2] 39)) = V2 at *
         generalize V1.heap.size = bs at *
         refine wpAnyS_two 10 17 (by kernel_rfl) (by simp; rfl) (by simp; rfl) rfl rfl rfl rfl (fun K hK => ?_) (fun K hK => ?_)
         ·
          refine wp_append_at (.tmp 65) (.tmp 67) 24 rfl wc.heap.size 39 i0 _ 3 24 Tryz.underlying24 Hi.out Hz.out.1 Hz.out.2.1 Hz.out.2.2 rfl (by decide) g1 0 0 [] rfl F_g1.out ⟨bs, 0, none⟩ 1 1 (tcells (p0, p1, s2)) rfl rfl (fun j u hu => by rw [Addr.add_lit, Nat.zero_add]; exact F_bs.out.2.1 j u hu) (fun u hu => tcells_one [(p0, p1, s2)] u (by simpa using hu)) (by unfold maxLen; omega) (by omega) HL.out.size (fun g2 cap2 V3 hown hgrow hg hlt => ?_)
          have HL' := hide (HL.out.grown hgrow HL.out.size (fun k hk => by injection hk with hk; have := (F_g1.out.lt g1 rfl).1; omega))
          have HC' := hide (HCC.out.grown hgrow HCC.out.size (fun k hk => by injection hk with hk; have := (F_g1.out.lt g1 rfl).1; have := HBw.out.size; omega))
          have F_g2 : Hid (V3.ownsRow wc.heap.size 39 3 (.slice (some ⟨g2, 0, none⟩) 1 cap2) 1 (tcells (p0, p1, s2))) := hide (by simpa using hown)
          have L_g2 : Hid (g2 < V3.heap.size) := hide hlt
          clear HL HCC hown hgrow hg hlt F_g1 L_g1 N_g1_bs F_bs L_bs
          have HL := hide HL'.out
          have HCC := hide HC'.out
          clear HL' HC'
          refine hK _ _ ⟨later_of HL.out, ?_⟩
          simp only [Act.put, List.setIfInBounds_toArray, List.set_cons_succ, List.set_cons_zero]
          refine wpAnyS_two 15 17 (by kernel_rfl) (by simp; rfl) (by simp; rfl) rfl rfl rfl rfl (fun K hK => ?_) (fun K hK => ?_)
          ·
           refine wp_append_nil (.tmp 68) (.tmp 72) 24 rfl wc.heap.size 39 i0 3 Tryz.underlying24 Hi.out (.slice (some ⟨g2, 0, none⟩) 1 cap2) 1 (tcells (p0, p1, s2)) rfl F_g2.out 0 rfl (hK _ _ ⟨later_of HL.out, ?_⟩)
           obtain ⟨g3, rfl⟩ : ∃ g, g = g2 := ⟨_, rfl⟩
           have F_g3 := hide F_g2.out
           have L_g3 := hide L_g2.out
           clear F_g2 L_g2
           simp only [Act.put, List.setIfInBounds_toArray, List.set_cons_succ, List.set_cons_zero]
           refine wpAnyS_two 16 17 (by kernel_rfl) (by simp; rfl) (by simp; rfl) rfl rfl rfl rfl (fun K hK => ?_) (fun K hK => ?_)
           ·
            go_wp2_with fail
            refine ⟨later_of HL.out, ?_⟩
            refine wpAnyS_only 17 (by kernel_rfl) (by simp; rfl) rfl rfl (fun K hK => ?_)
            go_wp2_with fail
            have HL' : Hid (Below wc.heap.size wc (V3.alloc (.cells #[.int .i64 0, .slice none 0 0] 26))) := hide (below_alloc HL.out _)
            have HC' : Hid (Below w.heap.size w (V3.alloc (.cells #[.int .i64 0, .slice none 0 0] 26))) := hide (below_alloc HCC.out _)
            refine ⟨later_of HL'.out, ?_⟩
            replace F_g3 := hide (World.ownsRow.alloc F_g3.out (.cells #[.int .i64 0, .slice none 0 0] 26))
            have N_g3_tk : Hid (g3 ≠ V3.heap.size) := hide (by have := L_g3.out; omega)
            replace L_g3 : Hid (g3 < (V3.alloc (.cells #[.int .i64 0, .slice none 0 0] 26)).heap.size) := hide (by have := L_g3.out; simp; omega)
            have F_tk := hide (Row.new V3 #[.int .i64 0, .slice none 0 0] 26)
            have HTK : Hid (wc.heap.size ≤ V3.heap.size) := hide HL.out.size
            have L_tk : Hid (V3.heap.size < (V3.alloc (.cells #[.int .i64 0, .slice none 0 0] 26)).heap.size) := hide (by simp)
            clear HL HCC
            have HL := hide HL'.out
            have HCC := hide HC'.out
            clear HL' HC'
            generalize (V3.alloc (.cells #[.int .i64 0, .slice none 0 0] 26)) = V4 at *
            generalize V3.heap.size = tk at *
            refine wpAnyS_only 18 (by kernel_rfl) (by simp; rfl) rfl rfl (fun K hK => ?_)
            have t0 := F_tk.out.2.1 0 _ rfl
            have t1 := F_tk.out.2.1 1 _ rfl
            have u0 := F_tk.out.free 0
            have u1 := F_tk.out.free 1
            go_wp2_with fail
            have HL9 : Hid (Below wc.heap.size wc ((V4.setCell ⟨tk, 0, none⟩ (.int .i64 (k0 : Int))).setCell ⟨tk, 1, none⟩ (.slice (some ⟨g3, 0, none⟩) 1 cap2))) := hide ((HL.out.setCell (by exact HTK.out) _).setCell (by exact HTK.out) _)
            refine ⟨later_of HL9.out, ?_⟩
            refine wpAnyH_done (by kernel_rfl) ?_ _
            go_wp2_with fail
            go_meet
            have hne : ∀ b, (Value.slice (some ⟨g3, 0, none⟩) 1 cap2).ownBlock = some b → some b ≠ some tk := fun b hb e => by simp [Value.ownBlock] at hb; injection e with e; have := N_g3_tk.out; omega
            exact ⟨tk, g3, cap2, rfl, hide ((F_tk.out.set (k := 0) (by simp) _).set (k := 1) (by simp) _), hide (own_kept (own_kept F_g3.out (grown_set (g := tk) _ rfl) hne) (grown_set (g := tk) _ rfl) hne), HL9⟩
           ·
            go_wp2_with fail
            have HL' : Hid (Below wc.heap.size wc (V3.alloc (.cells #[.int .i64 0, .slice none 0 0] 26))) := hide (below_alloc HL.out _)
            have HC' : Hid (Below w.heap.size w (V3.alloc (.cells #[.int .i64 0, .slice none 0 0] 26))) := hide (below_alloc HCC.out _)
            refine ⟨later_of HL'.out, ?_⟩
            replace F_g3 := hide (World.ownsRow.alloc F_g3.out (.cells #[.int .i64 0, .slice none 0 0] 26))
            have N_g3_tk : Hid (g3 ≠ V3.heap.size) := hide (by have := L_g3.out; omega)
            replace L_g3 : Hid (g3 < (V3.alloc (.cells #[.int .i64 0, .slice none 0 0] 26)).heap.size) := hide (by have := L_g3.out; simp; omega)
            have F_tk := hide (Row.new V3 #[.int .i64 0, .slice none 0 0] 26)
            have HTK : Hid (wc.heap.size ≤ V3.heap.size) := hide HL.out.size
            have L_tk : Hid (V3.heap.size < (V3.alloc (.cells #[.int .i64 0, .slice none 0 0] 26)).heap.size) := hide (by simp)
            clear HL HCC
            have HL := hide HL'.out
            have HCC := hide HC'.out
            clear HL' HC'
            generalize (V3.alloc (.cells #[.int .i64 0, .slice none 0 0] 26)) = V4 at *
            generalize V3.heap.size = tk at *
            refine wpAnyS_only 16 (by kernel_rfl) (by simp; rfl) rfl rfl (fun K hK => ?_)
            go_wp2_with fail
            refine ⟨later_of HL.out, ?_⟩
            refine wpAnyS_only 18 (by kernel_rfl) (by simp; rfl) rfl rfl (fun K hK => ?_)
            have t0 := F_tk.out.2.1 0 _ rfl
            have t1 := F_tk.out.2.1 1 _ rfl
            have u0 := F_tk.out.free 0
            have u1 := F_tk.out.free 1
            go_wp2_with fail
            have HL9 : Hid (Below wc.heap.size wc ((V4.setCell ⟨tk, 0, none⟩ (.int .i64 (k0 : Int))).setCell ⟨tk, 1, none⟩ (.slice (some ⟨g3, 0, none⟩) 1 cap2))) := hide ((HL.out.setCell (by exact HTK.out) _).setCell (by exact HTK.out) _)
            refine ⟨later_of HL9.out, ?_⟩
            refine wpAnyH_done (by kernel_rfl) ?_ _
            go_wp2_with fail
            go_meet
            have hne : ∀ b, (Value.slice (some ⟨g3, 0, none⟩) 1 cap2).ownBlock = some b → some b ≠ some tk := fun b hb e => by simp [Value.ownBlock] at hb; injection e with e; have := N_g3_tk.out; omega
            exact ⟨tk, g3, cap2, rfl, hide ((F_tk.out.set (k := 0) (by simp) _).set (k := 1) (by simp) _), hide (own_kept (own_kept F_g3.out (grown_set (g := tk) _ rfl) hne) (grown_set (g := tk) _ rfl) hne), HL9⟩
          ·
           go_wp2_with fail
           have HL' : Hid (Below wc.heap.size wc (V3.alloc (.cells #[.int .i64 0, .slice none 0 0] 26))) := hide (below_alloc HL.out _)
           have HC' : Hid (Below w.heap.size w (V3.alloc (.cells #[.int .i64 0, .slice none 0 0] 26))) := hide (below_alloc HCC.out _)
           refine ⟨later_of HL'.out, ?_⟩
           replace F_g2 := hide (World.ownsRow.alloc F_g2.out (.cells #[.int .i64 0, .slice none 0 0] 26))
           have N_g2_tk : Hid (g2 ≠ V3.heap.size) := hide (by have := L_g2.out; omega)
           replace L_g2 : Hid (g2 < (V3.alloc (.cells #[.int .i64 0, .slice none 0 0] 26)).heap.size) := hide (by have := L_g2.out; simp; omega)
           have F_tk := hide (Row.new V3 #[.int .i64 0, .slice none 0 0] 26)
           have HTK : Hid (wc.heap.size ≤ V3.heap.size) := hide HL.out.size
           have L_tk : Hid (V3.heap.size < (V3.alloc (.cells #[.int .i64 0, .slice none 0 0] 26)).heap.size) := hide (by simp)
           clear HL HCC
           have HL := hide HL'.out
           have HCC := hide HC'.out
           clear HL' HC'
           generalize (V3.alloc (.cells #[.int .i64 0, .slice none 0 0] 26)) = V4 at *
           generalize V3.heap.size = tk at *
           refine wpAnyS_only 15 (by kernel_rfl) (by simp; rfl) rfl rfl (fun K hK => ?_)
           refine wp_append_nil (.tmp 68) (.tmp 72) 24 rfl wc.heap.size 39 i0 3 Tryz.underlying24 Hi.out (.slice (some ⟨g2, 0, none⟩) 1 cap2) 1 (tcells (p0, p1, s2)) rfl F_g2.out 0 rfl (hK _ _ ⟨later_of HL.out, ?_⟩)
           obtain ⟨g3, rfl⟩ : ∃ g, g = g2 := ⟨_, rfl⟩
           have F_g3 := hide F_g2.out
           have L_g3 := hide L_g2.out
           have N_g3_tk := hide N_g2_tk.out
           clear N_g2_tk
           clear F_g2 L_g2
           simp only [Act.put, List.setIfInBounds_toArray, List.set_cons_succ, List.set_cons_zero]
           refine wpAnyS_only 16 (by kernel_rfl) (by simp; rfl) rfl rfl (fun K hK => ?_)
           go_wp2_with fail
           refine ⟨later_of HL.out, ?_⟩
           refine wpAnyS_only 18 (by kernel_rfl) (by simp; rfl) rfl rfl (fun K hK => ?_)
           have t0 := F_tk.out.2.1 0 _ rfl
           have t1 := F_tk.out.2.1 1 _ rfl
           have u0 := F_tk.out.free 0
           have u1 := F_tk.out.free 1
           go_wp2_with fail
           have HL9 : Hid (Below wc.heap.size wc ((V4.setCell ⟨tk, 0, none⟩ (.int .i64 (k0 : Int))).setCell ⟨tk, 1, none⟩ (.slice (some ⟨g3, 0, none⟩) 1 cap2))) := hide ((HL.out.setCell (by exact HTK.out) _).setCell (by exact HTK.out) _)
           refine ⟨later_of HL9.out, ?_⟩
           refine wpAnyH_done (by kernel_rfl) ?_ _
           go_wp2_with fail
           go_meet
           have hne : ∀ b, (Value.slice (some ⟨g3, 0, none⟩) 1 cap2).ownBlock = some b → some b ≠ some tk := fun b hb e => by simp [Value.ownBlock] at hb; injection e with e; have := N_g3_tk.out; omega
           exact ⟨tk, g3, cap2, rfl, hide ((F_tk.out.set (k := 0) (by simp) _).set (k := 1) (by simp) _), hide (own_kept (own_kept F_g3.out (grown_set (g := tk) _ rfl) hne) (grown_set (g := tk) _ rfl) hne), HL9⟩
         ·
          go_wp2_with fail
          have HL' : Hid (Below wc.heap.size wc (V2.alloc (.cells #[.int .i64 0, .slice none 0 0] 26))) := hide (below_alloc HL.out _)
          have HC' : Hid (Below w.heap.size w (V2.alloc (.cells #[.int .i64 0, .slice none 0 0] 26))) := hide (below_alloc HCC.out _)
          refine ⟨later_of HL'.out, ?_⟩
          replace F_g1 := hide (World.ownsRow.alloc F_g1.out (.cells #[.int .i64 0, .slice none 0 0] 26))
          have N_g1_tk : Hid (g1 ≠ V2.heap.size) := hide (by have := L_g1.out; omega)
          replace L_g1 : Hid (g1 < (V2.alloc (.cells #[.int .i64 0, .slice none 0 0] 26)).heap.size) := hide (by have := L_g1.out; simp; omega)
          replace F_bs := hide (F_bs.out.alloc (.cells #[.int .i64 0, .slice none 0 0] 26))
          replace L_bs : Hid (bs < (V2.alloc (.cells #[.int .i64 0, .slice none 0 0] 26)).heap.size) := hide (by have := L_bs.out; simp; omega)
          have F_tk := hide (Row.new V2 #[.int .i64 0, .slice none 0 0] 26)
          have HTK : Hid (wc.heap.size ≤ V2.heap.size) := hide HL.out.size
          have L_tk : Hid (V2.heap.size < (V2.alloc (.cells #[.int .i64 0, .slice none 0 0] 26)).heap.size) := hide (by simp)
          clear HL HCC
          have HL := hide HL'.out
          have HCC := hide HC'.out
          clear HL' HC'
          generalize (V2.alloc (.cells #[.int .i64 0, .slice none 0 0] 26)) = V3 at *
          generalize V2.heap.size = tk at *
          refine wpAnyS_only 10 (by kernel_rfl) (by simp; rfl) rfl rfl (fun K hK => ?_)
          refine wp_append_at (.tmp 65) (.tmp 67) 24 rfl wc.heap.size 39 i0 _ 3 24 Tryz.underlying24 Hi.out Hz.out.1 Hz.out.2.1 Hz.out.2.2 rfl (by decide) g1 0 0 [] rfl F_g1.out ⟨bs, 0, none⟩ 1 1 (tcells (p0, p1, s2)) rfl rfl (fun j u hu => by rw [Addr.add_lit, Nat.zero_add]; exact F_bs.out.2.1 j u hu) (fun u hu => tcells_one [(p0, p1, s2)] u (by simpa using hu)) (by unfold maxLen; omega) (by omega) HL.out.size (fun g2 cap2 V4 hown hgrow hg hlt => ?_)
          have HL' := hide (HL.out.grown hgrow HL.out.size (fun k hk => by injection hk with hk; have := (F_g1.out.lt g1 rfl).1; omega))
          have HC' := hide (HCC.out.grown hgrow HCC.out.size (fun k hk => by injection hk with hk; have := (F_g1.out.lt g1 rfl).1; have := HBw.out.size; omega))
          replace F_tk := hide (F_tk.out.grown hgrow (fun e => by injection e with e; have := N_g1_tk.out; omega))
          have N_g2_tk : Hid (g2 ≠ tk) := hide (by have := L_tk.out; have := N_g1_tk.out; omega)
          replace L_tk : Hid (tk < V4.heap.size) := hide (by have := L_tk.out; have := hgrow.size; omega)
          clear N_g1_tk
          have F_g2 : Hid (V4.ownsRow wc.heap.size 39 3 (.slice (some ⟨g2, 0, none⟩) 1 cap2) 1 (tcells (p0, p1, s2))) := hide (by simpa using hown)
          have L_g2 : Hid (g2 < V4.heap.size) := hide hlt
          clear HL HCC hown hgrow hg hlt F_g1 L_g1 N_g1_bs F_bs L_bs
          have HL := hide HL'.out
          have HCC := hide HC'.out
          clear HL' HC'
          refine hK _ _ ⟨later_of HL.out, ?_⟩
          simp only [Act.put, List.setIfInBounds_toArray, List.set_cons_succ, List.set_cons_zero]
          refine wpAnyS_only 15 (by kernel_rfl) (by simp; rfl) rfl rfl (fun K hK => ?_)
          refine wp_append_nil (.tmp 68) (.tmp 72) 24 rfl wc.heap.size 39 i0 3 Tryz.underlying24 Hi.out (.slice (some ⟨g2, 0, none⟩) 1 cap2) 1 (tcells (p0, p1, s2)) rfl F_g2.out 0 rfl (hK _ _ ⟨later_of HL.out, ?_⟩)
          obtain ⟨g3, rfl⟩ : ∃ g, g = g2 := ⟨_, rfl⟩
          have F_g3 := hide F_g2.out
          have L_g3 := hide L_g2.out
          have N_g3_tk := hide N_g2_tk.out
          clear N_g2_tk
          clear F_g2 L_g2
          simp only [Act.put, List.setIfInBounds_toArray, List.set_cons_succ, List.set_cons_zero]
          refine wpAnyS_only 16 (by kernel_rfl) (by simp; rfl) rfl rfl (fun K hK => ?_)
          go_wp2_with fail
          refine ⟨later_of HL.out, ?_⟩
          refine wpAnyS_only 18 (by kernel_rfl) (by simp; rfl) rfl rfl (fun K hK => ?_)
          have t0 := F_tk.out.2.1 0 _ rfl
          have t1 := F_tk.out.2.1 1 _ rfl
          have u0 := F_tk.out.free 0
          have u1 := F_tk.out.free 1
          go_wp2_with fail
          have HL9 : Hid (Below wc.heap.size wc ((V4.setCell ⟨tk, 0, none⟩ (.int .i64 (k0 : Int))).setCell ⟨tk, 1, none⟩ (.slice (some ⟨g3, 0, none⟩) 1 cap2))) := hide ((HL.out.setCell (by exact HTK.out) _).setCell (by exact HTK.out) _)
          refine ⟨later_of HL9.out, ?_⟩
          refine wpAnyH_done (by kernel_rfl) ?_ _
          go_wp2_with fail
          go_meet
          have hne : ∀ b, (Value.slice (some ⟨g3, 0, none⟩) 1 cap2).ownBlock = some b → some b ≠ some tk := fun b hb e => by simp [Value.ownBlock] at hb; injection e with e; have := N_g3_tk.out; omega
          exact ⟨tk, g3, cap2, rfl, hide ((F_tk.out.set (k := 0) (by simp) _).set (k := 1) (by simp) _), hide (own_kept (own_kept F_g3.out (grown_set (g := tk) _ rfl) hne) (grown_set (g := tk) _ rfl) hne), HL9⟩
        ·
         go_wp2_with fail
         have HL' : Hid (Below wc.heap.size wc (V1.alloc (.cells #[.int .i64 0, .slice none 0 0] 26))) := hide (below_alloc HL.out _)
         have HC' : Hid (Below w.heap.size w (V1.alloc (.cells #[.int .i64 0, .slice none 0 0] 26))) := hide (below_alloc HCC.out _)
         refine ⟨later_of HL'.out, ?_⟩
         replace F_g1 := hide (World.ownsRow.alloc F_g1.out (.cells #[.int .i64 0, .slice none 0 0] 26))
         have N_g1_tk : Hid (g1 ≠ V1.heap.size) := hide (by have := L_g1.out; omega)
         replace L_g1 : Hid (g1 < (V1.alloc (.cells #[.int .i64 0, .slice none 0 0] 26)).heap.size) := hide (by have := L_g1.out; simp; omega)
         have F_tk := hide (Row.new V1 #[.int .i64 0, .slice none 0 0] 26)
         have HTK : Hid (wc.heap.size ≤ V1.heap.size) := hide HL.out.size
         have L_tk : Hid (V1.heap.size < (V1.alloc (.cells #[.int .i64 0, .slice none 0 0] 26)).heap.size) := hide (by simp)
         clear HL HCC
         have HL := hide HL'.out
         have HCC := hide HC'.out
         clear HL' HC'
         generalize (V1.alloc (.cells #[.int .i64 0, .slice none 0 0] 26)) = V2 at *
         generalize V1.heap.size = tk at *
         refine wpAnyS_only 9 (by kernel_rfl) (by simp; rfl) rfl rfl (fun K hK => ?_)
         go_wp2_with fail
         have HL' : Hid (Below wc.heap.size wc (V2.alloc (.cells #[.int .i64 p0, .int .i64 p1, .int .i64 s2] 39))) := hide (below_alloc HL.out _)
         have HC' : Hid (Below w.heap.size w (V2.alloc (.cells #[.int .i64 p0, .int .i64 p1, .int .i64 s2] 39))) := hide (below_alloc HCC.out _)
         refine ⟨later_of HL'.out, ?_⟩
         replace F_g1 := hide (World.ownsRow.alloc F_g1.out (.cells #[.int .i64 p0, .int .i64 p1, .int .i64 s2] 39))
         have N_g1_bs : Hid (g1 ≠ V2.heap.size) := hide (by have := L_g1.out; omega)
         replace L_g1 : Hid (g1 < (V2.alloc (.cells #[.int .i64 p0, .int .i64 p1, .int .i64 s2] 39)).heap.size) := hide (by have := L_g1.out; simp; omega)
         replace F_tk := hide (F_tk.out.alloc (.cells #[.int .i64 p0, .int .i64 p1, .int .i64 s2] 39))
         replace L_tk : Hid (tk < (V2.alloc (.cells #[.int .i64 p0, .int .i64 p1, .int .i64 s2] 39)).heap.size) := hide (by have := L_tk.out; simp; omega)
         have F_bs := hide (Row.new V2 #[.int .i64 p0, .int .i64 p1, .int .i64 s2] 39)
         have L_bs : Hid (V2.heap.size < (V2.alloc (.cells #[.int .i64 p0, .int .i64 p1, .int .i64 s2] 39)).heap.size) := hide (by simp)
         clear HL HCC
         have HL := hide HL'.out
         have HCC := hide HC'.out
         clear HL' HC'
         generalize (V2.alloc (.cells #[.int .i64 p0, .int .i64 p1, .int .i64 s2] 39)) = V3 at *
         generalize V2.heap.size = bs at *
         refine wpAnyS_only 10 (by kernel_rfl) (by simp; rfl) rfl rfl (fun K hK => ?_)
         refine wp_append_at (.tmp 65) (.tmp 67) 24 rfl wc.heap.size 39 i0 _ 3 24 Tryz.underlying24 Hi.out Hz.out.1 Hz.out.2.1 Hz.out.2.2 rfl (by decide) g1 0 0 [] rfl F_g1.out ⟨bs, 0, none⟩ 1 1 (tcells (p0, p1, s2)) rfl rfl (fun j u hu => by rw [Addr.add_lit, Nat.zero_add]; exact F_bs.out.2.1 j u hu) (fun u hu => tcells_one [(p0, p1, s2)] u (by simpa using hu)) (by unfold maxLen; omega) (by omega) HL.out.size (fun g2 cap2 V4 hown hgrow hg hlt => ?_)
         have HL' := hide (HL.out.grown hgrow HL.out.size (fun k hk => by injection hk with hk; have := (F_g1.out.lt g1 rfl).1; omega))
         have HC' := hide (HCC.out.grown hgrow HCC.out.size (fun k hk => by injection hk with hk; have := (F_g1.out.lt g1 rfl).1; have := HBw.out.size; omega))
         replace F_tk := hide (F_tk.out.grown hgrow (fun e => by injection e with e; have := N_g1_tk.out; omega))
         have N_g2_tk : Hid (g2 ≠ tk) := hide (by have := L_tk.out; have := N_g1_tk.out; omega)
         replace L_tk : Hid (tk < V4.heap.size) := hide (by have := L_tk.out; have := hgrow.size; omega)
         clear N_g1_tk
         have F_g2 : Hid (V4.ownsRow wc.heap.size 39 3 (.slice (some ⟨g2, 0, none⟩) 1 cap2) 1 (tcells (p0, p1, s2))) := hide (by simpa using hown)
         have L_g2 : Hid (g2 < V4.heap.size) := hide hlt
         clear HL HCC hown hgrow hg hlt F_g1 L_g1 N_g1_bs F_bs L_bs
         have HL := hide HL'.out
         have HCC := hide HC'.out
         clear HL' HC'
         refine hK _ _ ⟨later_of HL.out, ?_⟩
         simp only [Act.put, List.setIfInBounds_toArray, List.set_cons_succ, List.set_cons_zero]
         refine wpAnyS_only 15 (by kernel_rfl) (by simp; rfl) rfl rfl (fun K hK => ?_)
         refine wp_append_nil (.tmp 68) (.tmp 72) 24 rfl wc.heap.size 39 i0 3 Tryz.underlying24 Hi.out (.slice (some ⟨g2, 0, none⟩) 1 cap2) 1 (tcells (p0, p1, s2)) rfl F_g2.out 0 rfl (hK _ _ ⟨later_of HL.out, ?_⟩)
         obtain ⟨g3, rfl⟩ : ∃ g, g = g2 := ⟨_, rfl⟩
         have F_g3 := hide F_g2.out
         have L_g3 := hide L_g2.out
         have N_g3_tk := hide N_g2_tk.out
         clear N_g2_tk
         clear F_g2 L_g2
         simp only [Act.put, List.setIfInBounds_toArray, List.set_cons_succ, List.set_cons_zero]
         refine wpAnyS_only 16 (by kernel_rfl) (by simp; rfl) rfl rfl (fun K hK => ?_)
         go_wp2_with fail
         refine ⟨later_of HL.out, ?_⟩
         refine wpAnyS_only 18 (by kernel_rfl) (by simp; rfl) rfl rfl (fun K hK => ?_)
         have t0 := F_tk.out.2.1 0 _ rfl
         have t1 := F_tk.out.2.1 1 _ rfl
         have u0 := F_tk.out.free 0
         have u1 := F_tk.out.free 1
         go_wp2_with fail
         have HL9 : Hid (Below wc.heap.size wc ((V4.setCell ⟨tk, 0, none⟩ (.int .i64 (k0 : Int))).setCell ⟨tk, 1, none⟩ (.slice (some ⟨g3, 0, none⟩) 1 cap2))) := hide ((HL.out.setCell (by exact HTK.out) _).setCell (by exact HTK.out) _)
         refine ⟨later_of HL9.out, ?_⟩
         refine wpAnyH_done (by kernel_rfl) ?_ _
         go_wp2_with fail
         go_meet
         have hne : ∀ b, (Value.slice (some ⟨g3, 0, none⟩) 1 cap2).ownBlock = some b → some b ≠ some tk := fun b hb e => by simp [Value.ownBlock] at hb; injection e with e; have := N_g3_tk.out; omega
         exact ⟨tk, g3, cap2, rfl, hide ((F_tk.out.set (k := 0) (by simp) _).set (k := 1) (by simp) _), hide (own_kept (own_kept F_g3.out (grown_set (g := tk) _ rfl) hne) (grown_set (g := tk) _ rfl) hne), HL9⟩
       ·
        go_wp2_with fail
        have HL' : Hid (Below wc.heap.size wc (V1.alloc (.cells #[.int .i64 p0, .int .i64 p1, .int .i64 s2] 39))) := hide (below_alloc HL.out _)
        have HC' : Hid (Below w.heap.size w (V1.alloc (.cells #[.int .i64 p0, .int .i64 p1, .int .i64 s2] 39))) := hide (below_alloc HCC.out _)
        refine ⟨later_of HL'.out, ?_⟩
        replace F_b0 := hide (World.ownsRow.alloc F_b0.out (.cells #[.int .i64 p0, .int .i64 p1, .int .i64 s2] 39))
        have N_b0_bs : Hid (b0 ≠ V1.heap.size) := hide (by have := L_b0.out; omega)
        replace L_b0 : Hid (b0 < (V1.alloc (.cells #[.int .i64 p0, .int .i64 p1, .int .i64 s2] 39)).heap.size) := hide (by have := L_b0.out; simp; omega)
        have F_bs := hide (Row.new V1 #[.int .i64 p0, .int .i64 p1, .int .i64 s2] 39)
        have L_bs : Hid (V1.heap.size < (V1.alloc (.cells #[.int .i64 p0, .int .i64 p1, .int .i64 s2] 39)).heap.size) := hide (by simp)
        clear HL HCC
        have HL := hide HL'.out
        have HCC := hide HC'.out
        clear HL' HC'
        generalize (V1.alloc (.cells #[.int .i64 p0, .int .i64 p1, .int .i64 s2] 39)) = V2 at *
        generalize V1.heap.size = bs at *
        refine wpAnyS_two 7 17 (by kernel_rfl) (by simp; rfl) (by simp; rfl) rfl rfl rfl rfl (fun K hK => ?_) (fun K hK => ?_)
        ·
         refine wp_append_nil (.tmp 60) (.tmp 64) 24 rfl wc.heap.size 39 i0 3 Tryz.underlying24 Hi.out (.slice (some ⟨b0, 0, none⟩) 0 0) 0 [] rfl F_b0.out 0 rfl (hK _ _ ⟨later_of HL.out, ?_⟩)
         obtain ⟨g1, rfl⟩ : ∃ g, g = b0 := ⟨_, rfl⟩
         have F_g1 := hide F_b0.out
         have L_g1 := hide L_b0.out
         have N_g1_bs := hide N_b0_bs.out
         clear N_b0_bs
         clear F_b0 L_b0
         simp only [Act.put, List.setIfInBounds_toArray, List.set_cons_succ, List.set_cons_zero]
         refine wpAnyS_two 10 17 (by kernel_rfl) (by simp; rfl) (by simp; rfl) rfl rfl rfl rfl (fun K hK => ?_) (fun K hK => ?_)
         ·
          refine wp_append_at (.tmp 65) (.tmp 67) 24 rfl wc.heap.size 39 i0 _ 3 24 Tryz.underlying24 Hi.out Hz.out.1 Hz.out.2.1 Hz.out.2.2 rfl (by decide) g1 0 0 [] rfl F_g1.out ⟨bs, 0, none⟩ 1 1 (tcells (p0, p1, s2)) rfl rfl (fun j u hu => by rw [Addr.add_lit, Nat.zero_add]; exact F_bs.out.2.1 j u hu) (fun u hu => tcells_one [(p0, p1, s2)] u (by simpa using hu)) (by unfold maxLen; omega) (by omega) HL.out.size (fun g2 cap2 V3 hown hgrow hg hlt => ?_)
          have HL' := hide (HL.out.grown hgrow HL.out.size (fun k hk => by injection hk with hk; have := (F_g1.out.lt g1 rfl).1; omega))
          have HC' := hide (HCC.out.grown hgrow HCC.out.size (fun k hk => by injection hk with hk; have := (F_g1.out.lt g1 rfl).1; have := HBw.out.size; omega))
          have F_g2 : Hid (V3.ownsRow wc.heap.size 39 3 (.slice (some ⟨g2, 0, none⟩) 1 cap2) 1 (tcells (p0, p1, s2))) := hide (by simpa using hown)
          have L_g2 : Hid (g2 < V3.heap.size) := hide hlt
          clear HL HCC hown hgrow hg hlt F_g1 L_g1 N_g1_bs F_bs L_bs
          have HL := hide HL'.out
          have HCC := hide HC'.out
          clear HL' HC'
          refine hK _ _ ⟨later_of HL.out, ?_⟩
          simp only [Act.put, List.setIfInBounds_toArray, List.set_cons_succ, List.set_cons_zero]
          refine wpAnyS_two 15 17 (by kernel_rfl) (by simp; rfl) (by simp; rfl) rfl rfl rfl rfl (fun K hK => ?_) (fun K hK => ?_)
          ·
           refine wp_append_nil (.tmp 68) (.tmp 72) 24 rfl wc.heap.size 39 i0 3 Tryz.underlying24 Hi.out (.slice (some ⟨g2, 0, none⟩) 1 cap2) 1 (tcells (p0, p1, s2)) rfl F_g2.out 0 rfl (hK _ _ ⟨later_of HL.out, ?_⟩)
           obtain ⟨g3, rfl⟩ : ∃ g, g = g2 := ⟨_, rfl⟩
           have F_g3 := hide F_g2.out
           have L_g3 := hide L_g2.out
           clear F_g2 L_g2
           simp only [Act.put, List.setIfInBounds_toArray, List.set_cons_succ, List.set_cons_zero]
           refine wpAnyS_two 16 17 (by kernel_rfl) (by simp; rfl) (by simp; rfl) rfl rfl rfl rfl (fun K hK => ?_) (fun K hK => ?_)
           ·
            go_wp2_with fail
            refine ⟨later_of HL.out, ?_⟩
            refine wpAnyS_only 17 (by kernel_rfl) (by simp; rfl) rfl rfl (fun K hK => ?_)
            go_wp2_with fail
            have HL' : Hid (Below wc.heap.size wc (V3.alloc (.cells #[.int .i64 0, .slice none 0 0] 26))) := hide (below_alloc HL.out _)
            have HC' : Hid (Below w.heap.size w (V3.alloc (.cells #[.int .i64 0, .slice none 0 0] 26))) := hide (below_alloc HCC.out _)
            refine ⟨later_of HL'.out, ?_⟩
            replace F_g3 := hide (World.ownsRow.alloc F_g3.out (.cells #[.int .i64 0, .slice none 0 0] 26))
            have N_g3_tk : Hid (g3 ≠ V3.heap.size) := hide (by have := L_g3.out; omega)
            replace L_g3 : Hid (g3 < (V3.alloc (.cells #[.int .i64 0, .slice none 0 0] 26)).heap.size) := hide (by have := L_g3.out; simp; omega)
            have F_tk := hide (Row.new V3 #[.int .i64 0, .slice none 0 0] 26)
            have HTK : Hid (wc.heap.size ≤ V3.heap.size) := hide HL.out.size
            have L_tk : Hid (V3.heap.size < (V3.alloc (.cells #[.int .i64 0, .slice none 0 0] 26)).heap.size) := hide (by simp)
            clear HL HCC
            have HL := hide HL'.out
            have HCC := hide HC'.out
            clear HL' HC'
            generalize (V3.alloc (.cells #[.int .i64 0, .slice none 0 0] 26)) = V4 at *
            generalize V3.heap.size = tk at *
            refine wpAnyS_only 18 (by kernel_rfl) (by simp; rfl) rfl rfl (fun K hK => ?_)
            have t0 := F_tk.out.2.1 0 _ rfl
            have t1 := F_tk.out.2.1 1 _ rfl
            have u0 := F_tk.out.free 0
            have u1 := F_tk.out.free 1
            go_wp2_with fail
            have HL9 : Hid (Below wc.heap.size wc ((V4.setCell ⟨tk, 0, none⟩ (.int .i64 (k0 : Int))).setCell ⟨tk, 1, none⟩ (.slice (some ⟨g3, 0, none⟩) 1 cap2))) := hide ((HL.out.setCell (by exact HTK.out) _).setCell (by exact HTK.out) _)
            refine ⟨later_of HL9.out, ?_⟩
            refine wpAnyH_done (by kernel_rfl) ?_ _
            go_wp2_with fail
            go_meet
            have hne : ∀ b, (Value.slice (some ⟨g3, 0, none⟩) 1 cap2).ownBlock = some b → some b ≠ some tk := fun b hb e => by simp [Value.ownBlock] at hb; injection e with e; have := N_g3_tk.out; omega
            exact ⟨tk, g3, cap2, rfl, hide ((F_tk.out.set (k := 0) (by simp) _).set (k := 1) (by simp) _), hide (own_kept (own_kept F_g3.out (grown_set (g := tk) _ rfl) hne) (grown_set (g := tk) _ rfl) hne), HL9⟩
           ·
            go_wp2_with fail
            have HL' : Hid (Below wc.heap.size wc (V3.alloc (.cells #[.int .i64 0, .slice none 0 0] 26))) := hide (below_alloc HL.out _)
            have HC' : Hid (Below w.heap.size w (V3.alloc (.cells #[.int .i64 0, .slice none 0 0] 26))) := hide (below_alloc HCC.out _)
            refine ⟨later_of HL'.out, ?_⟩
            replace F_g3 := hide (World.ownsRow.alloc F_g3.out (.cells #[.int .i64 0, .slice none 0 0] 26))
            have N_g3_tk : Hid (g3 ≠ V3.heap.size) := hide (by have := L_g3.out; omega)
            replace L_g3 : Hid (g3 < (V3.alloc (.cells #[.int .i64 0, .slice none 0 0] 26)).heap.size) := hide (by have := L_g3.out; simp; omega)
            have F_tk := hide (Row.new V3 #[.int .i64 0, .slice none 0 0] 26)
            have HTK : Hid (wc.heap.size ≤ V3.heap.size) := hide HL.out.size
            have L_tk : Hid (V3.heap.size < (V3.alloc (.cells #[.int .i64 0, .slice none 0 0] 26)).heap.size) := hide (by simp)
            clear HL HCC
            have HL := hide HL'.out
            have HCC := hide HC'.out
            clear HL' HC'
            generalize (V3.alloc (.cells #[.int .i64 0, .slice none 0 0] 26)) = V4 at *
            generalize V3.heap.size = tk at *
            refine wpAnyS_only 16 (by kernel_rfl) (by simp; rfl) rfl rfl (fun K hK => ?_)
            go_wp2_with fail
            refine ⟨later_of HL.out, ?_⟩
            refine wpAnyS_only 18 (by kernel_rfl) (by simp; rfl) rfl rfl (fun K hK => ?_)
            have t0 := F_tk.out.2.1 0 _ rfl
            have t1 := F_tk.out.2.1 1 _ rfl
            have u0 := F_tk.out.free 0
            have u1 := F_tk.out.free 1
            go_wp2_with fail
            have HL9 : Hid (Below wc.heap.size wc ((V4.setCell ⟨tk, 0, none⟩ (.int .i64 (k0 : Int))).setCell ⟨tk, 1, none⟩ (.slice (some ⟨g3, 0, none⟩) 1 cap2))) := hide ((HL.out.setCell (by exact HTK.out) _).setCell (by exact HTK.out) _)
            refine ⟨later_of HL9.out, ?_⟩
            refine wpAnyH_done (by kernel_rfl) ?_ _
            go_wp2_with fail
            go_meet
            have hne : ∀ b, (Value.slice (some ⟨g3, 0, none⟩) 1 cap2).ownBlock = some b → some b ≠ some tk := fun b hb e => by simp [Value.ownBlock] at hb; injection e with e; have := N_g3_tk.out; omega
            exact ⟨tk, g3, cap2, rfl, hide ((F_tk.out.set (k := 0) (by simp) _).set (k := 1) (by simp) _), hide (own_kept (own_kept F_g3.out (grown_set (g := tk) _ rfl) hne) (grown_set (g := tk) _ rfl) hne), HL9⟩
          ·
           go_wp2_with fail
           have HL' : Hid (Below wc.heap.size wc (V3.alloc (.cells #[.int .i64 0, .slice none 0 0] 26))) := hide (below_alloc HL.out _)
           have HC' : Hid (Below w.heap.size w (V3.alloc (.cells #[.int .i64 0, .slice none 0 0] 26))) := hide (below_alloc HCC.out _)
           refine ⟨later_of HL'.out, ?_⟩
           replace F_g2 := hide (World.ownsRow.alloc F_g2.out (.cells #[.int .i64 0, .slice none 0 0] 26))
           have N_g2_tk : Hid (g2 ≠ V3.heap.size) := hide (by have := L_g2.out; omega)
           replace L_g2 : Hid (g2 < (V3.alloc (.cells #[.int .i64 0, .slice none 0 0] 26)).heap.size) := hide (by have := L_g2.out; simp; omega)
           have F_tk := hide (Row.new V3 #[.int .i64 0, .slice none 0 0] 26)
           have HTK : Hid (wc.heap.size ≤ V3.heap.size) := hide HL.out.size
           have L_tk : Hid (V3.heap.size < (V3.alloc (.cells #[.int .i64 0, .slice none 0 0] 26)).heap.size) := hide (by simp)
           clear HL HCC
           have HL := hide HL'.out
           have HCC := hide HC'.out
           clear HL' HC'
           generalize (V3.alloc (.cells #[.int .i64 0, .slice none 0 0] 26)) = V4 at *
           generalize V3.heap.size = tk at *
           refine wpAnyS_only 15 (by kernel_rfl) (by simp; rfl) rfl rfl (fun K hK => ?_)
           refine wp_append_nil (.tmp 68) (.tmp 72) 24 rfl wc.heap.size 39 i0 3 Tryz.underlying24 Hi.out (.slice (some ⟨g2, 0, none⟩) 1 cap2) 1 (tcells (p0, p1, s2)) rfl F_g2.out 0 rfl (hK _ _ ⟨later_of HL.out, ?_⟩)
           obtain ⟨g3, rfl⟩ : ∃ g, g = g2 := ⟨_, rfl⟩
           have F_g3 := hide F_g2.out
           have L_g3 := hide L_g2.out
           have N_g3_tk := hide N_g2_tk.out
           clear N_g2_tk
           clear F_g2 L_g2
           simp only [Act.put, List.setIfInBounds_toArray, List.set_cons_succ, List.set_cons_zero]
           refine wpAnyS_only 16 (by kernel_rfl) (by simp; rfl) rfl rfl (fun K hK => ?_)
           go_wp2_with fail
           refine ⟨later_of HL.out, ?_⟩
           refine wpAnyS_only 18 (by kernel_rfl) (by simp; rfl) rfl rfl (fun K hK => ?_)
           have t0 := F_tk.out.2.1 0 _ rfl
           have t1 := F_tk.out.2.1 1 _ rfl
           have u0 := F_tk.out.free 0
           have u1 := F_tk.out.free 1
           go_wp2_with fail
           have HL9 : Hid (Below wc.heap.size wc ((V4.setCell ⟨tk, 0, none⟩ (.int .i64 (k0 : Int))).setCell ⟨tk, 1, none⟩ (.slice (some ⟨g3, 0, none⟩) 1 cap2))) := hide ((HL.out.setCell (by exact HTK.out) _).setCell (by exact HTK.out) _)
           refine ⟨later_of HL9.out, ?_⟩
           refine wpAnyH_done (by kernel_rfl) ?_ _
           go_wp2_with fail
           go_meet
           have hne : ∀ b, (Value.slice (some ⟨g3, 0, none⟩) 1 cap2).ownBlock = some b → some b ≠ some tk := fun b hb e => by simp [Value.ownBlock] at hb; injection e with e; have := N_g3_tk.out; omega
           exact ⟨tk, g3, cap2, rfl, hide ((F_tk.out.set (k := 0) (by simp) _).set (k := 1) (by simp) _), hide (own_kept (own_kept F_g3.out (grown_set (g := tk) _ rfl) hne) (grown_set (g := tk) _ rfl) hne), HL9⟩
         ·
          go_wp2_with fail
          have HL' : Hid (Below wc.heap.size wc (V2.alloc (.cells #[.int .i64 0, .slice none 0 0] 26))) := hide (below_alloc HL.out _)
          have HC' : Hid (Below w.heap.size w (V2.alloc (.cells #[.int .i64 0, .slice none 0 0] 26))) := hide (below_alloc HCC.out _)
          refine ⟨later_of HL'.out, ?_⟩
          replace F_g1 := hide (World.ownsRow.alloc F_g1.out (.cells #[.int .i64 0, .slice none 0 0] 26))
          have N_g1_tk : Hid (g1 ≠ V2.heap.size) := hide (by have := L_g1.out; omega)
          replace L_g1 : Hid (g1 < (V2.alloc (.cells #[.int .i64 0, .slice none 0 0] 26)).heap.size) := hide (by have := L_g1.out; simp; omega)
          replace F_bs := hide (F_bs.out.alloc (.cells #[.int .i64 0, .slice none 0 0] 26))
          replace L_bs : Hid (bs < (V2.alloc (.cells #[.int .i64 0, .slice none 0 0] 26)).heap.size) := hide (by have := L_bs.out; simp; omega)
          have F_tk := hide (Row.new V2 #[.int .i64 0, .slice none 0 0] 26)
          have HTK : Hid (wc.heap.size ≤ V2.heap.size) := hide HL.out.size
          have L_tk : Hid (V2.heap.size < (V2.alloc (.cells #[.int .i64 0, .slice none 0 0] 26)).heap.size) := hide (by simp)
          clear HL HCC
          have HL := hide HL'.out
          have HCC := hide HC'.out
          clear HL' HC'
          generalize (V2.alloc (.cells #[.int .i64 0, .slice none 0 0] 26)) = V3 at *
          generalize V2.heap.size = tk at *
          refine wpAnyS_only 10 (by kernel_rfl) (by simp; rfl) rfl rfl (fun K hK => ?_)
          refine wp_append_at (.tmp 65) (.tmp 67) 24 rfl wc.heap.size 39 i0 _ 3 24 Tryz.underlying24 Hi.out Hz.out.1 Hz.out.2.1 Hz.out.2.2 rfl (by decide) g1 0 0 [] rfl F_g1.out ⟨bs, 0, none⟩ 1 1 (tcells (p0, p1, s2)) rfl rfl (fun j u hu => by rw [Addr.add_lit, Nat.zero_add]; exact F_bs.out.2.1 j u hu) (fun u hu => tcells_one [(p0, p1, s2)] u (by simpa using hu)) (by unfold maxLen; omega) (by omega) HL.out.size (fun g2 cap2 V4 hown hgrow hg hlt => ?_)
          have HL' := hide (HL.out.grown hgrow HL.out.size (fun k hk => by injection hk with hk; have := (F_g1.out.lt g1 rfl).1; omega))
          have HC' := hide (HCC.out.grown hgrow HCC.out.size (fun k hk => by injection hk with hk; have := (F_g1.out.lt g1 rfl).1; have := HBw.out.size; omega))
          replace F_tk := hide (F_tk.out.grown hgrow (fun e => by injection e with e; have := N_g1_tk.out; omega))
          have N_g2_tk : Hid (g2 ≠ tk) := hide (by have := L_tk.out; have := N_g1_tk.out; omega)
          replace L_tk : Hid (tk < V4.heap.size) := hide (by have := L_tk.out; have := hgrow.size; omega)
          clear N_g1_tk
          have F_g2 : Hid (V4.ownsRow wc.heap.size 39 3 (.slice (some ⟨g2, 0, none⟩) 1 cap2) 1 (tcells (p0, p1, s2))) := hide (by simpa using hown)
          have L_g2 : Hid (g2 < V4.heap.size) := hide hlt
          clear HL HCC hown hgrow hg hlt F_g1 L_g1 N_g1_bs F_bs L_bs
          have HL := hide HL'.out
          have HCC := hide HC'.out
          clear HL' HC'
          refine hK _ _ ⟨later_of HL.out, ?_⟩
          simp only [Act.put, List.setIfInBounds_toArray, List.set_cons_succ, List.set_cons_zero]
          refine wpAnyS_only 15 (by kernel_rfl) (by simp; rfl) rfl rfl (fun K hK => ?_)
          refine wp_append_nil (.tmp 68) (.tmp 72) 24 rfl wc.heap.size 39 i0 3 Tryz.underlying24 Hi.out (.slice (some ⟨g2, 0, none⟩) 1 cap2) 1 (tcells (p0, p1, s2)) rfl F_g2.out 0 rfl (hK _ _ ⟨later_of HL.out, ?_⟩)
          obtain ⟨g3, rfl⟩ : ∃ g, g = g2 := ⟨_, rfl⟩
          have F_g3 := hide F_g2.out
          have L_g3 := hide L_g2.out
          have N_g3_tk := hide N_g2_tk.out
          clear N_g2_tk
          clear F_g2 L_g2
          simp only [Act.put, List.setIfInBounds_toArray, List.set_cons_succ, List.set_cons_zero]
          refine wpAnyS_only 16 (by kernel_rfl) (by simp; rfl) rfl rfl (fun K hK => ?_)
          go_wp2_with fail
          refine ⟨later_of HL.out, ?_⟩
          refine wpAnyS_only 18 (by kernel_rfl) (by simp; rfl) rfl rfl (fun K hK => ?_)
          have t0 := F_tk.out.2.1 0 _ rfl
          have t1 := F_tk.out.2.1 1 _ rfl
          have u0 := F_tk.out.free 0
          have u1 := F_tk.out.free 1
          go_wp2_with fail
          have HL9 : Hid (Below wc.heap.size wc ((V4.setCell ⟨tk, 0, none⟩ (.int .i64 (k0 : Int))).setCell ⟨tk, 1, none⟩ (.slice (some ⟨g3, 0, none⟩) 1 cap2))) := hide ((HL.out.setCell (by exact HTK.out) _).setCell (by exact HTK.out) _)
          refine ⟨later_of HL9.out, ?_⟩
          refine wpAnyH_done (by kernel_rfl) ?_ _
          go_wp2_with fail
          go_meet
          have hne : ∀ b, (Value.slice (some ⟨g3, 0, none⟩) 1 cap2).ownBlock = some b → some b ≠ some tk := fun b hb e => by simp [Value.ownBlock] at hb; injection e with e; have := N_g3_tk.out; omega
          exact ⟨tk, g3, cap2, rfl, hide ((F_tk.out.set (k := 0) (by simp) _).set (k := 1) (by simp) _), hide (own_kept (own_kept F_g3.out (grown_set (g := tk) _ rfl) hne) (grown_set (g := tk) _ rfl) hne), HL9⟩
        ·
         go_wp2_with fail
         have HL' : Hid (Below wc.heap.size wc (V2.alloc (.cells #[.int .i64 0, .slice none 0 0] 26))) := hide (below_alloc HL.out _)
         have HC' : Hid (Below w.heap.size w (V2.alloc (.cells #[.int .i64 0, .slice none 0 0] 26))) := hide (below_alloc HCC.out _)
         refine ⟨later_of HL'.out, ?_⟩
         replace F_b0 := hide (World.ownsRow.alloc F_b0.out (.cells #[.int .i64 0, .slice none 0 0] 26))
         have N_b0_tk : Hid (b0 ≠ V2.heap.size) := hide (by have := L_b0.out; omega)
         replace L_b0 : Hid (b0 < (V2.alloc (.cells #[.int .i64 0, .slice none 0 0] 26)).heap.size) := hide (by have := L_b0.out; simp; omega)
         replace F_bs := hide (F_bs.out.alloc (.cells #[.int .i64 0, .slice none 0 0] 26))
         replace L_bs : Hid (bs < (V2.alloc (.cells #[.int .i64 0, .slice none 0 0] 26)).heap.size) := hide (by have := L_bs.out; simp; omega)
         have F_tk := hide (Row.new V2 #[.int .i64 0, .slice none 0 0] 26)
         have HTK : Hid (wc.heap.size ≤ V2.heap.size) := hide HL.out.size
         have L_tk : Hid (V2.heap.size < (V2.alloc (.cells #[.int .i64 0, .slice none 0 0] 26)).heap.size) := hide (by simp)
         clear HL HCC
         have HL := hide HL'.out
         have HCC := hide HC'.out
         clear HL' HC'
         generalize (V2.alloc (.cells #[.int .i64 0, .slice none 0 0] 26)) = V3 at *
         generalize V2.heap.size = tk at *
         refine wpAnyS_only 7 (by kernel_rfl) (by simp; rfl) rfl rfl (fun K hK => ?_)
         refine wp_append_nil (.tmp 60) (.tmp 64) 24 rfl wc.heap.size 39 i0 3 Tryz.underlying24 Hi.out (.slice (some ⟨b0, 0, none⟩) 0 0) 0 [] rfl F_b0.out 0 rfl (hK _ _ ⟨later_of HL.out, ?_⟩)
         obtain ⟨g1, rfl⟩ : ∃ g, g = b0 := ⟨_, rfl⟩
         have F_g1 := hide F_b0.out
         have L_g1 := hide L_b0.out
         have N_g1_bs := hide N_b0_bs.out
         clear N_b0_bs
         have N_g1_tk := hide N_b0_tk.out
         clear N_b0_tk
         clear F_b0 L_b0
         simp only [Act.put, List.setIfInBounds_toArray, List.set_cons_succ, List.set_cons_zero]
         refine wpAnyS_only 10 (by kernel_rfl) (by simp; rfl) rfl rfl (fun K hK => ?_)
         refine wp_append_at (.tmp 65) (.tmp 67) 24 rfl wc.heap.size 39 i0 _ 3 24 Tryz.underlying24 Hi.out Hz.out.1 Hz.out.2.1 Hz.out.2.2 rfl (by decide) g1 0 0 [] rfl F_g1.out ⟨bs, 0, none⟩ 1 1 (tcells (p0, p1, s2)) rfl rfl (fun j u hu => by rw [Addr.add_lit, Nat.zero_add]; exact F_bs.out.2.1 j u hu) (fun u hu => tcells_one [(p0, p1, s2)] u (by simpa using hu)) (by unfold maxLen; omega) (by omega) HL.out.size (fun g2 cap2 V4 hown hgrow hg hlt => ?_)
         have HL' := hide (HL.out.grown hgrow HL.out.size (fun k hk => by injection hk with hk; have := (F_g1.out.lt g1 rfl).1; omega))
         have HC' := hide (HCC.out.grown hgrow HCC.out.size (fun k hk => by injection hk with hk; have := (F_g1.out.lt g1 rfl).1; have := HBw.out.size; omega))
         replace F_tk := hide (F_tk.out.grown hgrow (fun e => by injection e with e; have := N_g1_tk.out; omega))
         have N_g2_tk : Hid (g2 ≠ tk) := hide (by have := L_tk.out; have := N_g1_tk.out; omega)
         replace L_tk : Hid (tk < V4.heap.size) := hide (by have := L_tk.out; have := hgrow.size; omega)
         clear N_g1_tk
         have F_g2 : Hid (V4.ownsRow wc.heap.size 39 3 (.slice (some ⟨g2, 0, none⟩) 1 cap2) 1 (tcells (p0, p1, s2))) := hide (by simpa using hown)
         have L_g2 : Hid (g2 < V4.heap.size) := hide hlt
         clear HL HCC hown hgrow hg hlt F_g1 L_g1 N_g1_bs F_bs L_bs
         have HL := hide HL'.out
         have HCC := hide HC'.out
         clear HL' HC'
         refine hK _ _ ⟨later_of HL.out, ?_⟩
         simp only [Act.put, List.setIfInBounds_toArray, List.set_cons_succ, List.set_cons_zero]
         refine wpAnyS_only 15 (by kernel_rfl) (by simp; rfl) rfl rfl (fun K hK => ?_)
         refine wp_append_nil (.tmp 68) (.tmp 72) 24 rfl wc.heap.size 39 i0 3 Tryz.underlying24 Hi.out (.slice (some ⟨g2, 0, none⟩) 1 cap2) 1 (tcells (p0, p1, s2)) rfl F_g2.out 0 rfl (hK _ _ ⟨later_of HL.out, ?_⟩)
         obtain ⟨g3, rfl⟩ : ∃ g, g = g2 := ⟨_, rfl⟩
         have F_g3 := hide F_g2.out
         have L_g3 := hide L_g2.out
         have N_g3_tk := hide N_g2_tk.out
         clear N_g2_tk
         clear F_g2 L_g2
         simp only [Act.put, List.setIfInBounds_toArray, List.set_cons_succ, List.set_cons_zero]
         refine wpAnyS_only 16 (by kernel_rfl) (by simp; rfl) rfl rfl (fun K hK => ?_)
         go_wp2_with fail
         refine ⟨later_of HL.out, ?_⟩
         refine wpAnyS_only 18 (by kernel_rfl) (by simp; rfl) rfl rfl (fun K hK => ?_)
         have t0 := F_tk.out.2.1 0 _ rfl
         have t1 := F_tk.out.2.1 1 _ rfl
         have u0 := F_tk.out.free 0
         have u1 := F_tk.out.free 1
         go_wp2_with fail
         have HL9 : Hid (Below wc.heap.size wc ((V4.setCell ⟨tk, 0, none⟩ (.int .i64 (k0 : Int))).setCell ⟨tk, 1, none⟩ (.slice (some ⟨g3, 0, none⟩) 1 cap2))) := hide ((HL.out.setCell (by exact HTK.out) _).setCell (by exact HTK.out) _)
         refine ⟨later_of HL9.out, ?_⟩
         refine wpAnyH_done (by kernel_rfl) ?_ _
         go_wp2_with fail
         go_meet
         have hne : ∀ b, (Value.slice (some ⟨g3, 0, none⟩) 1 cap2).ownBlock = some b → some b ≠ some tk := fun b hb e => by simp [Value.ownBlock] at hb; injection e with e; have := N_g3_tk.out; omega
         exact ⟨tk, g3, cap2, rfl, hide ((F_tk.out.set (k := 0) (by simp) _).set (k := 1) (by simp) _), hide (own_kept (own_kept F_g3.out (grown_set (g := tk) _ rfl) hne) (grown_set (g := tk) _ rfl) hne), HL9⟩
       ·
        go_wp2_with fail
        have HL' : Hid (Below wc.heap.size wc (V1.alloc (.cells #[.int .i64 0, .slice none 0 0] 26))) := hide (below_alloc HL.out _)
        have HC' : Hid (Below w.heap.size w (V1.alloc (.cells #[.int .i64 0, .slice none 0 0] 26))) := hide (below_alloc HCC.out _)
        refine ⟨later_of HL'.out, ?_⟩
        replace F_b0 := hide (World.ownsRow.alloc F_b0.out (.cells #[.int .i64 0, .slice none 0 0] 26))
        have N_b0_tk : Hid (b0 ≠ V1.heap.size) := hide (by have := L_b0.out; omega)
        replace L_b0 : Hid (b0 < (V1.alloc (.cells #[.int .i64 0, .slice none 0 0] 26)).heap.size) := hide (by have := L_b0.out; simp; omega)
        have F_tk := hide (Row.new V1 #[.int .i64 0, .slice none 0 0] 26)
        have HTK : Hid (wc.heap.size ≤ V1.heap.size) := hide HL.out.size
        have L_tk : Hid (V1.heap.size < (V1.alloc (.cells #[.int .i64 0, .slice none 0 0] 26)).heap.size) := hide (by simp)
        clear HL HCC
        have HL := hide HL'.out
        have HCC := hide HC'.out
        clear HL' HC'
        generalize (V1.alloc (.cells #[.int .i64 0, .slice none 0 0] 26)) = V2 at *
        generalize V1.heap.size = tk at *
        refine wpAnyS_two 7 9 (by kernel_rfl) (by simp; rfl) (by simp; rfl) rfl rfl rfl rfl (fun K hK => ?_) (fun K hK => ?_)
        ·
         refine wp_append_nil (.tmp 60) (.tmp 64) 24 rfl wc.heap.size 39 i0 3 Tryz.underlying24 Hi.out (.slice (some ⟨b0, 0, none⟩) 0 0) 0 [] rfl F_b0.out 0 rfl (hK _ _ ⟨later_of HL.out, ?_⟩)
         obtain ⟨g1, rfl⟩ : ∃ g, g = b0 := ⟨_, rfl⟩
         have F_g1 := hide F_b0.out
         have L_g1 := hide L_b0.out
         have N_g1_tk := hide N_b0_tk.out
         clear N_b0_tk
         clear F_b0 L_b0
         simp only [Act.put, List.setIfInBounds_toArray, List.set_cons_succ, List.set_cons_zero]
         refine wpAnyS_only 9 (by kernel_rfl) (by simp; rfl) rfl rfl (fun K hK => ?_)
         go_wp2_with fail
         have HL' : Hid (Below wc.heap.size wc (V2.alloc (.cells #[.int .i64 p0, .int .i64 p1, .int .i64 s2] 39))) := hide (below_alloc HL.out _)
         have HC' : Hid (Below w.heap.size w (V2.alloc (.cells #[.int .i64 p0, .int .i64 p1, .int .i64 s2] 39))) := hide (below_alloc HCC.out _)
         refine ⟨later_of HL'.out, ?_⟩
         replace F_g1 := hide (World.ownsRow.alloc F_g1.out (.cells #[.int .i64 p0, .int .i64 p1, .int .i64 s2] 39))
         have N_g1_bs : Hid (g1 ≠ V2.heap.size) := hide (by have := L_g1.out; omega)
         replace L_g1 : Hid (g1 < (V2.alloc (.cells #[.int .i64 p0, .int .i64 p1, .int .i64 s2] 39)).heap.size) := hide (by have := L_g1.out; simp; omega)
         replace F_tk := hide (F_tk.out.alloc (.cells #[.int .i64 p0, .int .i64 p1, .int .i64 s2] 39))
         replace L_tk : Hid (tk < (V2.alloc (.cells #[.int .i64 p0, .int .i64 p1, .int .i64 s2] 39)).heap.size) := hide (by have := L_tk.out; simp; omega)
         have F_bs := hide (Row.new V2 #[.int .i64 p0, .int .i64 p1, .int .i64 s2] 39)
         have L_bs : Hid (V2.heap.size < (V2.alloc (.cells #[.int .i64 p0, .int .i64 p1, .int .i64 s2] 39)).heap.size) := hide (by simp)
         clear HL HCC
         have HL := hide HL'.out
         have HCC := hide HC'.out
         clear HL' HC'
         generalize (V2.alloc (.cells #[.int .i64 p0, .int .i64 p1, .int .i64 s2] 39)) = V3 at *
         generalize V2.heap.size = bs at *
         refine wpAnyS_only 10 (by kernel_rfl) (by simp; rfl) rfl rfl (fun K hK => ?_)
         refine wp_append_at (.tmp 65) (.tmp 67) 24 rfl wc.heap.size 39 i0 _ 3 24 Tryz.underlying24 Hi.out Hz.out.1 Hz.out.2.1 Hz.out.2.2 rfl (by decide) g1 0 0 [] rfl F_g1.out ⟨bs, 0, none⟩ 1 1 (tcells (p0, p1, s2)) rfl rfl (fun j u hu => by rw [Addr.add_lit, Nat.zero_add]; exact F_bs.out.2.1 j u hu) (fun u hu => tcells_one [(p0, p1, s2)] u (by simpa using hu)) (by unfold maxLen; omega) (by omega) HL.out.size (fun g2 cap2 V4 hown hgrow hg hlt => ?_)
         have HL' := hide (HL.out.grown hgrow HL.out.size (fun k hk => by injection hk with hk; have := (F_g1.out.lt g1 rfl).1; omega))
         have HC' := hide (HCC.out.grown hgrow HCC.out.size (fun k hk => by injection hk with hk; have := (F_g1.out.lt g1 rfl).1; have := HBw.out.size; omega))
         replace F_tk := hide (F_tk.out.grown hgrow (fun e => by injection e with e; have := N_g1_tk.out; omega))
         have N_g2_tk : Hid (g2 ≠ tk) := hide (by have := L_tk.out; have := N_g1_tk.out; omega)
         replace L_tk : Hid (tk < V4.heap.size) := hide (by have := L_tk.out; have := hgrow.size; omega)
         clear N_g1_tk
         have F_g2 : Hid (V4.ownsRow wc.heap.size 39 3 (.slice (some ⟨g2, 0, none⟩) 1 cap2) 1 (tcells (p0, p1, s2))) := hide (by simpa using hown)
         have L_g2 : Hid (g2 < V4.heap.size) := hide hlt
         clear HL HCC hown hgrow hg hlt F_g1 L_g1 N_g1_bs F_bs L_bs
         have HL := hide HL'.out
         have HCC := hide HC'.out
         clear HL' HC'
         refine hK _ _ ⟨later_of HL.out, ?_⟩
         simp only [Act.put, List.setIfInBounds_toArray, List.set_cons_succ, List.set_cons_zero]
         refine wpAnyS_only 15 (by kernel_rfl) (by simp; rfl) rfl rfl (fun K hK => ?_)
         refine wp_append_nil (.tmp 68) (.tmp 72) 24 rfl wc.heap.size 39 i0 3 Tryz.underlying24 Hi.out (.slice (some ⟨g2, 0, none⟩) 1 cap2) 1 (tcells (p0, p1, s2)) rfl F_g2.out 0 rfl (hK _ _ ⟨later_of HL.out, ?_⟩)
         obtain ⟨g3, rfl⟩ : ∃ g, g = g2 := ⟨_, rfl⟩
         have F_g3 := hide F_g2.out
         have L_g3 := hide L_g2.out
         have N_g3_tk := hide N_g2_tk.out
         clear N_g2_tk
         clear F_g2 L_g2
         simp only [Act.put, List.setIfInBounds_toArray, List.set_cons_succ, List.set_cons_zero]
         refine wpAnyS_only 16 (by kernel_rfl) (by simp; rfl) rfl rfl (fun K hK => ?_)
         go_wp2_with fail
         refine ⟨later_of HL.out, ?_⟩
         refine wpAnyS_only 18 (by kernel_rfl) (by simp; rfl) rfl rfl (fun K hK => ?_)
         have t0 := F_tk.out.2.1 0 _ rfl
         have t1 := F_tk.out.2.1 1 _ rfl
         have u0 := F_tk.out.free 0
         have u1 := F_tk.out.free 1
         go_wp2_with fail
         have HL9 : Hid (Below wc.heap.size wc ((V4.setCell ⟨tk, 0, none⟩ (.int .i64 (k0 : Int))).setCell ⟨tk, 1, none⟩ (.slice (some ⟨g3, 0, none⟩) 1 cap2))) := hide ((HL.out.setCell (by exact HTK.out) _).setCell (by exact HTK.out) _)
         refine ⟨later_of HL9.out, ?_⟩
         refine wpAnyH_done (by kernel_rfl) ?_ _
         go_wp2_with fail
         go_meet
         have hne : ∀ b, (Value.slice (some ⟨g3, 0, none⟩) 1 cap2).ownBlock = some b → some b ≠ some tk := fun b hb e => by simp [Value.ownBlock] at hb; injection e with e; have := N_g3_tk.out; omega
         exact ⟨tk, g3, cap2, rfl, hide ((F_tk.out.set (k := 0) (by simp) _).set (k := 1) (by simp) _), hide (own_kept (own_kept F_g3.out (grown_set (g := tk) _ rfl) hne) (grown_set (g := tk) _ rfl) hne), HL9⟩
        ·
         go_wp2_with fail
         have HL' : Hid (Below wc.heap.size wc (V2.alloc (.cells #[.int .i64 p0, .int .i64 p1, .int .i64 s2] 39))) := hide (below_alloc HL.out _)
         have HC' : Hid (Below w.heap.size w (V2.alloc (.cells #[.int .i64 p0, .int .i64 p1, .int .i64 s2] 39))) := hide (below_alloc HCC.out _)
         refine ⟨later_of HL'.out, ?_⟩
         replace F_b0 := hide (World.ownsRow.alloc F_b0.out (.cells #[.int .i64 p0, .int .i64 p1, .int .i64 s2] 39))
         have N_b0_bs : Hid (b0 ≠ V2.heap.size) := hide (by have := L_b0.out; omega)
         replace L_b0 : Hid (b0 < (V2.alloc (.cells #[.int .i64 p0, .int .i64 p1, .int .i64 s2] 39)).heap.size) := hide (by have := L_b0.out; simp; omega)
         replace F_tk := hide (F_tk.out.alloc (.cells #[.int .i64 p0, .int .i64 p1, .int .i64 s2] 39))
         replace L_tk : Hid (tk < (V2.alloc (.cells #[.int .i64 p0, .int .i64 p1, .int .i64 s2] 39)).heap.size) := hide (by have := L_tk.out; simp; omega)
         have F_bs := hide (Row.new V2 #[.int .i64 p0, .int .i64 p1, .int .i64 s2] 39)
         have L_bs : Hid (V2.heap.size < (V2.alloc (.cells #[.int .i64 p0, .int .i64 p1, .int .i64 s2] 39)).heap.size) := hide (by simp)
         clear HL HCC
         have HL := hide HL'.out
         have HCC := hide HC'.out
         clear HL' HC'
         generalize (V2.alloc (.cells #[.int .i64 p0, .int .i64 p1, .int .i64 s2] 39)) = V3 at *
         generalize V2.heap.size = bs at *
         refine wpAnyS_only 7 (by kernel_rfl) (by simp; rfl) rfl rfl (fun K hK => ?_)
         refine wp_append_nil (.tmp 60) (.tmp 64) 24 rfl wc.heap.size 39 i0 3 Tryz.underlying24 Hi.out (.slice (some ⟨b0, 0, none⟩) 0 0) 0 [] rfl F_b0.out 0 rfl (hK _ _ ⟨later_of HL.out, ?_⟩)
         obtain ⟨g1, rfl⟩ : ∃ g, g = b0 := ⟨_, rfl⟩
         have F_g1 := hide F_b0.out
         have L_g1 := hide L_b0.out
         have N_g1_bs := hide N_b0_bs.out
         clear N_b0_bs
         have N_g1_tk := hide N_b0_tk.out
         clear N_b0_tk
         clear F_b0 L_b0
         simp only [Act.put, List.setIfInBounds_toArray, List.set_cons_succ, List.set_cons_zero]
         refine wpAnyS_only 10 (by kernel_rfl) (by simp; rfl) rfl rfl (fun K hK => ?_)
         refine wp_append_at (.tmp 65) (.tmp 67) 24 rfl wc.heap.size 39 i0 _ 3 24 Tryz.underlying24 Hi.out Hz.out.1 Hz.out.2.1 Hz.out.2.2 rfl (by decide) g1 0 0 [] rfl F_g1.out ⟨bs, 0, none⟩ 1 1 (tcells (p0, p1, s2)) rfl rfl (fun j u hu => by rw [Addr.add_lit, Nat.zero_add]; exact F_bs.out.2.1 j u hu) (fun u hu => tcells_one [(p0, p1, s2)] u (by simpa using hu)) (by unfold maxLen; omega) (by omega) HL.out.size (fun g2 cap2 V4 hown hgrow hg hlt => ?_)
         have HL' := hide (HL.out.grown hgrow HL.out.size (fun k hk => by injection hk with hk; have := (F_g1.out.lt g1 rfl).1; omega))
         have HC' := hide (HCC.out.grown hgrow HCC.out.size (fun k hk => by injection hk with hk; have := (F_g1.out.lt g1 rfl).1; have := HBw.out.size; omega))
         replace F_tk := hide (F_tk.out.grown hgrow (fun e => by injection e with e; have := N_g1_tk.out; omega))
         have N_g2_tk : Hid (g2 ≠ tk) := hide (by have := L_tk.out; have := N_g1_tk.out; omega)
         replace L_tk : Hid (tk < V4.heap.size) := hide (by have := L_tk.out; have := hgrow.size; omega)
         clear N_g1_tk
         have F_g2 : Hid (V4.ownsRow wc.heap.size 39 3 (.slice (some ⟨g2, 0, none⟩) 1 cap2) 1 (tcells (p0, p1, s2))) := hide (by simpa using hown)
         have L_g2 : Hid (g2 < V4.heap.size) := hide hlt
         clear HL HCC hown hgrow hg hlt F_g1 L_g1 N_g1_bs F_bs L_bs
         have HL := hide HL'.out
         have HCC := hide HC'.out
         clear HL' HC'
         refine hK _ _ ⟨later_of HL.out, ?_⟩
         simp only [Act.put, List.setIfInBounds_toArray, List.set_cons_succ, List.set_cons_zero]
         refine wpAnyS_only 15 (by kernel_rfl) (by simp; rfl) rfl rfl (fun K hK => ?_)
         refine wp_append_nil (.tmp 68) (.tmp 72) 24 rfl wc.heap.size 39 i0 3 Tryz.underlying24 Hi.out (.slice (some ⟨g2, 0, none⟩) 1 cap2) 1 (tcells (p0, p1, s2)) rfl F_g2.out 0 rfl (hK _ _ ⟨later_of HL.out, ?_⟩)
         obtain ⟨g3, rfl⟩ : ∃ g, g = g2 := ⟨_, rfl⟩
         have F_g3 := hide F_g2.out
         have L_g3 := hide L_g2.out
         have N_g3_tk := hide N_g2_tk.out
         clear N_g2_tk
         clear F_g2 L_g2
         simp only [Act.put, List.setIfInBounds_toArray, List.set_cons_succ, List.set_cons_zero]
         refine wpAnyS_only 16 (by kernel_rfl) (by simp; rfl) rfl rfl (fun K hK => ?_)
         go_wp2_with fail
         refine ⟨later_of HL.out, ?_⟩
         refine wpAnyS_only 18 (by kernel_rfl) (by simp; rfl) rfl rfl (fun K hK => ?_)
         have t0 := F_tk.out.2.1 0 _ rfl
         have t1 := F_tk.out.2.1 1 _ rfl
         have u0 := F_tk.out.free 0
         have u1 := F_tk.out.free 1
         go_wp2_with fail
         have HL9 : Hid (Below wc.heap.size wc ((V4.setCell ⟨tk, 0, none⟩ (.int .i64 (k0 : Int))).setCell ⟨tk, 1, none⟩ (.slice (some ⟨g3, 0, none⟩) 1 cap2))) := hide ((HL.out.setCell (by exact HTK.out) _).setCell (by exact HTK.out) _)
         refine ⟨later_of HL9.out, ?_⟩
         refine wpAnyH_done (by kernel_rfl) ?_ _
         go_wp2_with fail
         go_meet
         have hne : ∀ b, (Value.slice (some ⟨g3, 0, none⟩) 1 cap2).ownBlock = some b → some b ≠ some tk := fun b hb e => by simp [Value.ownBlock] at hb; injection e with e; have := N_g3_tk.out; omega
         exact ⟨tk, g3, cap2, rfl, hide ((F_tk.out.set (k := 0) (by simp) _).set (k := 1) (by simp) _), hide (own_kept (own_kept F_g3.out (grown_set (g := tk) _ rfl) hne) (grown_set (g := tk) _ rfl) hne), HL9⟩
      ·
       go_wp2_with fail
       have HL' : Hid (Below wc.heap.size wc (V0.alloc (.cells #[.int .i64 p0, .int .i64 p1, .int .i64 s2] 39))) := hide (below_alloc HL.out _)
       have HC' : Hid (Below w.heap.size w (V0.alloc (.cells #[.int .i64 p0, .int .i64 p1, .int .i64 s2] 39))) := hide (below_alloc HCC.out _)
       refine ⟨later_of HL'.out, ?_⟩
       have F_bs := hide (Row.new V0 #[.int .i64 p0, .int .i64 p1, .int .i64 s2] 39)
       have L_bs : Hid (V0.heap.size < (V0.alloc (.cells #[.int .i64 p0, .int .i64 p1, .int .i64 s2] 39)).heap.size) := hide (by simp)
       clear HL HCC
       have HL := hide HL'.out
       have HCC := hide HC'.out
       clear HL' HC'
       generalize (V0.alloc (.cells #[.int .i64 p0, .int .i64 p1, .int .i64 s2] 39)) = V1 at *
       generalize V0.heap.size = bs at *
       refine wpAnyS_two 2 17 (by kernel_rfl) (by simp; rfl) (by simp; rfl) rfl rfl rfl rfl (fun K hK => ?_) (fun K hK => ?_)
       ·
        go_wp2_with fail
        have HL' : Hid (Below wc.heap.size wc (V1.alloc (.cells #[] 39))) := hide (below_alloc HL.out _)
        have HC' : Hid (Below w.heap.size w (V1.alloc (.cells #[] 39))) := hide (below_alloc HCC.out _)
        refine ⟨later_of HL'.out, ?_⟩
        replace F_bs := hide (F_bs.out.alloc (.cells #[] 39))
        have N_b0_bs : Hid (V1.heap.size ≠ bs) := hide (by have := L_bs.out; omega)
        replace L_bs : Hid (bs < (V1.alloc (.cells #[] 39)).heap.size) := hide (by have := L_bs.out; simp; omega)
        have F_b0 : Hid ((V1.alloc (.cells #[] 39)).ownsRow wc.heap.size 39 3 (.slice (some ⟨V1.heap.size, 0, none⟩) 0 0) 0 []) := hide (World.ownsRow_made V1 #[] 0 HL.out.size (Nat.zero_le _) rfl)
        have L_b0 : Hid (V1.heap.size < (V1.alloc (.cells #[] 39)).heap.size) := hide (by simp)
        clear HL HCC
        have HL := hide HL'.out
        have HCC := hide HC'.out
        clear HL' HC'
        generalize (V1.alloc (.cells #[] 39)) = V2 at *
        generalize V1.heap.size = b0 at *
        refine wpAnyS_two 7 17 (by kernel_rfl) (by simp; rfl) (by simp; rfl) rfl rfl rfl rfl (fun K hK => ?_) (fun K hK => ?_)
        ·
         refine wp_append_nil (.tmp 60) (.tmp 64) 24 rfl wc.heap.size 39 i0 3 Tryz.underlying24 Hi.out (.slice (some ⟨b0, 0, none⟩) 0 0) 0 [] rfl F_b0.out 0 rfl (hK _ _ ⟨later_of HL.out, ?_⟩)
         obtain ⟨g1, rfl⟩ : ∃ g, g = b0 := ⟨_, rfl⟩
         have F_g1 := hide F_b0.out
         have L_g1 := hide L_b0.out
         have N_g1_bs := hide N_b0_bs.out
         clear N_b0_bs
         clear F_b0 L_b0
         simp only [Act.put, List.setIfInBounds_toArray, List.set_cons_succ, List.set_cons_zero]
         refine wpAnyS_two 10 17 (by kernel_rfl) (by simp; rfl) (by simp; rfl) rfl rfl rfl rfl (fun K hK => ?_) (fun K hK => ?_)
         ·
          refine wp_append_at (.tmp 65) (.tmp 67) 24 rfl wc.heap.size 39 i0 _ 3 24 Tryz.underlying24 Hi.out Hz.out.1 Hz.out.2.1 Hz.out.2.2 rfl (by decide) g1 0 0 [] rfl F_g1.out ⟨bs, 0, none⟩ 1 1 (tcells (p0, p1, s2)) rfl rfl (fun j u hu => by rw [Addr.add_lit, Nat.zero_add]; exact F_bs.out.2.1 j u hu) (fun u hu => tcells_one [(p0, p1, s2)] u (by simpa using hu)) (by unfold maxLen; omega) (by omega) HL.out.size (fun g2 cap2 V3 hown hgrow hg hlt => ?_)
          have HL' := hide (HL.out.grown hgrow HL.out.size (fun k hk => by injection hk with hk; have := (F_g1.out.lt g1 rfl).1; omega))
          have HC' := hide (HCC.out.grown hgrow HCC.out.size (fun k hk => by injection hk with hk; have := (F_g1.out.lt g1 rfl).1; have := HBw.out.size; omega))
          have F_g2 : Hid (V3.ownsRow wc.heap.size 39 3 (.slice (some ⟨g2, 0, none⟩) 1 cap2) 1 (tcells (p0, p1, s2))) := hide (by simpa using hown)
          have L_g2 : Hid (g2 < V3.heap.size) := hide hlt
          clear HL HCC hown hgrow hg hlt F_g1 L_g1 N_g1_bs F_bs L_bs
          have HL := hide HL'.out
          have HCC := hide HC'.out
          clear HL' HC'
          refine hK _ _ ⟨later_of HL.out, ?_⟩
          simp only [Act.put, List.setIfInBounds_toArray, List.set_cons_succ, List.set_cons_zero]
          refine wpAnyS_two 15 17 (by kernel_rfl) (by simp; rfl) (by simp; rfl) rfl rfl rfl rfl (fun K hK => ?_) (fun K hK => ?_)
          ·
           refine wp_append_nil (.tmp 68) (.tmp 72) 24 rfl wc.heap.size 39 i0 3 Tryz.underlying24 Hi.out (.slice (some ⟨g2, 0, none⟩) 1 cap2) 1 (tcells (p0, p1, s2)) rfl F_g2.out 0 rfl (hK _ _ ⟨later_of HL.out, ?_⟩)
           obtain ⟨g3, rfl⟩ : ∃ g, g = g2 := ⟨_, rfl⟩
           have F_g3 := hide F_g2.out
           have L_g3 := hide L_g2.out
           clear F_g2 L_g2
           simp only [Act.put, List.setIfInBounds_toArray, List.set_cons_succ, List.set_cons_zero]
           refine wpAnyS_two 16 17 (by kernel_rfl) (by simp; rfl) (by simp; rfl) rfl rfl rfl rfl (fun K hK => ?_) (fun K hK => ?_)
           ·
            go_wp2_with fail
            refine ⟨later_of HL.out, ?_⟩
            refine wpAnyS_only 17 (by kernel_rfl) (by simp; rfl) rfl rfl (fun K hK => ?_)
            go_wp2_with fail
            have HL' : Hid (Below wc.heap.size wc (V3.alloc (.cells #[.int .i64 0, .slice none 0 0] 26))) := hide (below_alloc HL.out _)
            have HC' : Hid (Below w.heap.size w (V3.alloc (.cells #[.int .i64 0, .slice none 0 0] 26))) := hide (below_alloc HCC.out _)
            refine ⟨later_of HL'.out, ?_⟩
            replace F_g3 := hide (World.ownsRow.alloc F_g3.out (.cells #[.int .i64 0, .slice none 0 0] 26))
            have N_g3_tk : Hid (g3 ≠ V3.heap.size) := hide (by have := L_g3.out; omega)
            replace L_g3 : Hid (g3 < (V3.alloc (.cells #[.int .i64 0, .slice none 0 0] 26)).heap.size) := hide (by have := L_g3.out; simp; omega)
            have F_tk := hide (Row.new V3 #[.int .i64 0, .slice none 0 0] 26)
            have HTK : Hid (wc.heap.size ≤ V3.heap.size) := hide HL.out.size
            have L_tk : Hid (V3.heap.size < (V3.alloc (.cells #[.int .i64 0, .slice none 0 0] 26)).heap.size) := hide (by simp)
            clear HL HCC
            have HL := hide HL'.out
            have HCC := hide HC'.out
            clear HL' HC'
            generalize (V3.alloc (.cells #[.int .i64 0, .slice none 0 0] 26)) = V4 at *
            generalize V3.heap.size = tk at *
            refine wpAnyS_only 18 (by kernel_rfl) (by simp; rfl) rfl rfl (fun K hK => ?_)
            have t0 := F_tk.out.2.1 0 _ rfl
            have t1 := F_tk.out.2.1 1 _ rfl
            have u0 := F_tk.out.free 0
            have u1 := F_tk.out.free 1
            go_wp2_with fail
            have HL9 : Hid (Below wc.heap.size wc ((V4.setCell ⟨tk, 0, none⟩ (.int .i64 (k0 : Int))).setCell ⟨tk, 1, none⟩ (.slice (some ⟨g3, 0, none⟩) 1 cap2))) := hide ((HL.out.setCell (by exact HTK.out) _).setCell (by exact HTK.out) _)
            refine ⟨later_of HL9.out, ?_⟩
            refine wpAnyH_done (by kernel_rfl) ?_ _
            go_wp2_with fail
            go_meet
            have hne : ∀ b, (Value.slice (some ⟨g3, 0, none⟩) 1 cap2).ownBlock = some b → some b ≠ some tk := fun b hb e => by simp [Value.ownBlock] at hb; injection e with e; have := N_g3_tk.out; omega
            exact ⟨tk, g3, cap2, rfl, hide ((F_tk.out.set (k := 0) (by simp) _).set (k := 1) (by simp) _), hide (own_kept (own_kept F_g3.out (grown_set (g := tk) _ rfl) hne) (grown_set (g := tk) _ rfl) hne), HL9⟩
           ·
            go_wp2_with fail
            have HL' : Hid (Below wc.heap.size wc (V3.alloc (.cells #[.int .i64 0, .slice none 0 0] 26))) := hide (below_alloc HL.out _)
            have HC' : Hid (Below w.heap.size w (V3.alloc (.cells #[.int .i64 0, .slice none 0 0] 26))) := hide (below_alloc HCC.out _)
            refine ⟨later_of HL'.out, ?_⟩
            replace F_g3 := hide (World.ownsRow.alloc F_g3.out (.cells #[.int .i64 0, .slice none 0 0] 26))
            have N_g3_tk : Hid (g3 ≠ V3.heap.size) := hide (by have := L_g3.out; omega)
            replace L_g3 : Hid (g3 < (V3.alloc (.cells #[.int .i64 0, .slice none 0 0] 26)).heap.size) := hide (by have := L_g3.out; simp; omega)
            have F_tk := hide (Row.new V3 #[.int .i64 0, .slice none 0 0] 26)
            have HTK : Hid (wc.heap.size ≤ V3.heap.size) := hide HL.out.size
            have L_tk : Hid (V3.heap.size < (V3.alloc (.cells #[.int .i64 0, .slice none 0 0] 26)).heap.size) := hide (by simp)
            clear HL HCC
            have HL := hide HL'.out
            have HCC := hide HC'.out
            clear HL' HC'
            generalize (V3.alloc (.cells #[.int .i64 0, .slice none 0 0] 26)) = V4 at *
            generalize V3.heap.size = tk at *
            refine wpAnyS_only 16 (by kernel_rfl) (by simp; rfl) rfl rfl (fun K hK => ?_)
            go_wp2_with fail
            refine ⟨later_of HL.out, ?_⟩
            refine wpAnyS_only 18 (by kernel_rfl) (by simp; rfl) rfl rfl (fun K hK => ?_)
            have t0 := F_tk.out.2.1 0 _ rfl
            have t1 := F_tk.out.2.1 1 _ rfl
            have u0 := F_tk.out.free 0
            have u1 := F_tk.out.free 1
            go_wp2_with fail
            have HL9 : Hid (Below wc.heap.size wc ((V4.setCell ⟨tk, 0, none⟩ (.int .i64 (k0 : Int))).setCell ⟨tk, 1, none⟩ (.slice (some ⟨g3, 0, none⟩) 1 cap2))) := hide ((HL.out.setCell (by exact HTK.out) _).setCell (by exact HTK.out) _)
            refine ⟨later_of HL9.out, ?_⟩
            refine wpAnyH_done (by kernel_rfl) ?_ _
            go_wp2_with fail
            go_meet
            have hne : ∀ b, (Value.slice (some ⟨g3, 0, none⟩) 1 cap2).ownBlock = some b → some b ≠ some tk := fun b hb e => by simp [Value.ownBlock] at hb; injection e with e; have := N_g3_tk.out; omega
            exact ⟨tk, g3, cap2, rfl, hide ((F_tk.out.set (k := 0) (by simp) _).set (k := 1) (by simp) _), hide (own_kept (own_kept F_g3.out (grown_set (g := tk) _ rfl) hne) (grown_set (g := tk) _ rfl) hne), HL9⟩
          ·
           go_wp2_with fail
           have HL' : Hid (Below wc.heap.size wc (V3.alloc (.cells #[.int .i64 0, .slice none 0 0] 26))) := hide (below_alloc HL.out _)
           have HC' : Hid (Below w.heap.size w (V3.alloc (.cells #[.int .i64 0, .slice none 0 0] 26))) := hide (below_alloc HCC.out _)
           refine ⟨later_of HL'.out, ?_⟩
           replace F_g2 := hide (World.ownsRow.alloc F_g2.out (.cells #[.int .i64 0, .slice none 0 0] 26))
           have N_g2_tk : Hid (g2 ≠ V3.heap.size) := hide (by have := L_g2.out; omega)
           replace L_g2 : Hid (g2 < (V3.alloc (.cells #[.int .i64 0, .slice none 0 0] 26)).heap.size) := hide (by have := L_g2.out; simp; omega)
           have F_tk := hide (Row.new V3 #[.int .i64 0, .slice none 0 0] 26)
           have HTK : Hid (wc.heap.size ≤ V3.heap.size) := hide HL.out.size
           have L_tk : Hid (V3.heap.size < (V3.alloc (.cells #[.int .i64 0, .slice none 0 0] 26)).heap.size) := hide (by simp)
           clear HL HCC
           have HL := hide HL'.out
           have HCC := hide HC'.out
           clear HL' HC'
           generalize (V3.alloc (.cells #[.int .i64 0, .slice none 0 0] 26)) = V4 at *
           generalize V3.heap.size = tk at *
           refine wpAnyS_only 15 (by kernel_rfl) (by simp; rfl) rfl rfl (fun K hK => ?_)
           refine wp_append_nil (.tmp 68) (.tmp 72) 24 rfl wc.heap.size 39 i0 3 Tryz.underlying24 Hi.out (.slice (some ⟨g2, 0, none⟩) 1 cap2) 1 (tcells (p0, p1, s2)) rfl F_g2.out 0 rfl (hK _ _ ⟨later_of HL.out, ?_⟩)
           obtain ⟨g3, rfl⟩ : ∃ g, g = g2 := ⟨_, rfl⟩
           have F_g3 := hide F_g2.out
           have L_g3 := hide L_g2.out
           have N_g3_tk := hide N_g2_tk.out
           clear N_g2_tk
           clear F_g2 L_g2
           simp only [Act.put, List.setIfInBounds_toArray, List.set_cons_succ, List.set_cons_zero]
           refine wpAnyS_only 16 (by kernel_rfl) (by simp; rfl) rfl rfl (fun K hK => ?_)
           go_wp2_with fail
           refine ⟨later_of HL.out, ?_⟩
           refine wpAnyS_only 18 (by kernel_rfl) (by simp; rfl) rfl rfl (fun K hK => ?_)
           have t0 := F_tk.out.2.1 0 _ rfl
           have t1 := F_tk.out.2.1 1 _ rfl
           have u0 := F_tk.out.free 0
           have u1 := F_tk.out.free 1
           go_wp2_with fail
           have HL9 : Hid (Below wc.heap.size wc ((V4.setCell ⟨tk, 0, none⟩ (.int .i64 (k0 : Int))).setCell ⟨tk, 1, none⟩ (.slice (some ⟨g3, 0, none⟩) 1 cap2))) := hide ((HL.out.setCell (by exact HTK.out) _).setCell (by exact HTK.out) _)
           refine ⟨later_of HL9.out, ?_⟩
           refine wpAnyH_done (by kernel_rfl) ?_ _
           go_wp2_with fail
           go_meet
           have hne : ∀ b, (Value.slice (some ⟨g3, 0, none⟩) 1 cap2).ownBlock = some b → some b ≠ some tk := fun b hb e => by simp [Value.ownBlock] at hb; injection e with e; have := N_g3_tk.out; omega
           exact ⟨tk, g3, cap2, rfl, hide ((F_tk.out.set (k := 0) (by simp) _).set (k := 1) (by simp) _), hide (own_kept (own_kept F_g3.out (grown_set (g := tk) _ rfl) hne) (grown_set (g := tk) _ rfl) hne), HL9⟩
         ·
          go_wp2_with fail
          have HL' : Hid (Below wc.heap.size wc (V2.alloc (.cells #[.int .i64 0, .slice none 0 0] 26))) := hide (below_alloc HL.out _)
          have HC' : Hid (Below w.heap.size w (V2.alloc (.cells #[.int .i64 0, .slice none 0 0] 26))) := hide (below_alloc HCC.out _)
          refine ⟨later_of HL'.out, ?_⟩
          replace F_g1 := hide (World.ownsRow.alloc F_g1.out (.cells #[.int .i64 0, .slice none 0 0] 26))
          have N_g1_tk : Hid (g1 ≠ V2.heap.size) := hide (by have := L_g1.out; omega)
          replace L_g1 : Hid (g1 < (V2.alloc (.cells #[.int .i64 0, .slice none 0 0] 26)).heap.size) := hide (by have := L_g1.out; simp; omega)
          replace F_bs := hide (F_bs.out.alloc (.cells #[.int .i64 0, .slice none 0 0] 26))
          replace L_bs : Hid (bs < (V2.alloc (.cells #[.int .i64 0, .slice none 0 0] 26)).heap.size) := hide (by have := L_bs.out; simp; omega)
          have F_tk := hide (Row.new V2 #[.int .i64 0, .slice none 0 0] 26)
          have HTK : Hid (wc.heap.size ≤ V2.heap.size) := hide HL.out.size
          have L_tk : Hid (V2.heap.size < (V2.alloc (.cells #[.int .i64 0, .slice none 0 0] 26)).heap.size) := hide (by simp)
          clear HL HCC
          have HL := hide HL'.out
          have HCC := hide HC'.out
          clear HL' HC'
          generalize (V2.alloc (.cells #[.int .i64 0, .slice none 0 0] 26)) = V3 at *
          generalize V2.heap.size = tk at *
          refine wpAnyS_only 10 (by kernel_rfl) (by simp; rfl) rfl rfl (fun K hK => ?_)
          refine wp_append_at (.tmp 65) (.tmp 67) 24 rfl wc.heap.size 39 i0 _ 3 24 Tryz.underlying24 Hi.out Hz.out.1 Hz.out.2.1 Hz.out.2.2 rfl (by decide) g1 0 0 [] rfl F_g1.out ⟨bs, 0, none⟩ 1 1 (tcells (p0, p1, s2)) rfl rfl (fun j u hu => by rw [Addr.add_lit, Nat.zero_add]; exact F_bs.out.2.1 j u hu) (fun u hu => tcells_one [(p0, p1, s2)] u (by simpa using hu)) (by unfold maxLen; omega) (by omega) HL.out.size (fun g2 cap2 V4 hown hgrow hg hlt => ?_)
          have HL' := hide (HL.out.grown hgrow HL.out.size (fun k hk => by injection hk with hk; have := (F_g1.out.lt g1 rfl).1; omega))
          have HC' := hide (HCC.out.grown hgrow HCC.out.size (fun k hk => by injection hk with hk; have := (F_g1.out.lt g1 rfl).1; have := HBw.out.size; omega))
          replace F_tk := hide (F_tk.out.grown hgrow (fun e => by injection e with e; have := N_g1_tk.out; omega))
          have N_g2_tk : Hid (g2 ≠ tk) := hide (by have := L_tk.out; have := N_g1_tk.out; omega)
          replace L_tk : Hid (tk < V4.heap.size) := hide (by have := L_tk.out; have := hgrow.size; omega)
          clear N_g1_tk
          have F_g2 : Hid (V4.ownsRow wc.heap.size 39 3 (.slice (some ⟨g2, 0, none⟩) 1 cap2) 1 (tcells (p0, p1, s2))) := hide (by simpa using hown)
          have L_g2 : Hid (g2 < V4.heap.size) := hide hlt
          clear HL HCC hown hgrow hg hlt F_g1 L_g1 N_g1_bs F_bs L_bs
          have HL := hide HL'.out
          have HCC := hide HC'.out
          clear HL' HC'
          refine hK _ _ ⟨later_of HL.out, ?_⟩
          simp only [Act.put, List.setIfInBounds_toArray, List.set_cons_succ, List.set_cons_zero]
          refine wpAnyS_only 15 (by kernel_rfl) (by simp; rfl) rfl rfl (fun K hK => ?_)
          refine wp_append_nil (.tmp 68) (.tmp 72) 24 rfl wc.heap.size 39 i0 3 Tryz.underlying24 Hi.out (.slice (some ⟨g2, 0, none⟩) 1 cap2) 1 (tcells (p0, p1, s2)) rfl F_g2.out 0 rfl (hK _ _ ⟨later_of HL.out, ?_⟩)
          obtain ⟨g3, rfl⟩ : ∃ g, g = g2 := ⟨_, rfl⟩
          have F_g3 := hide F_g2.out
          have L_g3 := hide L_g2.out
          have N_g3_tk := hide N_g2_tk.out
          clear N_g2_tk
          clear F_g2 L_g2
          simp only [Act.put, List.setIfInBounds_toArray, List.set_cons_succ, List.set_cons_zero]
          refine wpAnyS_only 16 (by kernel_rfl) (by simp; rfl) rfl rfl (fun K hK => ?_)
          go_wp2_with fail
          refine ⟨later_of HL.out, ?_⟩
          refine wpAnyS_only 18 (by kernel_rfl) (by simp; rfl) rfl rfl (fun K hK => ?_)
          have t0 := F_tk.out.2.1 0 _ rfl
          have t1 := F_tk.out.2.1 1 _ rfl
          have u0 := F_tk.out.free 0
          have u1 := F_tk.out.free 1
          go_wp2_with fail
          have HL9 : Hid (Below wc.heap.size wc ((V4.setCell ⟨tk, 0, none⟩ (.int .i64 (k0 : Int))).setCell ⟨tk, 1, none⟩ (.slice (some ⟨g3, 0, none⟩) 1 cap2))) := hide ((HL.out.setCell (by exact HTK.out) _).setCell (by exact HTK.out) _)
          refine ⟨later_of HL9.out, ?_⟩
          refine wpAnyH_done (by kernel_rfl) ?_ _
          go_wp2_with fail
          go_meet
          have hne : ∀ b, (Value.slice (some ⟨g3, 0, none⟩) 1 cap2).ownBlock = some b → some b ≠ some tk := fun b hb e => by simp [Value.ownBlock] at hb; injection e with e; have := N_g3_tk.out; omega
          exact ⟨tk, g3, cap2, rfl, hide ((F_tk.out.set (k := 0) (by simp) _).set (k := 1) (by simp) _), hide (own_kept (own_kept F_g3.out (grown_set (g := tk) _ rfl) hne) (grown_set (g := tk) _ rfl) hne), HL9⟩
        ·
         go_wp2_with fail
         have HL' : Hid (Below wc.heap.size wc (V2.alloc (.cells #[.int .i64 0, .slice none 0 0] 26))) := hide (below_alloc HL.out _)
         have HC' : Hid (Below w.heap.size w (V2.alloc (.cells #[.int .i64 0, .slice none 0 0] 26))) := hide (below_alloc HCC.out _)
         refine ⟨later_of HL'.out, ?_⟩
         replace F_b0 := hide (World.ownsRow.alloc F_b0.out (.cells #[.int .i64 0, .slice none 0 0] 26))
         have N_b0_tk : Hid (b0 ≠ V2.heap.size) := hide (by have := L_b0.out; omega)
         replace L_b0 : Hid (b0 < (V2.alloc (.cells #[.int .i64 0, .slice none 0 0] 26)).heap.size) := hide (by have := L_b0.out; simp; omega)
         replace F_bs := hide (F_bs.out.alloc (.cells #[.int .i64 0, .slice none 0 0] 26))
         replace L_bs : Hid (bs < (V2.alloc (.cells #[.int .i64 0, .slice none 0 0] 26)).heap.size) := hide (by have := L_bs.out; simp; omega)
         have F_tk := hide (Row.new V2 #[.int .i64 0, .slice none 0 0] 26)
         have HTK : Hid (wc.heap.size ≤ V2.heap.size) := hide HL.out.size
         have L_tk : Hid (V2.heap.size < (V2.alloc (.cells #[.int .i64 0, .slice none 0 0] 26)).heap.size) := hide (by simp)
         clear HL HCC
         have HL := hide HL'.out
         have HCC := hide HC'.out
         clear HL' HC'
         generalize (V2.alloc (.cells #[.int .i64 0, .slice none 0 0] 26)) = V3 at *
         generalize V2.heap.size = tk at *
         refine wpAnyS_only 7 (by kernel_rfl) (by simp; rfl) rfl rfl (fun K hK => ?_)
         refine wp_append_nil (.tmp 60) (.tmp 64) 24 rfl wc.heap.size 39 i0 3 Tryz.underlying24 Hi.out (.slice (some ⟨b0, 0, none⟩) 0 0) 0 [] rfl F_b0.out 0 rfl (hK _ _ ⟨later_of HL.out, ?_⟩)
         obtain ⟨g1, rfl⟩ : ∃ g, g = b0 := ⟨_, rfl⟩
         have F_g1 := hide F_b0.out
         have L_g1 := hide L_b0.out
         have N_g1_bs := hide N_b0_bs.out
         clear N_b0_bs
         have N_g1_tk := hide N_b0_tk.out
         clear N_b0_tk
         clear F_b0 L_b0
         simp only [Act.put, List.setIfInBounds_toArray, List.set_cons_succ, List.set_cons_zero]
         refine wpAnyS_only 10 (by kernel_rfl) (by simp; rfl) rfl rfl (fun K hK => ?_)
         refine wp_append_at (.tmp 65) (.tmp 67) 24 rfl wc.heap.size 39 i0 _ 3 24 Tryz.underlying24 Hi.out Hz.out.1 Hz.out.2.1 Hz.out.2.2 rfl (by decide) g1 0 0 [] rfl F_g1.out ⟨bs, 0, none⟩ 1 1 (tcells (p0, p1, s2)) rfl rfl (fun j u hu => by rw [Addr.add_lit, Nat.zero_add]; exact F_bs.out.2.1 j u hu) (fun u hu => tcells_one [(p0, p1, s2)] u (by simpa using hu)) (by unfold maxLen; omega) (by omega) HL.out.size (fun g2 cap2 V4 hown hgrow hg hlt => ?_)
         have HL' := hide (HL.out.grown hgrow HL.out.size (fun k hk => by injection hk with hk; have := (F_g1.out.lt g1 rfl).1; omega))
         have HC' := hide (HCC.out.grown hgrow HCC.out.size (fun k hk => by injection hk with hk; have := (F_g1.out.lt g1 rfl).1; have := HBw.out.size; omega))
         replace F_tk := hide (F_tk.out.grown hgrow (fun e => by injection e with e; have := N_g1_tk.out; omega))
         have N_g2_tk : Hid (g2 ≠ tk) := hide (by have := L_tk.out; have := N_g1_tk.out; omega)
         replace L_tk : Hid (tk < V4.heap.size) := hide (by have := L_tk.out; have := hgrow.size; omega)
         clear N_g1_tk
         have F_g2 : Hid (V4.ownsRow wc.heap.size 39 3 (.slice (some ⟨g2, 0, none⟩) 1 cap2) 1 (tcells (p0, p1, s2))) := hide (by simpa using hown)
         have L_g2 : Hid (g2 < V4.heap.size) := hide hlt
         clear HL HCC hown hgrow hg hlt F_g1 L_g1 N_g1_bs F_bs L_bs
         have HL := hide HL'.out
         have HCC := hide HC'.out
         clear HL' HC'
         refine hK _ _ ⟨later_of HL.out, ?_⟩
         simp only [Act.put, List.setIfInBounds_toArray, List.set_cons_succ, List.set_cons_zero]
         refine wpAnyS_only 15 (by kernel_rfl) (by simp; rfl) rfl rfl (fun K hK => ?_)
         refine wp_append_nil (.tmp 68) (.tmp 72) 24 rfl wc.heap.size 39 i0 3 Tryz.underlying24 Hi.out (.slice (some ⟨g2, 0, none⟩) 1 cap2) 1 (tcells (p0, p1, s2)) rfl F_g2.out 0 rfl (hK _ _ ⟨later_of HL.out, ?_⟩)
         obtain ⟨g3, rfl⟩ : ∃ g, g = g2 := ⟨_, rfl⟩
         have F_g3 := hide F_g2.out
         have L_g3 := hide L_g2.out
         have N_g3_tk := hide N_g2_tk.out
         clear N_g2_tk
         clear F_g2 L_g2
         simp only [Act.put, List.setIfInBounds_toArray, List.set_cons_succ, List.set_cons_zero]
         refine wpAnyS_only 16 (by kernel_rfl) (by simp; rfl) rfl rfl (fun K hK => ?_)
         go_wp2_with fail
         refine ⟨later_of HL.out, ?_⟩
         refine wpAnyS_only 18 (by kernel_rfl) (by simp; rfl) rfl rfl (fun K hK => ?_)
         have t0 := F_tk.out.2.1 0 _ rfl
         have t1 := F_tk.out.2.1 1 _ rfl
         have u0 := F_tk.out.free 0
         have u1 := F_tk.out.free 1
         go_wp2_with fail
         have HL9 : Hid (Below wc.heap.size wc ((V4.setCell ⟨tk, 0, none⟩ (.int .i64 (k0 : Int))).setCell ⟨tk, 1, none⟩ (.slice (some ⟨g3, 0, none⟩) 1 cap2))) := hide ((HL.out.setCell (by exact HTK.out) _).setCell (by exact HTK.out) _)
         refine ⟨later_of HL9.out, ?_⟩
         refine wpAnyH_done (by kernel_rfl) ?_ _
         go_wp2_with fail
         go_meet
         have hne : ∀ b, (Value.slice (some ⟨g3, 0, none⟩) 1 cap2).ownBlock = some b → some b ≠ some tk := fun b hb e => by simp [Value.ownBlock] at hb; injection e with e; have := N_g3_tk.out; omega
         exact ⟨tk, g3, cap2, rfl, hide ((F_tk.out.set (k := 0) (by simp) _).set (k := 1) (by simp) _), hide (own_kept (own_kept F_g3.out (grown_set (g := tk) _ rfl) hne) (grown_set (g := tk) _ rfl) hne), HL9⟩
       ·
        go_wp2_with fail
        have HL' : Hid (Below wc.heap.size wc (V1.alloc (.cells #[.int .i64 0, .slice none 0 0] 26))) := hide (below_alloc HL.out _)
        have HC' : Hid (Below w.heap.size w (V1.alloc (.cells #[.int .i64 0, .slice none 0 0] 26))) := hide (below_alloc HCC.out _)
        refine ⟨later_of HL'.out, ?_⟩
        replace F_bs := hide (F_bs.out.alloc (.cells #[.int .i64 0, .slice none 0 0] 26))
        replace L_bs : Hid (bs < (V1.alloc (.cells #[.int .i64 0, .slice none 0 0] 26)).heap.size) := hide (by have := L_bs.out; simp; omega)
        have F_tk := hide (Row.new V1 #[.int .i64 0, .slice none 0 0] 26)
        have HTK : Hid (wc.heap.size ≤ V1.heap.size) := hide HL.out.size
        have L_tk : Hid (V1.heap.size < (V1.alloc (.cells #[.int .i64 0, .slice none 0 0] 26)).heap.size) := hide (by simp)
        clear HL HCC
        have HL := hide HL'.out
        have HCC := hide HC'.out
        clear HL' HC'
        generalize (V1.alloc (.cells #[.int .i64 0, .slice none 0 0] 26)) = V2 at *
        generalize V1.heap.size = tk at *
        refine wpAnyS_only 2 (by kernel_rfl) (by simp; rfl) rfl rfl (fun K hK => ?_)
        go_wp2_with fail
        have HL' : Hid (Below wc.heap.size wc (V2.alloc (.cells #[] 39))) := hide (below_alloc HL.out _)
        have HC' : Hid (Below w.heap.size w (V2.alloc (.cells #[] 39))) := hide (below_alloc HCC.out _)
        refine ⟨later_of HL'.out, ?_⟩
        replace F_bs := hide (F_bs.out.alloc (.cells #[] 39))
        have N_b0_bs : Hid (V2.heap.size ≠ bs) := hide (by have := L_bs.out; omega)
        replace L_bs : Hid (bs < (V2.alloc (.cells #[] 39)).heap.size) := hide (by have := L_bs.out; simp; omega)
        replace F_tk := hide (F_tk.out.alloc (.cells #[] 39))
        have N_b0_tk : Hid (V2.heap.size ≠ tk) := hide (by have := L_tk.out; omega)
        replace L_tk : Hid (tk < (V2.alloc (.cells #[] 39)).heap.size) := hide (by have := L_tk.out; simp; omega)
        have F_b0 : Hid ((V2.alloc (.cells #[] 39)).ownsRow wc.heap.size 39 3 (.slice (some ⟨V2.heap.size, 0, none⟩) 0 0) 0 []) := hide (World.ownsRow_made V2 #[] 0 HL.out.size (Nat.zero_le _) rfl)
        have L_b0 : Hid (V2.heap.size < (V2.alloc (.cells #[] 39)).heap.size) := hide (by simp)
        clear HL HCC
        have HL := hide HL'.out
        have HCC := hide HC'.out
        clear HL' HC'
        generalize (V2.alloc (.cells #[] 39)) = V3 at *
        generalize V2.heap.size = b0 at *
        refine wpAnyS_only 7 (by kernel_rfl) (by simp; rfl) rfl rfl (fun K hK => ?_)
        refine wp_append_nil (.tmp 60) (.tmp 64) 24 rfl wc.heap.size 39 i0 3 Tryz.underlying24 Hi.out (.slice (some ⟨b0, 0, none⟩) 0 0) 0 [] rfl F_b0.out 0 rfl (hK _ _ ⟨later_of HL.out, ?_⟩)
        obtain ⟨g1, rfl⟩ : ∃ g, g = b0 := ⟨_, rfl⟩
        have F_g1 := hide F_b0.out
        have L_g1 := hide L_b0.out
        have N_g1_bs := hide N_b0_bs.out
        clear N_b0_bs
        have N_g1_tk := hide N_b0_tk.out
        clear N_b0_tk
        clear F_b0 L_b0
        simp only [Act.put, List.setIfInBounds_toArray, List.set_cons_succ, List.set_cons_zero]
        refine wpAnyS_only 10 (by kernel_rfl) (by simp; rfl) rfl rfl (fun K hK => ?_)
        refine wp_append_at (.tmp 65) (.tmp 67) 24 rfl wc.heap.size 39 i0 _ 3 24 Tryz.underlying24 Hi.out Hz.out.1 Hz.out.2.1 Hz.out.2.2 rfl (by decide) g1 0 0 [] rfl F_g1.out ⟨bs, 0, none⟩ 1 1 (tcells (p0, p1, s2)) rfl rfl (fun j u hu => by rw [Addr.add_lit, Nat.zero_add]; exact F_bs.out.2.1 j u hu) (fun u hu => tcells_one [(p0, p1, s2)] u (by simpa using hu)) (by unfold maxLen; omega) (by omega) HL.out.size (fun g2 cap2 V4 hown hgrow hg hlt => ?_)
        have HL' := hide (HL.out.grown hgrow HL.out.size (fun k hk => by injection hk with hk; have := (F_g1.out.lt g1 rfl).1; omega))
        have HC' := hide (HCC.out.grown hgrow HCC.out.size (fun k hk => by injection hk with hk; have := (F_g1.out.lt g1 rfl).1; have := HBw.out.size; omega))
        replace F_tk := hide (F_tk.out.grown hgrow (fun e => by injection e with e; have := N_g1_tk.out; omega))
        have N_g2_tk : Hid (g2 ≠ tk) := hide (by have := L_tk.out; have := N_g1_tk.out; omega)
        replace L_tk : Hid (tk < V4.heap.size) := hide (by have := L_tk.out; have := hgrow.size; omega)
        clear N_g1_tk
        have F_g2 : Hid (V4.ownsRow wc.heap.size 39 3 (.slice (some ⟨g2, 0, none⟩) 1 cap2) 1 (tcells (p0, p1, s2))) := hide (by simpa using hown)
        have L_g2 : Hid (g2 < V4.heap.size) := hide hlt
        clear HL HCC hown hgrow hg hlt F_g1 L_g1 N_g1_bs F_bs L_bs
        have HL := hide HL'.out
        have HCC := hide HC'.out
        clear HL' HC'
        refine hK _ _ ⟨later_of HL.out, ?_⟩
        simp only [Act.put, List.setIfInBounds_toArray, List.set_cons_succ, List.set_cons_zero]
        refine wpAnyS_only 15 (by kernel_rfl) (by simp; rfl) rfl rfl (fun K hK => ?_)
        refine wp_append_nil (.tmp 68) (.tmp 72) 24 rfl wc.heap.size 39 i0 3 Tryz.underlying24 Hi.out (.slice (some ⟨g2, 0, none⟩) 1 cap2) 1 (tcells (p0, p1, s2)) rfl F_g2.out 0 rfl (hK _ _ ⟨later_of HL.out, ?_⟩)
        obtain ⟨g3, rfl⟩ : ∃ g, g = g2 := ⟨_, rfl⟩
        have F_g3 := hide F_g2.out
        have L_g3 := hide L_g2.out
        have N_g3_tk := hide N_g2_tk.out
        clear N_g2_tk
        clear F_g2 L_g2
        simp only [Act.put, List.setIfInBounds_toArray, List.set_cons_succ, List.set_cons_zero]
        refine wpAnyS_only 16 (by kernel_rfl) (by simp; rfl) rfl rfl (fun K hK => ?_)
        go_wp2_with fail
        refine ⟨later_of HL.out, ?_⟩
        refine wpAnyS_only 18 (by kernel_rfl) (by simp; rfl) rfl rfl (fun K hK => ?_)
        have t0 := F_tk.out.2.1 0 _ rfl
        have t1 := F_tk.out.2.1 1 _ rfl
        have u0 := F_tk.out.free 0
        have u1 := F_tk.out.free 1
        go_wp2_with fail
        have HL9 : Hid (Below wc.heap.size wc ((V4.setCell ⟨tk, 0, none⟩ (.int .i64 (k0 : Int))).setCell ⟨tk, 1, none⟩ (.slice (some ⟨g3, 0, none⟩) 1 cap2))) := hide ((HL.out.setCell (by exact HTK.out) _).setCell (by exact HTK.out) _)
        refine ⟨later_of HL9.out, ?_⟩
        refine wpAnyH_done (by kernel_rfl) ?_ _
        go_wp2_with fail
        go_meet
        have hne : ∀ b, (Value.slice (some ⟨g3, 0, none⟩) 1 cap2).ownBlock = some b → some b ≠ some tk := fun b hb e => by simp [Value.ownBlock] at hb; injection e with e; have := N_g3_tk.out; omega
        exact ⟨tk, g3, cap2, rfl, hide ((F_tk.out.set (k := 0) (by simp) _).set (k := 1) (by simp) _), hide (own_kept (own_kept F_g3.out (grown_set (g := tk) _ rfl) hne) (grown_set (g := tk) _ rfl) hne), HL9⟩
      ·
       go_wp2_with fail
       have HL' : Hid (Below wc.heap.size wc (V0.alloc (.cells #[.int .i64 0, .slice none 0 0] 26))) := hide (below_alloc HL.out _)
       have HC' : Hid (Below w.heap.size w (V0.alloc (.cells #[.int .i64 0, .slice none 0 0] 26))) := hide (below_alloc HCC.out _)
       refine ⟨later_of HL'.out, ?_⟩
       have F_tk := hide (Row.new V0 #[.int .i64 0, .slice none 0 0] 26)
       have HTK : Hid (wc.heap.size ≤ V0.heap.size) := hide HL.out.size
       have L_tk : Hid (V0.heap.size < (V0.alloc (.cells #[.int .i64 0, .slice none 0 0] 26)).heap.size) := hide (by simp)
       clear HL HCC
       have HL := hide HL'.out
       have HCC := hide HC'.out
       clear HL' HC'
       generalize (V0.alloc (.cells #[.int .i64 0, .slice none 0 0] 26)) = V1 at *
       generalize V0.heap.size = tk at *
       refine wpAnyS_two 2 9 (by kernel_rfl) (by simp; rfl) (by simp; rfl) rfl rfl rfl rfl (fun K hK => ?_) (fun K hK => ?_)
       ·
        go_wp2_with fail
        have HL' : Hid (Below wc.heap.size wc (V1.alloc (.cells #[] 39))) := hide (below_alloc HL.out _)
        have HC' : Hid (Below w.heap.size w (V1.alloc (.cells #[] 39))) := hide (below_alloc HCC.out _)
        refine ⟨later_of HL'.out, ?_⟩
        replace F_tk := hide (F_tk.out.alloc (.cells #[] 39))
        have N_b0_tk : Hid (V1.heap.size ≠ tk) := hide (by have := L_tk.out; omega)
        replace L_tk : Hid (tk < (V1.alloc (.cells #[] 39)).heap.size) := hide (by have := L_tk.out; simp; omega)
        have F_b0 : Hid ((V1.alloc (.cells #[] 39)).ownsRow wc.heap.size 39 3 (.slice (some ⟨V1.heap.size, 0, none⟩) 0 0) 0 []) := hide (World.ownsRow_made V1 #[] 0 HL.out.size (Nat.zero_le _) rfl)
        have L_b0 : Hid (V1.heap.size < (V1.alloc (.cells #[] 39)).heap.size) := hide (by simp)
        clear HL HCC
        have HL := hide HL'.out
        have HCC := hide HC'.out
        clear HL' HC'
        generalize (V1.alloc (.cells #[] 39)) = V2 at *
        generalize V1.heap.size = b0 at *
        refine wpAnyS_two 7 9 (by kernel_rfl) (by simp; rfl) (by simp; rfl) rfl rfl rfl rfl (fun K hK => ?_) (fun K hK => ?_)
        ·
         refine wp_append_nil (.tmp 60) (.tmp 64) 24 rfl wc.heap.size 39 i0 3 Tryz.underlying24 Hi.out (.slice (some ⟨b0, 0, none⟩) 0 0) 0 [] rfl F_b0.out 0 rfl (hK _ _ ⟨later_of HL.out, ?_⟩)
         obtain ⟨g1, rfl⟩ : ∃ g, g = b0 := ⟨_, rfl⟩
         have F_g1 := hide F_b0.out
         have L_g1 := hide L_b0.out
         have N_g1_tk := hide N_b0_tk.out
         clear N_b0_tk
         clear F_b0 L_b0
         simp only [Act.put, List.setIfInBounds_toArray, List.set_cons_succ, List.set_cons_zero]
         refine wpAnyS_only 9 (by kernel_rfl) (by simp; rfl) rfl rfl (fun K hK => ?_)
         go_wp2_with fail
         have HL' : Hid (Below wc.heap.size wc (V2.alloc (.cells #[.int .i64 p0, .int .i64 p1, .int .i64 s2] 39))) := hide (below_alloc HL.out _)
         have HC' : Hid (Below w.heap.size w (V2.alloc (.cells #[.int .i64 p0, .int .i64 p1, .int .i64 s2] 39))) := hide (below_alloc HCC.out _)
         refine ⟨later_of HL'.out, ?_⟩
         replace F_g1 := hide (World.ownsRow.alloc F_g1.out (.cells #[.int .i64 p0, .int .i64 p1, .int .i64 s2] 39))
         have N_g1_bs : Hid (g1 ≠ V2.heap.size) := hide (by have := L_g1.out; omega)
         replace L_g1 : Hid (g1 < (V2.alloc (.cells #[.int .i64 p0, .int .i64 p1, .int .i64 s2] 39)).heap.size) := hide (by have := L_g1.out; simp; omega)
         replace F_tk := hide (F_tk.out.alloc (.cells #[.int .i64 p0, .int .i64 p1, .int .i64 s2] 39))
         replace L_tk : Hid (tk < (V2.alloc (.cells #[.int .i64 p0, .int .i64 p1, .int .i64 s2] 39)).heap.size) := hide (by have := L_tk.out; simp; omega)
         have F_bs := hide (Row.new V2 #[.int .i64 p0, .int .i64 p1, .int .i64 s2] 39)
         have L_bs : Hid (V2.heap.size < (V2.alloc (.cells #[.int .i64 p0, .int .i64 p1, .int .i64 s2] 39)).heap.size) := hide (by simp)
         clear HL HCC
         have HL := hide HL'.out
         have HCC := hide HC'.out
         clear HL' HC'
         generalize (V2.alloc (.cells #[.int .i64 p0, .int .i64 p1, .int .i64 s2] 39)) = V3 at *
         generalize V2.heap.size = bs at *
         refine wpAnyS_only 10 (by kernel_rfl) (by simp; rfl) rfl rfl (fun K hK => ?_)
         refine wp_append_at (.tmp 65) (.tmp 67) 24 rfl wc.heap.size 39 i0 _ 3 24 Tryz.underlying24 Hi.out Hz.out.1 Hz.out.2.1 Hz.out.2.2 rfl (by decide) g1 0 0 [] rfl F_g1.out ⟨bs, 0, none⟩ 1 1 (tcells (p0, p1, s2)) rfl rfl (fun j u hu => by rw [Addr.add_lit, Nat.zero_add]; exact F_bs.out.2.1 j u hu) (fun u hu => tcells_one [(p0, p1, s2)] u (by simpa using hu)) (by unfold maxLen; omega) (by omega) HL.out.size (fun g2 cap2 V4 hown hgrow hg hlt => ?_)
         have HL' := hide (HL.out.grown hgrow HL.out.size (fun k hk => by injection hk with hk; have := (F_g1.out.lt g1 rfl).1; omega))
         have HC' := hide (HCC.out.grown hgrow HCC.out.size (fun k hk => by injection hk with hk; have := (F_g1.out.lt g1 rfl).1; have := HBw.out.size; omega))
         replace F_tk := hide (F_tk.out.grown hgrow (fun e => by injection e with e; have := N_g1_tk.out; omega))
         have N_g2_tk : Hid (g2 ≠ tk) := hide (by have := L_tk.out; have := N_g1_tk.out; omega)
         replace L_tk : Hid (tk < V4.heap.size) := hide (by have := L_tk.out; have := hgrow.size; omega)
         clear N_g1_tk
         have F_g2 : Hid (V4.ownsRow wc.heap.size 39 3 (.slice (some ⟨g2, 0, none⟩) 1 cap2) 1 (tcells (p0, p1, s2))) := hide (by simpa using hown)
         have L_g2 : Hid (g2 < V4.heap.size) := hide hlt
         clear HL HCC hown hgrow hg hlt F_g1 L_g1 N_g1_bs F_bs L_bs
         have HL := hide HL'.out
         have HCC := hide HC'.out
         clear HL' HC'
         refine hK _ _ ⟨later_of HL.out, ?_⟩
         simp only [Act.put, List.setIfInBounds_toArray, List.set_cons_succ, List.set_cons_zero]
         refine wpAnyS_only 15 (by kernel_rfl) (by simp; rfl) rfl rfl (fun K hK => ?_)
         refine wp_append_nil (.tmp 68) (.tmp 72) 24 rfl wc.heap.size 39 i0 3 Tryz.underlying24 Hi.out (.slice (some ⟨g2, 0, none⟩) 1 cap2) 1 (tcells (p0, p1, s2)) rfl F_g2.out 0 rfl (hK _ _ ⟨later_of HL.out, ?_⟩)
         obtain ⟨g3, rfl⟩ : ∃ g, g = g2 := ⟨_, rfl⟩
         have F_g3 := hide F_g2.out
         have L_g3 := hide L_g2.out
         have N_g3_tk := hide N_g2_tk.out
         clear N_g2_tk
         clear F_g2 L_g2
         simp only [Act.put, List.setIfInBounds_toArray, List.set_cons_succ, List.set_cons_zero]
         refine wpAnyS_only 16 (by kernel_rfl) (by simp; rfl) rfl rfl (fun K hK => ?_)
         go_wp2_with fail
         refine ⟨later_of HL.out, ?_⟩
         refine wpAnyS_only 18 (by kernel_rfl) (by simp; rfl) rfl rfl (fun K hK => ?_)
         have t0 := F_tk.out.2.1 0 _ rfl
         have t1 := F_tk.out.2.1 1 _ rfl
         have u0 := F_tk.out.free 0
         have u1 := F_tk.out.free 1
         go_wp2_with fail
         have HL9 : Hid (Below wc.heap.size wc ((V4.setCell ⟨tk, 0, none⟩ (.int .i64 (k0 : Int))).setCell ⟨tk, 1, none⟩ (.slice (some ⟨g3, 0, none⟩) 1 cap2))) := hide ((HL.out.setCell (by exact HTK.out) _).setCell (by exact HTK.out) _)
         refine ⟨later_of HL9.out, ?_⟩
         refine wpAnyH_done (by kernel_rfl) ?_ _
         go_wp2_with fail
         go_meet
         have hne : ∀ b, (Value.slice (some ⟨g3, 0, none⟩) 1 cap2).ownBlock = some b → some b ≠ some tk := fun b hb e => by simp [Value.ownBlock] at hb; injection e with e; have := N_g3_tk.out; omega
         exact ⟨tk, g3, cap2, rfl, hide ((F_tk.out.set (k := 0) (by simp) _).set (k := 1) (by simp) _), hide (own_kept (own_kept F_g3.out (grown_set (g := tk) _ rfl) hne) (grown_set (g := tk) _ rfl) hne), HL9⟩
        ·
         go_wp2_with fail
         have HL' : Hid (Below wc.heap.size wc (V2.alloc (.cells #[.int .i64 p0, .int .i64 p1, .int .i64 s2] 39))) := hide (below_alloc HL.out _)
         have HC' : Hid (Below w.heap.size w (V2.alloc (.cells #[.int .i64 p0, .int .i64 p1, .int .i64 s2] 39))) := hide (below_alloc HCC.out _)
         refine ⟨later_of HL'.out, ?_⟩
         replace F_b0 := hide (World.ownsRow.alloc F_b0.out (.cells #[.int .i64 p0, .int .i64 p1, .int .i64 s2] 39))
         have N_b0_bs : Hid (b0 ≠ V2.heap.size) := hide (by have := L_b0.out; omega)
         replace L_b0 : Hid (b0 < (V2.alloc (.cells #[.int .i64 p0, .int .i64 p1, .int .i64 s2] 39)).heap.size) := hide (by have := L_b0.out; simp; omega)
         replace F_tk := hide (F_tk.out.alloc (.cells #[.int .i64 p0, .int .i64 p1, .int .i64 s2] 39))
         replace L_tk : Hid (tk < (V2.alloc (.cells #[.int .i64 p0, .int .i64 p1, .int .i64 s2] 39)).heap.size) := hide (by have := L_tk.out; simp; omega)
         have F_bs := hide (Row.new V2 #[.int .i64 p0, .int .i64 p1, .int .i64 s2] 39)
         have L_bs : Hid (V2.heap.size < (V2.alloc (.cells #[.int .i64 p0, .int .i64 p1, .int .i64 s2] 39)).heap.size) := hide (by simp)
         clear HL HCC
         have HL := hide HL'.out
         have HCC := hide HC'.out
         clear HL' HC'
         generalize (V2.alloc (.cells #[.int .i64 p0, .int .i64 p1, .int .i64 s2] 39)) = V3 at *
         generalize V2.heap.size = bs at *
         refine wpAnyS_only 7 (by kernel_rfl) (by simp; rfl) rfl rfl (fun K hK => ?_)
         refine wp_append_nil (.tmp 60) (.tmp 64) 24 rfl wc.heap.size 39 i0 3 Tryz.underlying24 Hi.out (.slice (some ⟨b0, 0, none⟩) 0 0) 0 [] rfl F_b0.out 0 rfl (hK _ _ ⟨later_of HL.out, ?_⟩)
         obtain ⟨g1, rfl⟩ : ∃ g, g = b0 := ⟨_, rfl⟩
         have F_g1 := hide F_b0.out
         have L_g1 := hide L_b0.out
         have N_g1_bs := hide N_b0_bs.out
         clear N_b0_bs
         have N_g1_tk := hide N_b0_tk.out
         clear N_b0_tk
         clear F_b0 L_b0
         simp only [Act.put, List.setIfInBounds_toArray, List.set_cons_succ, List.set_cons_zero]
         refine wpAnyS_only 10 (by kernel_rfl) (by simp; rfl) rfl rfl (fun K hK => ?_)
         refine wp_append_at (.tmp 65) (.tmp 67) 24 rfl wc.heap.size 39 i0 _ 3 24 Tryz.underlying24 Hi.out Hz.out.1 Hz.out.2.1 Hz.out.2.2 rfl (by decide) g1 0 0 [] rfl F_g1.out ⟨bs, 0, none⟩ 1 1 (tcells (p0, p1, s2)) rfl rfl (fun j u hu => by rw [Addr.add_lit, Nat.zero_add]; exact F_bs.out.2.1 j u hu) (fun u hu => tcells_one [(p0, p1, s2)] u (by simpa using hu)) (by unfold maxLen; omega) (by omega) HL.out.size (fun g2 cap2 V4 hown hgrow hg hlt => ?_)
         have HL' := hide (HL.out.grown hgrow HL.out.size (fun k hk => by injection hk with hk; have := (F_g1.out.lt g1 rfl).1; omega))
         have HC' := hide (HCC.out.grown hgrow HCC.out.size (fun k hk => by injection hk with hk; have := (F_g1.out.lt g1 rfl).1; have := HBw.out.size; omega))
         replace F_tk := hide (F_tk.out.grown hgrow (fun e => by injection e with e; have := N_g1_tk.out; omega))
         have N_g2_tk : Hid (g2 ≠ tk) := hide (by have := L_tk.out; have := N_g1_tk.out; omega)
         replace L_tk : Hid (tk < V4.heap.size) := hide (by have := L_tk.out; have := hgrow.size; omega)
         clear N_g1_tk
         have F_g2 : Hid (V4.ownsRow wc.heap.size 39 3 (.slice (some ⟨g2, 0, none⟩) 1 cap2) 1 (tcells (p0, p1, s2))) := hide (by simpa using hown)
         have L_g2 : Hid (g2 < V4.heap.size) := hide hlt
         clear HL HCC hown hgrow hg hlt F_g1 L_g1 N_g1_bs F_bs L_bs
         have HL := hide HL'.out
         have HCC := hide HC'.out
         clear HL' HC'
         refine hK _ _ ⟨later_of HL.out, ?_⟩
         simp only [Act.put, List.setIfInBounds_toArray, List.set_cons_succ, List.set_cons_zero]
         refine wpAnyS_only 15 (by kernel_rfl) (by simp; rfl) rfl rfl (fun K hK => ?_)
         refine wp_append_nil (.tmp 68) (.tmp 72) 24 rfl wc.heap.size 39 i0 3 Tryz.underlying24 Hi.out (.slice (some ⟨g2, 0, none⟩) 1 cap2) 1 (tcells (p0, p1, s2)) rfl F_g2.out 0 rfl (hK _ _ ⟨later_of HL.out, ?_⟩)
         obtain ⟨g3, rfl⟩ : ∃ g, g = g2 := ⟨_, rfl⟩
         have F_g3 := hide F_g2.out
         have L_g3 := hide L_g2.out
         have N_g3_tk := hide N_g2_tk.out
         clear N_g2_tk
         clear F_g2 L_g2
         simp only [Act.put, List.setIfInBounds_toArray, List.set_cons_succ, List.set_cons_zero]
         refine wpAnyS_only 16 (by kernel_rfl) (by simp; rfl) rfl rfl (fun K hK => ?_)
         go_wp2_with fail
         refine ⟨later_of HL.out, ?_⟩
         refine wpAnyS_only 18 (by kernel_rfl) (by simp; rfl) rfl rfl (fun K hK => ?_)
         have t0 := F_tk.out.2.1 0 _ rfl
         have t1 := F_tk.out.2.1 1 _ rfl
         have u0 := F_tk.out.free 0
         have u1 := F_tk.out.free 1
         go_wp2_with fail
         have HL9 : Hid (Below wc.heap.size wc ((V4.setCell ⟨tk, 0, none⟩ (.int .i64 (k0 : Int))).setCell ⟨tk, 1, none⟩ (.slice (some ⟨g3, 0, none⟩) 1 cap2))) := hide ((HL.out.setCell (by exact HTK.out) _).setCell (by exact HTK.out) _)
         refine ⟨later_of HL9.out, ?_⟩
         refine wpAnyH_done (by kernel_rfl) ?_ _
         go_wp2_with fail
         go_meet
         have hne : ∀ b, (Value.slice (some ⟨g3, 0, none⟩) 1 cap2).ownBlock = some b → some b ≠ some tk := fun b hb e => by simp [Value.ownBlock] at hb; injection e with e; have := N_g3_tk.out; omega
         exact ⟨tk, g3, cap2, rfl, hide ((F_tk.out.set (k := 0) (by simp) _).set (k := 1) (by simp) _), hide (own_kept (own_kept F_g3.out (grown_set (g := tk) _ rfl) hne) (grown_set (g := tk) _ rfl) hne), HL9⟩
       ·
        go_wp2_with fail
        have HL' : Hid (Below wc.heap.size wc (V1.alloc (.cells #[.int .i64 p0, .int .i64 p1, .int .i64 s2] 39))) := hide (below_alloc HL.out _)
        have HC' : Hid (Below w.heap.size w (V1.alloc (.cells #[.int .i64 p0, .int .i64 p1, .int .i64 s2] 39))) := hide (below_alloc HCC.out _)
        refine ⟨later_of HL'.out, ?_⟩
        replace F_tk := hide (F_tk.out.alloc (.cells #[.int .i64 p0, .int .i64 p1, .int .i64 s2] 39))
        replace L_tk : Hid (tk < (V1.alloc (.cells #[.int .i64 p0, .int .i64 p1, .int .i64 s2] 39)).heap.size) := hide (by have := L_tk.out; simp; omega)
        have F_bs := hide (Row.new V1 #[.int .i64 p0, .int .i64 p1, .int .i64 s2] 39)
        have L_bs : Hid (V1.heap.size < (V1.alloc (.cells #[.int .i64 p0, .int .i64 p1, .int .i64 s2] 39)).heap.size) := hide (by simp)
        clear HL HCC
        have HL := hide HL'.out
        have HCC := hide HC'.out
        clear HL' HC'
        generalize (V1.alloc (.cells #[.int .i64 p0, .int .i64 p1, .int .i64 s2] 39)) = V2 at *
        generalize V1.heap.size = bs at *
        refine wpAnyS_only 2 (by kernel_rfl) (by simp; rfl) rfl rfl (fun K hK => ?_)
        go_wp2_with fail
        have HL' : Hid (Below wc.heap.size wc (V2.alloc (.cells #[] 39))) := hide (below_alloc HL.out _)
        have HC' : Hid (Below w.heap.size w (V2.alloc (.cells #[] 39))) := hide (below_alloc HCC.out _)
        refine ⟨later_of HL'.out, ?_⟩
        replace F_bs := hide (F_bs.out.alloc (.cells #[] 39))
        have N_b0_bs : Hid (V2.heap.size ≠ bs) := hide (by have := L_bs.out; omega)
        replace L_bs : Hid (bs < (V2.alloc (.cells #[] 39)).heap.size) := hide (by have := L_bs.out; simp; omega)
        replace F_tk := hide (F_tk.out.alloc (.cells #[] 39))
        have N_b0_tk : Hid (V2.heap.size ≠ tk) := hide (by have := L_tk.out; omega)
        replace L_tk : Hid (tk < (V2.alloc (.cells #[] 39)).heap.size) := hide (by have := L_tk.out; simp; omega)
        have F_b0 : Hid ((V2.alloc (.cells #[] 39)).ownsRow wc.heap.size 39 3 (.slice (some ⟨V2.heap.size, 0, none⟩) 0 0) 0 []) := hide (World.ownsRow_made V2 #[] 0 HL.out.size (Nat.zero_le _) rfl)
        have L_b0 : Hid (V2.heap.size < (V2.alloc (.cells #[] 39)).heap.size) := hide (by simp)
        clear HL HCC
        have HL := hide HL'.out
        have HCC := hide HC'.out
        clear HL' HC'
        generalize (V2.alloc (.cells #[] 39)) = V3 at *
        generalize V2.heap.size = b0 at *
        refine wpAnyS_only 7 (by kernel_rfl) (by simp; rfl) rfl rfl (fun K hK => ?_)
        refine wp_append_nil (.tmp 60) (.tmp 64) 24 rfl wc.heap.size 39 i0 3 Tryz.underlying24 Hi.out (.slice (some ⟨b0, 0, none⟩) 0 0) 0 [] rfl F_b0.out 0 rfl (hK _ _ ⟨later_of HL.out, ?_⟩)
        obtain ⟨g1, rfl⟩ : ∃ g, g = b0 := ⟨_, rfl⟩
        have F_g1 := hide F_b0.out
        have L_g1 := hide L_b0.out
        have N_g1_bs := hide N_b0_bs.out
        clear N_b0_bs
        have N_g1_tk := hide N_b0_tk.out
        clear N_b0_tk
        clear F_b0 L_b0
        simp only [Act.put, List.setIfInBounds_toArray, List.set_cons_succ, List.set_cons_zero]
        refine wpAnyS_only 10 (by kernel_rfl) (by simp; rfl) rfl rfl (fun K hK => ?_)
        refine wp_append_at (.tmp 65) (.tmp 67) 24 rfl wc.heap.size 39 i0 _ 3 24 Tryz.underlying24 Hi.out Hz.out.1 Hz.out.2.1 Hz.out.2.2 rfl (by decide) g1 0 0 [] rfl F_g1.out ⟨bs, 0, none⟩ 1 1 (tcells (p0, p1, s2)) rfl rfl (fun j u hu => by rw [Addr.add_lit, Nat.zero_add]; exact F_bs.out.2.1 j u hu) (fun u hu => tcells_one [(p0, p1, s2)] u (by simpa using hu)) (by unfold maxLen; omega) (by omega) HL.out.size (fun g2 cap2 V4 hown hgrow hg hlt => ?_)
        have HL' := hide (HL.out.grown hgrow HL.out.size (fun k hk => by injection hk with hk; have := (F_g1.out.lt g1 rfl).1; omega))
        have HC' := hide (HCC.out.grown hgrow HCC.out.size (fun k hk => by injection hk with hk; have := (F_g1.out.lt g1 rfl).1; have := HBw.out.size; omega))
        replace F_tk := hide (F_tk.out.grown hgrow (fun e => by injection e with e; have := N_g1_tk.out; omega))
        have N_g2_tk : Hid (g2 ≠ tk) := hide (by have := L_tk.out; have := N_g1_tk.out; omega)
        replace L_tk : Hid (tk < V4.heap.size) := hide (by have := L_tk.out; have := hgrow.size; omega)
        clear N_g1_tk
        have F_g2 : Hid (V4.ownsRow wc.heap.size 39 3 (.slice (some ⟨g2, 0, none⟩) 1 cap2) 1 (tcells (p0, p1, s2))) := hide (by simpa using hown)
        have L_g2 : Hid (g2 < V4.heap.size) := hide hlt
        clear HL HCC hown hgrow hg hlt F_g1 L_g1 N_g1_bs F_bs L_bs
        have HL := hide HL'.out
        have HCC := hide HC'.out
        clear HL' HC'
        refine hK _ _ ⟨later_of HL.out, ?_⟩
        simp only [Act.put, List.setIfInBounds_toArray, List.set_cons_succ, List.set_cons_zero]
        refine wpAnyS_only 15 (by kernel_rfl) (by simp; rfl) rfl rfl (fun K hK => ?_)
        refine wp_append_nil (.tmp 68) (.tmp 72) 24 rfl wc.heap.size 39 i0 3 Tryz.underlying24 Hi.out (.slice (some ⟨g2, 0, none⟩) 1 cap2) 1 (tcells (p0, p1, s2)) rfl F_g2.out 0 rfl (hK _ _ ⟨later_of HL.out, ?_⟩)
        obtain ⟨g3, rfl⟩ : ∃ g, g = g2 := ⟨_, rfl⟩
        have F_g3 := hide F_g2.out
        have L_g3 := hide L_g2.out
        have N_g3_tk := hide N_g2_tk.out
        clear N_g2_tk
        clear F_g2 L_g2
        simp only [Act.put, List.setIfInBounds_toArray, List.set_cons_succ, List.set_cons_zero]
        refine wpAnyS_only 16 (by kernel_rfl) (by simp; rfl) rfl rfl (fun K hK => ?_)
        go_wp2_with fail
        refine ⟨later_of HL.out, ?_⟩
        refine wpAnyS_only 18 (by kernel_rfl) (by simp; rfl) rfl rfl (fun K hK => ?_)
        have t0 := F_tk.out.2.1 0 _ rfl
        have t1 := F_tk.out.2.1 1 _ rfl
        have u0 := F_tk.out.free 0
        have u1 := F_tk.out.free 1
        go_wp2_with fail
        have HL9 : Hid (Below wc.heap.size wc ((V4.setCell ⟨tk, 0, none⟩ (.int .i64 (k0 : Int))).setCell ⟨tk, 1, none⟩ (.slice (some ⟨g3, 0, none⟩) 1 cap2))) := hide ((HL.out.setCell (by exact HTK.out) _).setCell (by exact HTK.out) _)
        refine ⟨later_of HL9.out, ?_⟩
        refine wpAnyH_done (by kernel_rfl) ?_ _
        go_wp2_with fail
        go_meet
        have hne : ∀ b, (Value.slice (some ⟨g3, 0, none⟩) 1 cap2).ownBlock = some b → some b ≠ some tk := fun b hb e => by simp [Value.ownBlock] at hb; injection e with e; have := N_g3_tk.out; omega
        exact ⟨tk, g3, cap2, rfl, hide ((F_tk.out.set (k := 0) (by simp) _).set (k := 1) (by simp) _), hide (own_kept (own_kept F_g3.out (grown_set (g := tk) _ rfl) hne) (grown_set (g := tk) _ rfl) hne), HL9⟩
     ·
      skip
      have HTL := hide (show ((l.take k).flatMap tcells).length = k * 3 from take_flat_length tcells 3 (fun _ => rfl) (by have := Hn.out; omega))
      have HDL := hide (show ((l.drop k).flatMap tcells).length = (n - k) * 3 by rw [flat_length tcells 3 (fun _ => rfl), List.length_drop]; have := Hn.out; omega)
      have HTR := hide (show ∀ W, Below w.heap.size w W → ∀ j u, ((l.take k).flatMap tcells)[j]? = some u → W.cell? ((⟨b, off, none⟩ : Addr).add j) = some u from fun W hb => by
       have h := (Hr.out.below hb).part 0 (k * 3)
       rw [List.drop_zero, flat_take tcells 3 (fun _ => rfl)] at h
       simpa using h.add)
      have hkc : k ≤ c := by have := HC.out.1; omega
      have hnc := HC.out.1
      have hc9 := HC.out.2
      have hml : maxLen = 9223372036854775807 := rfl
      have HBw := hide HW.out
      have a0 := HF.out.2.1 0 _ rfl
      have a1 := HF.out.2.1 1 _ rfl
      have r0 := HX.out.2.1 0 _ rfl
      have r1 := HX.out.2.1 1 _ rfl
      have r2 := HX.out.2.1 2 _ rfl
      have az := HF.out.1
      have rz := HX.out.1
      go_wp2_with fail
      refine wpAnyS_start (fun w' => ∃ n : Later wc, w' = n.w) (n := 19) (by kernel_rfl) rfl rfl ?_
      refine wpAnyS_take_all [0, 1, 3, 4, 5, 6, 8, 11, 12, 13, 14] 8 rfl (by kernel_rfl) (by intro c a d v w h; cases d <;> exact h) (by kernel_rfl) (by simp; rfl) rfl (later_drew _) ?_
      repeat (go_big_quiet_step (fail))
      refine wpQuiet_nil ?_
      have HL : Hid (Below wc.heap.size wc wc.drew) := hide (Below.refl _ _).drew
      have HCC : Hid (Below w.heap.size w wc.drew) := hide HBw.out.drew
      clear a0 a1 r0 r1 r2 az rz
      generalize wc.drew = V0 at *
      obtain ⟨ad, had, hadd⟩ : ∃ ad, (if c = k then some (⟨b, off, none⟩ : Addr) else some ⟨b, off + k * 3, none⟩) = some ad ∧ ∀ W, Below w.heap.size w W → ∀ j u, ((l.drop k).flatMap tcells)[j]? = some u → W.cell? (ad.add j) = some u := by
       by_cases hck : c = k
       ·
        refine ⟨_, if_pos hck, fun W hb j u hu => ?_⟩
        have : l.drop k = [] := List.drop_eq_nil_of_le (by have := Hn.out; omega)
        rw [this] at hu
        simp at hu
       ·
        refine ⟨_, if_neg hck, fun W hb => ?_⟩
        have h := (Hr.out.below hb).part (k * 3) ((l.flatMap tcells).length)
        rw [flat_drop tcells 3 (fun _ => rfl), List.take_of_length_le (by rw [flat_length tcells 3 (fun _ => rfl), flat_length tcells 3 (fun _ => rfl), List.length_drop]; omega)] at h
        exact h.add
      rw [had]
      have HDR := hide hadd
      clear had hadd hnc hc9 hml
      refine wpAnyS_three 2 9 17 (by kernel_rfl) (by simp; rfl) (by simp; rfl) (by simp; rfl) rfl rfl rfl rfl rfl rfl (fun K hK => ?_) (fun K hK => ?_) (fun K hK => ?_)
      ·
       go_wp2_with fail
       have HL' : Hid (Below wc.heap.size wc (V0.alloc (.cells #[] 39))) := hide (below_alloc HL.out _)
       have HC' : Hid (Below w.heap.size w (V0.alloc (.cells #[] 39))) := hide (below_alloc HCC.out _)
       refine ⟨later_of HL'.out, ?_⟩
       have F_b0 : Hid ((V0.alloc (.cells #[] 39)).ownsRow wc.heap.size 39 3 (.slice (some ⟨V0.heap.size, 0, none⟩) 0 0) 0 []) := hide (World.ownsRow_made V0 #[] 0 HL.out.size (Nat.zero_le _) rfl)
       have L_b0 : Hid (V0.heap.size < (V0.alloc (.cells #[] 39)).heap.size) := hide (by simp)
       clear HL HCC
       have HL := hide HL'.out
       have HCC := hide HC'.out
       clear HL' HC'
       generalize (V0.alloc (.cells #[] 39)) = V1 at *
       generalize V0.heap.size = b0 at *
       refine wpAnyS_three 7 9 17 (by kernel_rfl) (by simp; rfl) (by simp; rfl) (by simp; rfl) rfl rfl rfl rfl rfl rfl (fun K hK => ?_) (fun K hK => ?_) (fun K hK => ?_)
       ·
        refine wp_append_at (.tmp 60) (.tmp 64) 24 rfl wc.heap.size 39 i0 _ 3 24 Tryz.underlying24 Hi.out Hz.out.1 Hz.out.2.1 Hz.out.2.2 rfl (by decide) b0 0 0 [] rfl F_b0.out ⟨b, off, none⟩ k c ((l.take k).flatMap tcells) rfl HTL.out (HTR.out V1 HCC.out) (tcells_one _) (by unfold maxLen; omega) (by omega) HL.out.size (fun g1 cap1 V2 hown hgrow hg hlt => ?_)
        rw [Nat.zero_add] at hown ⊢
        have HL' := hide (HL.out.grown hgrow HL.out.size (fun k hk => by injection hk with hk; have := (F_b0.out.lt b0 rfl).1; omega))
        have HC' := hide (HCC.out.grown hgrow HCC.out.size (fun k hk => by injection hk with hk; have := (F_b0.out.lt b0 rfl).1; have := HBw.out.size; omega))
        have F_g1 : Hid (V2.ownsRow wc.heap.size 39 3 (.slice (some ⟨g1, 0, none⟩) k cap1) k ((l.take k).flatMap tcells)) := hide (by simpa using hown)
        have L_g1 : Hid (g1 < V2.heap.size) := hide hlt
        clear HL HCC hown hgrow hg hlt F_b0 L_b0
        have HL := hide HL'.out
        have HCC := hide HC'.out
        clear HL' HC'
        refine hK _ _ ⟨later_of HL.out, ?_⟩
        simp only [Act.put, List.setIfInBounds_toArray, List.set_cons_succ, List.set_cons_zero]
        refine wpAnyS_two 9 17 (by kernel_rfl) (by simp; rfl) (by simp; rfl) rfl rfl rfl rfl (fun K hK => ?_) (fun K hK => ?_)
        ·
         go_wp2_with fail
         have HL' : Hid (Below wc.heap.size wc (V2.alloc (.cells #[.int .i64 p0, .int .i64 p1, .int .i64 s2] 39))) := hide (below_alloc HL.out _)
         have HC' : Hid (Below w.heap.size w (V2.alloc (.cells #[.int .i64 p0, .int .i64 p1, .int .i64 s2] 39))) := hide (below_alloc HCC.out _)
         refine ⟨later_of HL'.out, ?_⟩
         replace F_g1 := hide (World.ownsRow.alloc F_g1.out (.cells #[.int .i64 p0, .int .i64 p1, .int .i64 s2] 39))
         have N_g1_bs : Hid (g1 ≠ V2.heap.size) := hide (by have := L_g1.out; omega)
         replace L_g1 : Hid (g1 < (V2.alloc (.cells #[.int .i64 p0, .int .i64 p1, .int .i64 s2] 39)).heap.size) := hide (by have := L_g1.out; simp; omega)
         have F_bs := hide (Row.new V2 #[.int .i64 p0, .int .i64 p1, .int .i64 s2] 39)
         have L_bs : Hid (V2.heap.size < (V2.alloc (.cells #[.int .i64 p0, .int .i64 p1, .int .i64 s2] 39)).heap.size) := hide (by simp)
         clear HL HCC
         have HL := hide HL'.out
         have HCC := hide HC'.out
         clear HL' HC'
         generalize (V2.alloc (.cells #[.int .i64 p0, .int .i64 p1, .int .i64 s2] 39)) = V3 at *
         generalize V2.heap.size = bs at *
         refine wpAnyS_two 10 17 (by kernel_rfl) (by simp; rfl) (by simp; rfl) rfl rfl rfl rfl (fun K hK => ?_) (fun K hK => ?_)
         ·
          refine wp_append_at (.tmp 65) (.tmp 67) 24 rfl wc.heap.size 39 i0 _ 3 24 Tryz.underlying24 Hi.out Hz.out.1 Hz.out.2.1 Hz.out.2.2 rfl (by decide) g1 k cap1 ((l.take k).flatMap tcells) rfl F_g1.out ⟨bs, 0, none⟩ 1 1 (tcells (p0, p1, s2)) rfl rfl (fun j u hu => by rw [Addr.add_lit, Nat.zero_add]; exact F_bs.out.2.1 j u hu) (fun u hu => tcells_one [(p0, p1, s2)] u (by simpa using hu)) (by unfold maxLen; omega) (by omega) HL.out.size (fun g2 cap2 V4 hown hgrow hg hlt => ?_)
          have HL' := hide (HL.out.grown hgrow HL.out.size (fun k hk => by injection hk with hk; have := (F_g1.out.lt g1 rfl).1; omega))
          have HC' := hide (HCC.out.grown hgrow HCC.out.size (fun k hk => by injection hk with hk; have := (F_g1.out.lt g1 rfl).1; have := HBw.out.size; omega))
          have F_g2 : Hid (V4.ownsRow wc.heap.size 39 3 (.slice (some ⟨g2, 0, none⟩) (k + 1) cap2) (k + 1) ((l.take k).flatMap tcells ++ tcells (p0, p1, s2))) := hide (by simpa using hown)
          have L_g2 : Hid (g2 < V4.heap.size) := hide hlt
          clear HL HCC hown hgrow hg hlt F_g1 L_g1 N_g1_bs F_bs L_bs
          have HL := hide HL'.out
          have HCC := hide HC'.out
          clear HL' HC'
          refine hK _ _ ⟨later_of HL.out, ?_⟩
          simp only [Act.put, List.setIfInBounds_toArray, List.set_cons_succ, List.set_cons_zero]
          refine wpAnyS_two 15 17 (by kernel_rfl) (by simp; rfl) (by simp; rfl) rfl rfl rfl rfl (fun K hK => ?_) (fun K hK => ?_)
          ·
           refine wp_append_at (.tmp 68) (.tmp 72) 24 rfl wc.heap.size 39 i0 _ 3 24 Tryz.underlying24 Hi.out Hz.out.1 Hz.out.2.1 Hz.out.2.2 rfl (by decide) g2 (k + 1) cap2 ((l.take k).flatMap tcells ++ tcells (p0, p1, s2)) rfl F_g2.out ad (n - k) (c - k) ((l.drop k).flatMap tcells) rfl HDL.out (HDR.out V4 HCC.out) (tcells_one _) (by unfold maxLen; omega) (by omega) HL.out.size (fun g3 cap3 V5 hown hgrow hg hlt => ?_)
           have HL' := hide (HL.out.grown hgrow HL.out.size (fun k hk => by injection hk with hk; have := (F_g2.out.lt g2 rfl).1; omega))
           have HC' := hide (HCC.out.grown hgrow HCC.out.size (fun k hk => by injection hk with hk; have := (F_g2.out.lt g2 rfl).1; have := HBw.out.size; omega))
           rw [show k + 1 + (n - k) = n + 1 by omega] at hown ⊢
           have F_g3 : Hid (V5.ownsRow wc.heap.size 39 3 (.slice (some ⟨g3, 0, none⟩) (n + 1) cap3) (n + 1) ((insL l k (p0, p1, s2)).flatMap tcells)) := hide (by simpa [insL] using hown)
           have L_g3 : Hid (g3 < V5.heap.size) := hide hlt
           clear HL HCC hown hgrow hg hlt F_g2 L_g2
           have HL := hide HL'.out
           have HCC := hide HC'.out
           clear HL' HC'
           refine hK _ _ ⟨later_of HL.out, ?_⟩
           simp only [Act.put, List.setIfInBounds_toArray, List.set_cons_succ, List.set_cons_zero]
           refine wpAnyS_two 16 17 (by kernel_rfl) (by simp; rfl) (by simp; rfl) rfl rfl rfl rfl (fun K hK => ?_) (fun K hK => ?_)
           ·
            go_wp2_with fail
            refine ⟨later_of HL.out, ?_⟩
            refine wpAnyS_only 17 (by kernel_rfl) (by simp; rfl) rfl rfl (fun K hK => ?_)
            go_wp2_with fail
            have HL' : Hid (Below wc.heap.size wc (V5.alloc (.cells #[.int .i64 0, .slice none 0 0] 26))) := hide (below_alloc HL.out _)
            have HC' : Hid (Below w.heap.size w (V5.alloc (.cells #[.int .i64 0, .slice none 0 0] 26))) := hide (below_alloc HCC.out _)
            refine ⟨later_of HL'.out, ?_⟩
            replace F_g3 := hide (World.ownsRow.alloc F_g3.out (.cells #[.int .i64 0, .slice none 0 0] 26))
            have N_g3_tk : Hid (g3 ≠ V5.heap.size) := hide (by have := L_g3.out; omega)
            replace L_g3 : Hid (g3 < (V5.alloc (.cells #[.int .i64 0, .slice none 0 0] 26)).heap.size) := hide (by have := L_g3.out; simp; omega)
            have F_tk := hide (Row.new V5 #[.int .i64 0, .slice none 0 0] 26)
            have HTK : Hid (wc.heap.size ≤ V5.heap.size) := hide HL.out.size
            have L_tk : Hid (V5.heap.size < (V5.alloc (.cells #[.int .i64 0, .slice none 0 0] 26)).heap.size) := hide (by simp)
            clear HL HCC
            have HL := hide HL'.out
            have HCC := hide HC'.out
            clear HL' HC'
            generalize (V5.alloc (.cells #[.int .i64 0, .slice none 0 0] 26)) = V6 at *
            generalize V5.heap.size = tk at *
            refine wpAnyS_only 18 (by kernel_rfl) (by simp; rfl) rfl rfl (fun K hK => ?_)
            have t0 := F_tk.out.2.1 0 _ rfl
            have t1 := F_tk.out.2.1 1 _ rfl
            have u0 := F_tk.out.free 0
            have u1 := F_tk.out.free 1
            go_wp2_with fail
            have HL9 : Hid (Below wc.heap.size wc ((V6.setCell ⟨tk, 0, none⟩ (.int .i64 (k0 : Int))).setCell ⟨tk, 1, none⟩ (.slice (some ⟨g3, 0, none⟩) (n + 1) cap3))) := hide ((HL.out.setCell (by exact HTK.out) _).setCell (by exact HTK.out) _)
            refine ⟨later_of HL9.out, ?_⟩
            refine wpAnyH_done (by kernel_rfl) ?_ _
            go_wp2_with fail
            go_meet
            have hne : ∀ b, (Value.slice (some ⟨g3, 0, none⟩) (n + 1) cap3).ownBlock = some b → some b ≠ some tk := fun b hb e => by simp [Value.ownBlock] at hb; injection e with e; have := N_g3_tk.out; omega
            exact ⟨tk, g3, cap3, rfl, hide ((F_tk.out.set (k := 0) (by simp) _).set (k := 1) (by simp) _), hide (own_kept (own_kept F_g3.out (grown_set (g := tk) _ rfl) hne) (grown_set (g := tk) _ rfl) hne), HL9⟩
           ·
            go_wp2_with fail
            have HL' : Hid (Below wc.heap.size wc (V5.alloc (.cells #[.int .i64 0, .slice none 0 0] 26))) := hide (below_alloc HL.out _)
            have HC' : Hid (Below w.heap.size w (V5.alloc (.cells #[.int .i64 0, .slice none 0 0] 26))) := hide (below_alloc HCC.out _)
            refine ⟨later_of HL'.out, ?_⟩
            replace F_g3 := hide (World.ownsRow.alloc F_g3.out (.cells #[.int .i64 0, .slice none 0 0] 26))
            have N_g3_tk : Hid (g3 ≠ V5.heap.size) := hide (by have := L_g3.out; omega)
            replace L_g3 : Hid (g3 < (V5.alloc (.cells #[.int .i64 0, .slice none 0 0] 26)).heap.size) := hide (by have := L_g3.out; simp; omega)
            have F_tk := hide (Row.new V5 #[.int .i64 0, .slice none 0 0] 26)
            have HTK : Hid (wc.heap.size ≤ V5.heap.size) := hide HL.out.size
            have L_tk : Hid (V5.heap.size < (V5.alloc (.cells #[.int .i64 0, .slice none 0 0] 26)).heap.size) := hide (by simp)
            clear HL HCC
            have HL := hide HL'.out
            have HCC := hide HC'.out
            clear HL' HC'
            generalize (V5.alloc (.cells #[.int .i64 0, .slice none 0 0] 26)) = V6 at *
            generalize V5.heap.size = tk at *
            refine wpAnyS_only 16 (by kernel_rfl) (by simp; rfl) rfl rfl (fun K hK => ?_)
            go_wp2_with fail
            refine ⟨later_of HL.out, ?_⟩
            refine wpAnyS_only 18 (by kernel_rfl) (by simp; rfl) rfl rfl (fun K hK => ?_)
            have t0 := F_tk.out.2.1 0 _ rfl
            have t1 := F_tk.out.2.1 1 _ rfl
            have u0 := F_tk.out.free 0
            have u1 := F_tk.out.free 1
            go_wp2_with fail
            have HL9 : Hid (Below wc.heap.size wc ((V6.setCell ⟨tk, 0, none⟩ (.int .i64 (k0 : Int))).setCell ⟨tk, 1, none⟩ (.slice (some ⟨g3, 0, none⟩) (n + 1) cap3))) := hide ((HL.out.setCell (by exact HTK.out) _).setCell (by exact HTK.out) _)
            refine ⟨later_of HL9.out, ?_⟩
            refine wpAnyH_done (by kernel_rfl) ?_ _
            go_wp2_with fail
            go_meet
            have hne : ∀ b, (Value.slice (some ⟨g3, 0, none⟩) (n + 1) cap3).ownBlock = some b → some b ≠ some tk := fun b hb e => by simp [Value.ownBlock] at hb; injection e with e; have := N_g3_tk.out; omega
            exact ⟨tk, g3, cap3, rfl, hide ((F_tk.out.set (k := 0) (by simp) _).set (k := 1) (by simp) _), hide (own_kept (own_kept F_g3.out (grown_set (g := tk) _ rfl) hne) (grown_set (g := tk) _ rfl) hne), HL9⟩
          ·
           go_wp2_with fail
           have HL' : Hid (Below wc.heap.size wc (V4.alloc (.cells #[.int .i64 0, .slice none 0 0] 26))) := hide (below_alloc HL.out _)
           have HC' : Hid (Below w.heap.size w (V4.alloc (.cells #[.int .i64 0, .slice none 0 0] 26))) := hide (below_alloc HCC.out _)
           refine ⟨later_of HL'.out, ?_⟩
           replace F_g2 := hide (World.ownsRow.alloc F_g2.out (.cells #[.int .i64 0, .slice none 0 0] 26))
           have N_g2_tk : Hid (g2 ≠ V4.heap.size) := hide (by have := L_g2.out; omega)
           replace L_g2 : Hid (g2 < (V4.alloc (.cells #[.int .i64 0, .slice none 0 0] 26)).heap.size) := hide (by have := L_g2.out; simp; omega)
           have F_tk := hide (Row.new V4 #[.int .i64 0, .slice none 0 0] 26)
           have HTK : Hid (wc.heap.size ≤ V4.heap.size) := hide HL.out.size
           have L_tk : Hid (V4.heap.size < (V4.alloc (.cells #[.int .i64 0, .slice none 0 0] 26)).heap.size) := hide (by simp)
           clear HL HCC
           have HL := hide HL'.out
           have HCC := hide HC'.out
           clear HL' HC'
           generalize (V4.alloc (.cells #[.int .i64 0, .slice none 0 0] 26)) = V5 at *
           generalize V4.heap.size = tk at *
           refine wpAnyS_only 15 (by kernel_rfl) (by simp; rfl) rfl rfl (fun K hK => ?_)
           refine wp_append_at (.tmp 68) (.tmp 72) 24 rfl wc.heap.size 39 i0 _ 3 24 Tryz.underlying24 Hi.out Hz.out.1 Hz.out.2.1 Hz.out.2.2 rfl (by decide) g2 (k + 1) cap2 ((l.take k).flatMap tcells ++ tcells (p0, p1, s2)) rfl F_g2.out ad (n - k) (c - k) ((l.drop k).flatMap tcells) rfl HDL.out (HDR.out V5 HCC.out) (tcells_one _) (by unfold maxLen; omega) (by omega) HL.out.size (fun g3 cap3 V6 hown hgrow hg hlt => ?_)
           have HL' := hide (HL.out.grown hgrow HL.out.size (fun k hk => by injection hk with hk; have := (F_g2.out.lt g2 rfl).1; omega))
           have HC' := hide (HCC.out.grown hgrow HCC.out.size (fun k hk => by injection hk with hk; have := (F_g2.out.lt g2 rfl).1; have := HBw.out.size; omega))
           replace F_tk := hide (F_tk.out.grown hgrow (fun e => by injection e with e; have := N_g2_tk.out; omega))
           have N_g3_tk : Hid (g3 ≠ tk) := hide (by have := L_tk.out; have := N_g2_tk.out; omega)
           replace L_tk : Hid (tk < V6.heap.size) := hide (by have := L_tk.out; have := hgrow.size; omega)
           clear N_g2_tk
           rw [show k + 1 + (n - k) = n + 1 by omega] at hown ⊢
           have F_g3 : Hid (V6.ownsRow wc.heap.size 39 3 (.slice (some ⟨g3, 0, none⟩) (n + 1) cap3) (n + 1) ((insL l k (p0, p1, s2)).flatMap tcells)) := hide (by simpa [insL] using hown)
           have L_g3 : Hid (g3 < V6.heap.size) := hide hlt
           clear HL HCC hown hgrow hg hlt F_g2 L_g2
           have HL := hide HL'.out
           have HCC := hide HC'.out
           clear HL' HC'
           refine hK _ _ ⟨later_of HL.out, ?_⟩
           simp only [Act.put, List.setIfInBounds_toArray, List.set_cons_succ, List.set_cons_zero]
           refine wpAnyS_only 16 (by kernel_rfl) (by simp; rfl) rfl rfl (fun K hK => ?_)
           go_wp2_with fail
           refine ⟨later_of HL.out, ?_⟩
           refine wpAnyS_only 18 (by kernel_rfl) (by simp; rfl) rfl rfl (fun K hK => ?_)
           have t0 := F_tk.out.2.1 0 _ rfl
           have t1 := F_tk.out.2.1 1 _ rfl
           have u0 := F_tk.out.free 0
           have u1 := F_tk.out.free 1
           go_wp2_with fail
           have HL9 : Hid (Below wc.heap.size wc ((V6.setCell ⟨tk, 0, none⟩ (.int .i64 (k0 : Int))).setCell ⟨tk, 1, none⟩ (.slice (some ⟨g3, 0, none⟩) (n + 1) cap3))) := hide ((HL.out.setCell (by exact HTK.out) _).setCell (by exact HTK.out) _)
           refine ⟨later_of HL9.out, ?_⟩
           refine wpAnyH_done (by kernel_rfl) ?_ _
           go_wp2_with fail
           go_meet
           have hne : ∀ b, (Value.slice (some ⟨g3, 0, none⟩) (n + 1) cap3).ownBlock = some b → some b ≠ some tk := fun b hb e => by simp [Value.ownBlock] at hb; injection e with e; have := N_g3_tk.out; omega
           exact ⟨tk, g3, cap3, rfl, hide ((F_tk.out.set (k := 0) (by simp) _).set (k := 1) (by simp) _), hide (own_kept (own_kept F_g3.out (grown_set (g := tk) _ rfl) hne) (grown_set (g := tk) _ rfl) hne), HL9⟩
         ·
          go_wp2_with fail
          have HL' : Hid (Below wc.heap.size wc (V3.alloc (.cells #[.int .i64 0, .slice none 0 0] 26))) := hide (below_alloc HL.out _)
          have HC' : Hid (Below w.heap.size w (V3.alloc (.cells #[.int .i64 0, .slice none 0 0] 26))) := hide (below_alloc HCC.out _)
          refine ⟨later_of HL'.out, ?_⟩
          replace F_g1 := hide (World.ownsRow.alloc F_g1.out (.cells #[.int .i64 0, .slice none 0 0] 26))
          have N_g1_tk : Hid (g1 ≠ V3.heap.size) := hide (by have := L_g1.out; omega)
          replace L_g1 : Hid (g1 < (V3.alloc (.cells #[.int .i64 0, .slice none 0 0] 26)).heap.size) := hide (by have := L_g1.out; simp; omega)
          replace F_bs := hide (F_bs.out.alloc (.cells #[.int .i64 0, .slice none 0 0] 26))
          replace L_bs : Hid (bs < (V3.alloc (.cells #[.int .i64 0, .slice none 0 0] 26)).heap.size) := hide (by have := L_bs.out; simp; omega)
          have F_tk := hide (Row.new V3 #[.int .i64 0, .slice none 0 0] 26)
          have HTK : Hid (wc.heap.size ≤ V3.heap.size) := hide HL.out.size
          have L_tk : Hid (V3.heap.size < (V3.alloc (.cells #[.int .i64 0, .slice none 0 0] 26)).heap.size) := hide (by simp)
          clear HL HCC
          have HL := hide HL'.out
          have HCC := hide HC'.out
          clear HL' HC'
          generalize (V3.alloc (.cells #[.int .i64 0, .slice none 0 0] 26)) = V4 at *
          generalize V3.heap.size = tk at *
          refine wpAnyS_only 10 (by kernel_rfl) (by simp; rfl) rfl rfl (fun K hK => ?_)
          refine wp_append_at (.tmp 65) (.tmp 67) 24 rfl wc.heap.size 39 i0 _ 3 24 Tryz.underlying24 Hi.out Hz.out.1 Hz.out.2.1 Hz.out.2.2 rfl (by decide) g1 k cap1 ((l.take k).flatMap tcells) rfl F_g1.out ⟨bs, 0, none⟩ 1 1 (tcells (p0, p1, s2)) rfl rfl (fun j u hu => by rw [Addr.add_lit, Nat.zero_add]; exact F_bs.out.2.1 j u hu) (fun u hu => tcells_one [(p0, p1, s2)] u (by simpa using hu)) (by unfold maxLen; omega) (by omega) HL.out.size (fun g2 cap2 V5 hown hgrow hg hlt => ?_)
          have HL' := hide (HL.out.grown hgrow HL.out.size (fun k hk => by injection hk with hk; have := (F_g1.out.lt g1 rfl).1; omega))
          have HC' := hide (HCC.out.grown hgrow HCC.out.size (fun k hk => by injection hk with hk; have := (F_g1.out.lt g1 rfl).1; have := HBw.out.size; omega))
          replace F_tk := hide (F_tk.out.grown hgrow (fun e => by injection e with e; have := N_g1_tk.out; omega))
          have N_g2_tk : Hid (g2 ≠ tk) := hide (by have := L_tk.out; have := N_g1_tk.out; omega)
          replace L_tk : Hid (tk < V5.heap.size) := hide (by have := L_tk.out; have := hgrow.size; omega)
          clear N_g1_tk
          have F_g2 : Hid (V5.ownsRow wc.heap.size 39 3 (.slice (some ⟨g2, 0, none⟩) (k + 1) cap2) (k + 1) ((l.take k).flatMap tcells ++ tcells (p0, p1, s2))) := hide (by simpa using hown)
          have L_g2 : Hid (g2 < V5.heap.size) := hide hlt
          clear HL HCC hown hgrow hg hlt F_g1 L_g1 N_g1_bs F_bs L_bs
          have HL := hide HL'.out
          have HCC := hide HC'.out
          clear HL' HC'
          refine hK _ _ ⟨later_of HL.out, ?_⟩
          simp only [Act.put, List.setIfInBounds_toArray, List.set_cons_succ, List.set_cons_zero]
          refine wpAnyS_only 15 (by kernel_rfl) (by simp; rfl) rfl rfl (fun K hK => ?_)
          refine wp_append_at (.tmp 68) (.tmp 72) 24 rfl wc.heap.size 39 i0 _ 3 24 Tryz.underlying24 Hi.out Hz.out.1 Hz.out.2.1 Hz.out.2.2 rfl (by decide) g2 (k + 1) cap2 ((l.take k).flatMap tcells ++ tcells (p0, p1, s2)) rfl F_g2.out ad (n - k) (c - k) ((l.drop k).flatMap tcells) rfl HDL.out (HDR.out V5 HCC.out) (tcells_one _) (by unfold maxLen; omega) (by omega) HL.out.size (fun g3 cap3 V6 hown hgrow hg hlt => ?_)
          have HL' := hide (HL.out.grown hgrow HL.out.size (fun k hk => by injection hk with hk; have := (F_g2.out.lt g2 rfl).1; omega))
          have HC' := hide (HCC.out.grown hgrow HCC.out.size (fun k hk => by injection hk with hk; have := (F_g2.out.lt g2 rfl).1; have := HBw.out.size; omega))
          replace F_tk := hide (F_tk.out.grown hgrow (fun e => by injection e with e; have := N_g2_tk.out; omega))
          have N_g3_tk : Hid (g3 ≠ tk) := hide (by have := L_tk.out; have := N_g2_tk.out; omega)
          replace L_tk : Hid (tk < V6.heap.size) := hide (by have := L_tk.out; have := hgrow.size; omega)
          clear N_g2_tk
          rw [show k + 1 + (n - k) = n + 1 by omega] at hown ⊢
          have F_g3 : Hid (V6.ownsRow wc.heap.size 39 3 (.slice (some ⟨g3, 0, none⟩) (n + 1) cap3) (n + 1) ((insL l k (p0, p1, s2)).flatMap tcells)) := hide (by simpa [insL] using hown)
          have L_g3 : Hid (g3 < V6.heap.size) := hide hlt
          clear HL HCC hown hgrow hg hlt F_g2 L_g2
          have HL := hide HL'.out
          have HCC := hide HC'.out
          clear HL' HC'
          refine hK _ _ ⟨later_of HL.out, ?_⟩
          simp only [Act.put, List.setIfInBounds_toArray, List.set_cons_succ, List.set_cons_zero]
          refine wpAnyS_only 16 (by kernel_rfl) (by simp; rfl) rfl rfl (fun K hK => ?_)
          go_wp2_with fail
          refine ⟨later_of HL.out, ?_⟩
          refine wpAnyS_only 18 (by kernel_rfl) (by simp; rfl) rfl rfl (fun K hK => ?_)
          have t0 := F_tk.out.2.1 0 _ rfl
          have t1 := F_tk.out.2.1 1 _ rfl
          have u0 := F_tk.out.free 0
          have u1 := F_tk.out.free 1
          go_wp2_with fail
          have HL9 : Hid (Below wc.heap.size wc ((V6.setCell ⟨tk, 0, none⟩ (.int .i64 (k0 : Int))).setCell ⟨tk, 1, none⟩ (.slice (some ⟨g3, 0, none⟩) (n + 1) cap3))) := hide ((HL.out.setCell (by exact HTK.out) _).setCell (by exact HTK.out) _)
          refine ⟨later_of HL9.out, ?_⟩
          refine wpAnyH_done (by kernel_rfl) ?_ _
          go_wp2_with fail
          go_meet
          have hne : ∀ b, (Value.slice (some ⟨g3, 0, none⟩) (n + 1) cap3).ownBlock = some b → some b ≠ some tk := fun b hb e => by simp [Value.ownBlock] at hb; injection e with e; have := N_g3_tk.out; omega
          exact ⟨tk, g3, cap3, rfl, hide ((F_tk.out.set (k := 0) (by simp) _).set (k := 1) (by simp) _), hide (own_kept (own_kept F_g3.out (grown_set (g := tk) _ rfl) hne) (grown_set (g := tk) _ rfl) hne), HL9⟩
        ·
         go_wp2_with fail
         have HL' : Hid (Below wc.heap.size wc (V2.alloc (.cells #[.int .i64 0, .slice none 0 0] 26))) := hide (below_alloc HL.out _)
         have HC' : Hid (Below w.heap.size w (V2.alloc (.cells #[.int .i64 0, .slice none 0 0] 26))) := hide (below_alloc HCC.out _)
         refine ⟨later_of HL'.out, ?_⟩
         replace F_g1 := hide (World.ownsRow.alloc F_g1.out (.cells #[.int .i64 0, .slice none 0 0] 26))
         have N_g1_tk : Hid (g1 ≠ V2.heap.size) := hide (by have := L_g1.out; omega)
         replace L_g1 : Hid (g1 < (V2.alloc (.cells #[.int .i64 0, .slice none 0 0] 26)).heap.size) := hide (by have := L_g1.out; simp; omega)
         have F_tk := hide (Row.new V2 #[.int .i64 0, .slice none 0 0] 26)
         have HTK : Hid (wc.heap.size ≤ V2.heap.size) := hide HL.out.size
         have L_tk : Hid (V2.heap.size < (V2.alloc (.cells #[.int .i64 0, .slice none 0 0] 26)).heap.size) := hide (by simp)
         clear HL HCC
         have HL := hide HL'.out
         have HCC := hide HC'.out
         clear HL' HC'
         generalize (V2.alloc (.cells #[.int .i64 0, .slice none 0 0] 26)) = V3 at *
         generalize V2.heap.size = tk at *
         refine wpAnyS_only 9 (by kernel_rfl) (by simp; rfl) rfl rfl (fun K hK => ?_)
         go_wp2_with fail
         have HL' : Hid (Below wc.heap.size wc (V3.alloc (.cells #[.int .i64 p0, .int .i64 p1, .int .i64 s2] 39))) := hide (below_alloc HL.out _)
         have HC' : Hid (Below w.heap.size w (V3.alloc (.cells #[.int .i64 p0, .int .i64 p1, .int .i64 s2] 39))) := hide (below_alloc HCC.out _)
         refine ⟨later_of HL'.out, ?_⟩
         replace F_g1 := hide (World.ownsRow.alloc F_g1.out (.cells #[.int .i64 p0, .int .i64 p1, .int .i64 s2] 39))
         have N_g1_bs : Hid (g1 ≠ V3.heap.size) := hide (by have := L_g1.out; omega)
         replace L_g1 : Hid (g1 < (V3.alloc (.cells #[.int .i64 p0, .int .i64 p1, .int .i64 s2] 39)).heap.size) := hide (by have := L_g1.out; simp; omega)
         replace F_tk := hide (F_tk.out.alloc (.cells #[.int .i64 p0, .int .i64 p1, .int .i64 s2] 39))
         replace L_tk : Hid (tk < (V3.alloc (.cells #[.int .i64 p0, .int .i64 p1, .int .i64 s2] 39)).heap.size) := hide (by have := L_tk.out; simp; omega)
         have F_bs := hide (Row.new V3 #[.int .i64 p0, .int .i64 p1, .int .i64 s2] 39)
         have L_bs : Hid (V3.heap.size < (V3.alloc (.cells #[.int .i64 p0, .int .i64 p1, .int .i64 s2] 39)).heap.size) := hide (by simp)
         clear HL HCC
         have HL := hide HL'.out
         have HCC := hide HC'.out
         clear HL' HC'
         generalize (V3.alloc (.cells #[.int .i64 p0, .int .i64 p1, .int .i64 s2] 39)) = V4 at *
         generalize V3.heap.size = bs at *
         refine wpAnyS_only 10 (by kernel_rfl) (by simp; rfl) rfl rfl (fun K hK => ?_)
         refine wp_append_at (.tmp 65) (.tmp 67) 24 rfl wc.heap.size 39 i0 _ 3 24 Tryz.underlying24 Hi.out Hz.out.1 Hz.out.2.1 Hz.out.2.2 rfl (by decide) g1 k cap1 ((l.take k).flatMap tcells) rfl F_g1.out ⟨bs, 0, none⟩ 1 1 (tcells (p0, p1, s2)) rfl rfl (fun j u hu => by rw [Addr.add_lit, Nat.zero_add]; exact F_bs.out.2.1 j u hu) (fun u hu => tcells_one [(p0, p1, s2)] u (by simpa using hu)) (by unfold maxLen; omega) (by omega) HL.out.size (fun g2 cap2 V5 hown hgrow hg hlt => ?_)
         have HL' := hide (HL.out.grown hgrow HL.out.size (fun k hk => by injection hk with hk; have := (F_g1.out.lt g1 rfl).1; omega))
         have HC' := hide (HCC.out.grown hgrow HCC.out.size (fun k hk => by injection hk with hk; have := (F_g1.out.lt g1 rfl).1; have := HBw.out.size; omega))
         replace F_tk := hide (F_tk.out.grown hgrow (fun e => by injection e with e; have := N_g1_tk.out; omega))
         have N_g2_tk : Hid (g2 ≠ tk) := hide (by have := L_tk.out; have := N_g1_tk.out; omega)
         replace L_tk : Hid (tk < V5.heap.size) := hide (by have := L_tk.out; have := hgrow.size; omega)
         clear N_g1_tk
         have F_g2 : Hid (V5.ownsRow wc.heap.size 39 3 (.slice (some ⟨g2, 0, none⟩) (k + 1) cap2) (k + 1) ((l.take k).flatMap tcells ++ tcells (p0, p1, s2))) := hide (by simpa using hown)
         have L_g2 : Hid (g2 < V5.heap.size) := hide hlt
         clear HL HCC hown hgrow hg hlt F_g1 L_g1 N_g1_bs F_bs L_bs
         have HL := hide HL'.out
         have HCC := hide HC'.out
         clear HL' HC'
         refine hK _ _ ⟨later_of HL.out, ?_⟩
         simp only [Act.put, List.setIfInBounds_toArray, List.set_cons_succ, List.set_cons_zero]
         refine wpAnyS_only 15 (by kernel_rfl) (by simp; rfl) rfl rfl (fun K hK => ?_)
         refine wp_append_at (.tmp 68) (.tmp 72) 24 rfl wc.heap.size 39 i0 _ 3 24 Tryz.underlying24 Hi.out Hz.out.1 Hz.out.2.1 Hz.out.2.2 rfl (by decide) g2 (k + 1) cap2 ((l.take k).flatMap tcells ++ tcells (p0, p1, s2)) rfl F_g2.out ad (n - k) (c - k) ((l.drop k).flatMap tcells) rfl HDL.out (HDR.out V5 HCC.out) (tcells_one _) (by unfold maxLen; omega) (by omega) HL.out.size (fun g3 cap3 V6 hown hgrow hg hlt => ?_)
         have HL' := hide (HL.out.grown hgrow HL.out.size (fun k hk => by injection hk with hk; have := (F_g2.out.lt g2 rfl).1; omega))
         have HC' := hide (HCC.out.grown hgrow HCC.out.size (fun k hk => by injection hk with hk; have := (F_g2.out.lt g2 rfl).1; have := HBw.out.size; omega))
         replace F_tk := hide (F_tk.out.grown hgrow (fun e => by injection e with e; have := N_g2_tk.out; omega))
         have N_g3_tk : Hid (g3 ≠ tk) := hide (by have := L_tk.out; have := N_g2_tk.out; omega)
         replace L_tk : Hid (tk < V6.heap.size) := hide (by have := L_tk.out; have := hgrow.size; omega)
         clear N_g2_tk
         rw [show k + 1 + (n - k) = n + 1 by omega] at hown ⊢
         have F_g3 : Hid (V6.ownsRow wc.heap.size 39 3 (.slice (some ⟨g3, 0, none⟩) (n + 1) cap3) (n + 1) ((insL l k (p0, p1, s2)).flatMap tcells)) := hide (by simpa [insL] using hown)
         have L_g3 : Hid (g3 < V6.heap.size) := hide hlt
         clear HL HCC hown hgrow hg hlt F_g2 L_g2
         have HL := hide HL'.out
         have HCC := hide HC'.out
         clear HL' HC'
         refine hK _ _ ⟨later_of HL.out, ?_⟩
         simp only [Act.put, List.setIfInBounds_toArray, List.set_cons_succ, List.set_cons_zero]
         refine wpAnyS_only 16 (by kernel_rfl) (by simp; rfl) rfl rfl (fun K hK => ?_)
         go_wp2_with fail
         refine ⟨later_of HL.out, ?_⟩
         refine wpAnyS_only 18 (by kernel_rfl) (by simp; rfl) rfl rfl (fun K hK => ?_)
         have t0 := F_tk.out.2.1 0 _ rfl
         have t1 := F_tk.out.2.1 1 _ rfl
         have u0 := F_tk.out.free 0
         have u1 := F_tk.out.free 1
         go_wp2_with fail
         have HL9 : Hid (Below wc.heap.size wc ((V6.setCell ⟨tk, 0, none⟩ (.int .i64 (k0 : Int))).setCell ⟨tk, 1, none⟩ (.slice (some ⟨g3, 0, none⟩) (n + 1) cap3))) := hide ((HL.out.setCell (by exact HTK.out) _).setCell (by exact HTK.out) _)
         refine ⟨later_of HL9.out, ?_⟩
         refine wpAnyH_done (by kernel_rfl) ?_ _
         go_wp2_with fail
         go_meet
         have hne : ∀ b, (Value.slice (some ⟨g3, 0, none⟩) (n + 1) cap3).ownBlock = some b → some b ≠ some tk := fun b hb e => by simp [Value.ownBlock] at hb; injection e with e; have := N_g3_tk.out; omega
         exact ⟨tk, g3, cap3, rfl, hide ((F_tk.out.set (k := 0) (by simp) _).set (k := 1) (by simp) _), hide (own_kept (own_kept F_g3.out (grown_set (g := tk) _ rfl) hne) (grown_set (g := tk) _ rfl) hne), HL9⟩
       ·
        go_wp2_with fail
        have HL' : Hid (Below wc.heap.size wc (V1.alloc (.cells #[.int .i64 p0, .int .i64 p1, .int .i64 s2] 39))) := hide (below_alloc HL.out _)
        have HC' : Hid (Below w.heap.size w (V1.alloc (.cells #[.int .i64 p0, .int .i64 p1, .int .i64 s2] 39))) := hide (below_alloc HCC.out _)
        refine ⟨later_of HL'.out, ?_⟩
        replace F_b0 := hide (World.ownsRow.alloc F_b0.out (.cells #[.int .i64 p0, .int .i64 p1, .int .i64 s2] 39))
        have N_b0_bs : Hid (b0 ≠ V1.heap.size) := hide (by have := L_b0.out; omega)
        replace L_b0 : Hid (b0 < (V1.alloc (.cells #[.int .i64 p0, .int .i64 p1, .int .i64 s2] 39)).heap.size) := hide (by have := L_b0.out; simp; omega)
        have F_bs := hide (Row.new V1 #[.int .i64 p0, .int .i64 p1, .int .i64 s2] 39)
        have L_bs : Hid (V1.heap.size < (V1.alloc (.cells #[.int .i64 p0, .int .i64 p1, .int .i64 s2] 39)).heap.size) := hide (by simp)
        clear HL HCC
        have HL := hide HL'.out
        have HCC := hide HC'.out
        clear HL' HC'
        generalize (V1.alloc (.cells #[.int .i64 p0, .int .i64 p1, .int .i64 s2] 39)) = V2 at *
        generalize V1.heap.size = bs at *
        refine wpAnyS_two 7 17 (by kernel_rfl) (by simp; rfl) (by simp; rfl) rfl rfl rfl rfl (fun K hK => ?_) (fun K hK => ?_)
        ·
         refine wp_append_at (.tmp 60) (.tmp 64) 24 rfl wc.heap.size 39 i0 _ 3 24 Tryz.underlying24 Hi.out Hz.out.1 Hz.out.2.1 Hz.out.2.2 rfl (by decide) b0 0 0 [] rfl F_b0.out ⟨b, off, none⟩ k c ((l.take k).flatMap tcells) rfl HTL.out (HTR.out V2 HCC.out) (tcells_one _) (by unfold maxLen; omega) (by omega) HL.out.size (fun g1 cap1 V3 hown hgrow hg hlt => ?_)
         rw [Nat.zero_add] at hown ⊢
         have HL' := hide (HL.out.grown hgrow HL.out.size (fun k hk => by injection hk with hk; have := (F_b0.out.lt b0 rfl).1; omega))
         have HC' := hide (HCC.out.grown hgrow HCC.out.size (fun k hk => by injection hk with hk; have := (F_b0.out.lt b0 rfl).1; have := HBw.out.size; omega))
         replace F_bs := hide (F_bs.out.grown hgrow (fun e => by injection e with e; have := N_b0_bs.out; omega))
         have N_g1_bs : Hid (g1 ≠ bs) := hide (by have := L_bs.out; have := N_b0_bs.out; omega)
         replace L_bs : Hid (bs < V3.heap.size) := hide (by have := L_bs.out; have := hgrow.size; omega)
         clear N_b0_bs
         have F_g1 : Hid (V3.ownsRow wc.heap.size 39 3 (.slice (some ⟨g1, 0, none⟩) k cap1) k ((l.take k).flatMap tcells)) := hide (by simpa using hown)
         have L_g1 : Hid (g1 < V3.heap.size) := hide hlt
         clear HL HCC hown hgrow hg hlt F_b0 L_b0
         have HL := hide HL'.out
         have HCC := hide HC'.out
         clear HL' HC'
         refine hK _ _ ⟨later_of HL.out, ?_⟩
         simp only [Act.put, List.setIfInBounds_toArray, List.set_cons_succ, List.set_cons_zero]
         refine wpAnyS_two 10 17 (by kernel_rfl) (by simp; rfl) (by simp; rfl) rfl rfl rfl rfl (fun K hK => ?_) (fun K hK => ?_)
         ·
          refine wp_append_at (.tmp 65) (.tmp 67) 24 rfl wc.heap.size 39 i0 _ 3 24 Tryz.underlying24 Hi.out Hz.out.1 Hz.out.2.1 Hz.out.2.2 rfl (by decide) g1 k cap1 ((l.take k).flatMap tcells) rfl F_g1.out ⟨bs, 0, none⟩ 1 1 (tcells (p0, p1, s2)) rfl rfl (fun j u hu => by rw [Addr.add_lit, Nat.zero_add]; exact F_bs.out.2.1 j u hu) (fun u hu => tcells_one [(p0, p1, s2)] u (by simpa using hu)) (by unfold maxLen; omega) (by omega) HL.out.size (fun g2 cap2 V4 hown hgrow hg hlt => ?_)
          have HL' := hide (HL.out.grown hgrow HL.out.size (fun k hk => by injection hk with hk; have := (F_g1.out.lt g1 rfl).1; omega))
          have HC' := hide (HCC.out.grown hgrow HCC.out.size (fun k hk => by injection hk with hk; have := (F_g1.out.lt g1 rfl).1; have := HBw.out.size; omega))
          have F_g2 : Hid (V4.ownsRow wc.heap.size 39 3 (.slice (some ⟨g2, 0, none⟩) (k + 1) cap2) (k + 1) ((l.take k).flatMap tcells ++ tcells (p0, p1, s2))) := hide (by simpa using hown)
          have L_g2 : Hid (g2 < V4.heap.size) := hide hlt
          clear HL HCC hown hgrow hg hlt F_g1 L_g1 N_g1_bs F_bs L_bs
          have HL := hide HL'.out
          have HCC := hide HC'.out
          clear HL' HC'
          refine hK _ _ ⟨later_of HL.out, ?_⟩
          simp only [Act.put, List.setIfInBounds_toArray, List.set_cons_succ, List.set_cons_zero]
          refine wpAnyS_two 15 17 (by kernel_rfl) (by simp; rfl) (by simp; rfl) rfl rfl rfl rfl (fun K hK => ?_) (fun K hK => ?_)
          ·
           refine wp_append_at (.tmp 68) (.tmp 72) 24 rfl wc.heap.size 39 i0 _ 3 24 Tryz.underlying24 Hi.out Hz.out.1 Hz.out.2.1 Hz.out.2.2 rfl (by decide) g2 (k + 1) cap2 ((l.take k).flatMap tcells ++ tcells (p0, p1, s2)) rfl F_g2.out ad (n - k) (c - k) ((l.drop k).flatMap tcells) rfl HDL.out (HDR.out V4 HCC.out) (tcells_one _) (by unfold maxLen; omega) (by omega) HL.out.size (fun g3 cap3 V5 hown hgrow hg hlt => ?_)
           have HL' := hide (HL.out.grown hgrow HL.out.size (fun k hk => by injection hk with hk; have := (F_g2.out.lt g2 rfl).1; omega))
           have HC' := hide (HCC.out.grown hgrow HCC.out.size (fun k hk => by injection hk with hk; have := (F_g2.out.lt g2 rfl).1; have := HBw.out.size; omega))
           rw [show k + 1 + (n - k) = n + 1 by omega] at hown ⊢
           have F_g3 : Hid (V5.ownsRow wc.heap.size 39 3 (.slice (some ⟨g3, 0, none⟩) (n + 1) cap3) (n + 1) ((insL l k (p0, p1, s2)).flatMap tcells)) := hide (by simpa [insL] using hown)
           have L_g3 : Hid (g3 < V5.heap.size) := hide hlt
           clear HL HCC hown hgrow hg hlt F_g2 L_g2
           have HL := hide HL'.out
           have HCC := hide HC'.out
           clear HL' HC'
           refine hK _ _ ⟨later_of HL.out, ?_⟩
           simp only [Act.put, List.setIfInBounds_toArray, List.set_cons_succ, List.set_cons_zero]
           refine wpAnyS_two 16 17 (by kernel_rfl) (by simp; rfl) (by simp; rfl) rfl rfl rfl rfl (fun K hK => ?_) (fun K hK => ?_)
           ·
            go_wp2_with fail
            refine ⟨later_of HL.out, ?_⟩
            refine wpAnyS_only 17 (by kernel_rfl) (by simp; rfl) rfl rfl (fun K hK => ?_)
            go_wp2_with fail
            have HL' : Hid (Below wc.heap.size wc (V5.alloc (.cells #[.int .i64 0, .slice none 0 0] 26))) := hide (below_alloc HL.out _)
            have HC' : Hid (Below w.heap.size w (V5.alloc (.cells #[.int .i64 0, .slice none 0 0] 26))) := hide (below_alloc HCC.out _)
            refine ⟨later_of HL'.out, ?_⟩
            replace F_g3 := hide (World.ownsRow.alloc F_g3.out (.cells #[.int .i64 0, .slice none 0 0] 26))
            have N_g3_tk : Hid (g3 ≠ V5.heap.size) := hide (by have := L_g3.out; omega)
            replace L_g3 : Hid (g3 < (V5.alloc (.cells #[.int .i64 0, .slice none 0 0] 26)).heap.size) := hide (by have := L_g3.out; simp; omega)
            have F_tk := hide (Row.new V5 #[.int .i64 0, .slice none 0 0] 26)
            have HTK : Hid (wc.heap.size ≤ V5.heap.size) := hide HL.out.size
            have L_tk : Hid (V5.heap.size < (V5.alloc (.cells #[.int .i64 0, .slice none 0 0] 26)).heap.size) := hide (by simp)
            clear HL HCC
            have HL := hide HL'.out
            have HCC := hide HC'.out
            clear HL' HC'
            generalize (V5.alloc (.cells #[.int .i64 0, .slice none 0 0] 26)) = V6 at *
            generalize V5.heap.size = tk at *
            refine wpAnyS_only 18 (by kernel_rfl) (by simp; rfl) rfl rfl (fun K hK => ?_)
            have t0 := F_tk.out.2.1 0 _ rfl
            have t1 := F_tk.out.2.1 1 _ rfl
            have u0 := F_tk.out.free 0
            have u1 := F_tk.out.free 1
            go_wp2_with fail
            have HL9 : Hid (Below wc.heap.size wc ((V6.setCell ⟨tk, 0, none⟩ (.int .i64 (k0 : Int))).setCell ⟨tk, 1, none⟩ (.slice (some ⟨g3, 0, none⟩) (n + 1) cap3))) := hide ((HL.out.setCell (by exact HTK.out) _).setCell (by exact HTK.out) _)
            refine ⟨later_of HL9.out, ?_⟩
            refine wpAnyH_done (by kernel_rfl) ?_ _
            go_wp2_with fail
            go_meet
            have hne : ∀ b, (Value.slice (some ⟨g3, 0, none⟩) (n + 1) cap3).ownBlock = some b → some b ≠ some tk := fun b hb e => by simp [Value.ownBlock] at hb; injection e with e; have := N_g3_tk.out; omega
            exact ⟨tk, g3, cap3, rfl, hide ((F_tk.out.set (k := 0) (by simp) _).set (k := 1) (by simp) _), hide (own_kept (own_kept F_g3.out (grown_set (g := tk) _ rfl) hne) (grown_set (g := tk) _ rfl) hne), HL9⟩
           ·
            go_wp2_with fail
            have HL' : Hid (Below wc.heap.size wc (V5.alloc (.cells #[.int .i64 0, .slice none 0 0] 26))) := hide (below_alloc HL.out _)
            have HC' : Hid (Below w.heap.size w (V5.alloc (.cells #[.int .i64 0, .slice none 0 0] 26))) := hide (below_alloc HCC.out _)
            refine ⟨later_of HL'.out, ?_⟩
            replace F_g3 := hide (World.ownsRow.alloc F_g3.out (.cells #[.int .i64 0, .slice none 0 0] 26))
            have N_g3_tk : Hid (g3 ≠ V5.heap.size) := hide (by have := L_g3.out; omega)
            replace L_g3 : Hid (g3 < (V5.alloc (.cells #[.int .i64 0, .slice none 0 0] 26)).heap.size) := hide (by have := L_g3.out; simp; omega)
            have F_tk := hide (Row.new V5 #[.int .i64 0, .slice none 0 0] 26)
            have HTK : Hid (wc.heap.size ≤ V5.heap.size) := hide HL.out.size
            have L_tk : Hid (V5.heap.size < (V5.alloc (.cells #[.int .i64 0, .slice none 0 0] 26)).heap.size) := hide (by simp)
            clear HL HCC
            have HL := hide HL'.out
            have HCC := hide HC'.out
            clear HL' HC'
            generalize (V5.alloc (.cells #[.int .i64 0, .slice none 0 0] 26)) = V6 at *
            generalize V5.heap.size = tk at *
            refine wpAnyS_only 16 (by kernel_rfl) (by simp; rfl) rfl rfl (fun K hK => ?_)
            go_wp2_with fail
            refine ⟨later_of HL.out, ?_⟩
            refine wpAnyS_only 18 (by kernel_rfl) (by simp; rfl) rfl rfl (fun K hK => ?_)
            have t0 := F_tk.out.2.1 0 _ rfl
            have t1 := F_tk.out.2.1 1 _ rfl
            have u0 := F_tk.out.free 0
            have u1 := F_tk.out.free 1
            go_wp2_with fail
            have HL9 : Hid (Below wc.heap.size wc ((V6.setCell ⟨tk, 0, none⟩ (.int .i64 (k0 : Int))).setCell ⟨tk, 1, none⟩ (.slice (some ⟨g3, 0, none⟩) (n + 1) cap3))) := hide ((HL.out.setCell (by exact HTK.out) _).setCell (by exact HTK.out) _)
            refine ⟨later_of HL9.out, ?_⟩
            refine wpAnyH_done (by kernel_rfl) ?_ _
            go_wp2_with fail
            go_meet
            have hne : ∀ b, (Value.slice (some ⟨g3, 0, none⟩) (n + 1) cap3).ownBlock = some b → some b ≠ some tk := fun b hb e => by simp [Value.ownBlock] at hb; injection e with e; have := N_g3_tk.out; omega
            exact ⟨tk, g3, cap3, rfl, hide ((F_tk.out.set (k := 0) (by simp) _).set (k := 1) (by simp) _), hide (own_kept (own_kept F_g3.out (grown_set (g := tk) _ rfl) hne) (grown_set (g := tk) _ rfl) hne), HL9⟩
          ·
           go_wp2_with fail
           have HL' : Hid (Below wc.heap.size wc (V4.alloc (.cells #[.int .i64 0, .slice none 0 0] 26))) := hide (below_alloc HL.out _)
           have HC' : Hid (Below w.heap.size w (V4.alloc (.cells #[.int .i64 0, .slice none 0 0] 26))) := hide (below_alloc HCC.out _)
           refine ⟨later_of HL'.out, ?_⟩
           replace F_g2 := hide (World.ownsRow.alloc F_g2.out (.cells #[.int .i64 0, .slice none 0 0] 26))
           have N_g2_tk : Hid (g2 ≠ V4.heap.size) := hide (by have := L_g2.out; omega)
           replace L_g2 : Hid (g2 < (V4.alloc (.cells #[.int .i64 0, .slice none 0 0] 26)).heap.size) := hide (by have := L_g2.out; simp; omega)
           have F_tk := hide (Row.new V4 #[.int .i64 0, .slice none 0 0] 26)
           have HTK : Hid (wc.heap.size ≤ V4.heap.size) := hide HL.out.size
           have L_tk : Hid (V4.heap.size < (V4.alloc (.cells #[.int .i64 0, .slice none 0 0] 26)).heap.size) := hide (by simp)
           clear HL HCC
           have HL := hide HL'.out
           have HCC := hide HC'.out
           clear HL' HC'
           generalize (V4.alloc (.cells #[.int .i64 0, .slice none 0 0] 26)) = V5 at *
           generalize V4.heap.size = tk at *
           refine wpAnyS_only 15 (by kernel_rfl) (by simp; rfl) rfl rfl (fun K hK => ?_)
           refine wp_append_at (.tmp 68) (.tmp 72) 24 rfl wc.heap.size 39 i0 _ 3 24 Tryz.underlying24 Hi.out Hz.out.1 Hz.out.2.1 Hz.out.2.2 rfl (by decide) g2 (k + 1) cap2 ((l.take k).flatMap tcells ++ tcells (p0, p1, s2)) rfl F_g2.out ad (n - k) (c - k) ((l.drop k).flatMap tcells) rfl HDL.out (HDR.out V5 HCC.out) (tcells_one _) (by unfold maxLen; omega) (by omega) HL.out.size (fun g3 cap3 V6 hown hgrow hg hlt => ?_)
           have HL' := hide (HL.out.grown hgrow HL.out.size (fun k hk => by injection hk with hk; have := (F_g2.out.lt g2 rfl).1; omega))
           have HC' := hide (HCC.out.grown hgrow HCC.out.size (fun k hk => by injection hk with hk; have := (F_g2.out.lt g2 rfl).1; have := HBw.out.size; omega))
           replace F_tk := hide (F_tk.out.grown hgrow (fun e => by injection e with e; have := N_g2_tk.out; omega))
           have N_g3_tk : Hid (g3 ≠ tk) := hide (by have := L_tk.out; have := N_g2_tk.out; omega)
           replace L_tk : Hid (tk < V6.heap.size) := hide (by have := L_tk.out; have := hgrow.size; omega)
           clear N_g2_tk
           rw [show k + 1 + (n - k) = n + 1 by omega] at hown ⊢
           have F_g3 : Hid (V6.ownsRow wc.heap.size 39 3 (.slice (some ⟨g3, 0, none⟩) (n + 1) cap3) (n + 1) ((insL l k (p0, p1, s2)).flatMap tcells)) := hide (by simpa [insL] using hown)
           have L_g3 : Hid (g3 < V6.heap.size) := hide hlt
           clear HL HCC hown hgrow hg hlt F_g2 L_g2
           have HL := hide HL'.out
           have HCC := hide HC'.out
           clear HL' HC'
           refine hK _ _ ⟨later_of HL.out, ?_⟩
           simp only [Act.put, List.setIfInBounds_toArray, List.set_cons_succ, List.set_cons_zero]
           refine wpAnyS_only 16 (by kernel_rfl) (by simp; rfl) rfl rfl (fun K hK => ?_)
           go_wp2_with fail
           refine ⟨later_of HL.out, ?_⟩
           refine wpAnyS_only 18 (by kernel_rfl) (by simp; rfl) rfl rfl (fun K hK => ?_)
           have t0 := F_tk.out.2.1 0 _ rfl
           have t1 := F_tk.out.2.1 1 _ rfl
           have u0 := F_tk.out.free 0
           have u1 := F_tk.out.free 1
           go_wp2_with fail
           have HL9 : Hid (Below wc.heap.size wc ((V6.setCell ⟨tk, 0, none⟩ (.int .i64 (k0 : Int))).setCell ⟨tk, 1, none⟩ (.slice (some ⟨g3, 0, none⟩) (n + 1) cap3))) := hide ((HL.out.setCell (by exact HTK.out) _).setCell (by exact HTK.out) _)
           refine ⟨later_of HL9.out, ?_⟩
           refine wpAnyH_done (by kernel_rfl) ?_ _
           go_wp2_with fail
           go_meet
           have hne : ∀ b, (Value.slice (some ⟨g3, 0, none⟩) (n + 1) cap3).ownBlock = some b → some b ≠ some tk := fun b hb e => by simp [Value.ownBlock] at hb; injection e with e; have := N_g3_tk.out; omega
           exact ⟨tk, g3, cap3, rfl, hide ((F_tk.out.set (k := 0) (by simp) _).set (k := 1) (by simp) _), hide (own_kept (own_kept F_g3.out (grown_set (g := tk) _ rfl) hne) (grown_set (g := tk) _ rfl) hne), HL9⟩
         ·
          go_wp2_with fail
          have HL' : Hid (Below wc.heap.size wc (V3.alloc (.cells #[.int .i64 0, .slice none 0 0] 26))) := hide (below_alloc HL.out _)
          have HC' : Hid (Below w.heap.size w (V3.alloc (.cells #[.int .i64 0, .slice none 0 0] 26))) := hide (below_alloc HCC.out _)
          refine ⟨later_of HL'.out, ?_⟩
          replace F_g1 := hide (World.ownsRow.alloc F_g1.out (.cells #[.int .i64 0, .slice none 0 0] 26))
          have N_g1_tk : Hid (g1 ≠ V3.heap.size) := hide (by have := L_g1.out; omega)
          replace L_g1 : Hid (g1 < (V3.alloc (.cells #[.int .i64 0, .slice none 0 0] 26)).heap.size) := hide (by have := L_g1.out; simp; omega)
          replace F_bs := hide (F_bs.out.alloc (.cells #[.int .i64 0, .slice none 0 0] 26))
          replace L_bs : Hid (bs < (V3.alloc (.cells #[.int .i64 0, .slice none 0 0] 26)).heap.size) := hide (by have := L_bs.out; simp; omega)
          have F_tk := hide (Row.new V3 #[.int .i64 0, .slice none 0 0] 26)
          have HTK : Hid (wc.heap.size ≤ V3.heap.size) := hide HL.out.size
          have L_tk : Hid (V3.heap.size < (V3.alloc (.cells #[.int .i64 0, .slice none 0 0] 26)).heap.size) := hide (by simp)
          clear HL HCC
          have HL := hide HL'.out
          have HCC := hide HC'.out
          clear HL' HC'
          generalize (V3.alloc (.cells #[.int .i64 0, .slice none 0 0] 26)) = V4 at *
          generalize V3.heap.size = tk at *
          refine wpAnyS_only 10 (by kernel_rfl) (by simp; rfl) rfl rfl (fun K hK => ?_)
          refine wp_append_at (.tmp 65) (.tmp 67) 24 rfl wc.heap.size 39 i0 _ 3 24 Tryz.underlying24 Hi.out Hz.out.1 Hz.out.2.1 Hz.out.2.2 rfl (by decide) g1 k cap1 ((l.take k).flatMap tcells) rfl F_g1.out ⟨bs, 0, none⟩ 1 1 (tcells (p0, p1, s2)) rfl rfl (fun j u hu => by rw [Addr.add_lit, Nat.zero_add]; exact F_bs.out.2.1 j u hu) (fun u hu => tcells_one [(p0, p1, s2)] u (by simpa using hu)) (by unfold maxLen; omega) (by omega) HL.out.size (fun g2 cap2 V5 hown hgrow hg hlt => ?_)
          have HL' := hide (HL.out.grown hgrow HL.out.size (fun k hk => by injection hk with hk; have := (F_g1.out.lt g1 rfl).1; omega))
          have HC' := hide (HCC.out.grown hgrow HCC.out.size (fun k hk => by injection hk with hk; have := (F_g1.out.lt g1 rfl).1; have := HBw.out.size; omega))
          replace F_tk := hide (F_tk.out.grown hgrow (fun e => by injection e with e; have := N_g1_tk.out; omega))
          have N_g2_tk : Hid (g2 ≠ tk) := hide (by have := L_tk.out; have := N_g1_tk.out; omega)
          replace L_tk : Hid (tk < V5.heap.size) := hide (by have := L_tk.out; have := hgrow.size; omega)
          clear N_g1_tk
          have F_g2 : Hid (V5.ownsRow wc.heap.size 39 3 (.slice (some ⟨g2, 0, none⟩) (k + 1) cap2) (k + 1) ((l.take k).flatMap tcells ++ tcells (p0, p1, s2))) := hide (by simpa using hown)
          have L_g2 : Hid (g2 < V5.heap.size) := hide hlt
          clear HL HCC hown hgrow hg hlt F_g1 L_g1 N_g1_bs F_bs L_bs
          have HL := hide HL'.out
          have HCC := hide HC'.out
          clear HL' HC'
          refine hK _ _ ⟨later_of HL.out, ?_⟩
          simp only [Act.put, List.setIfInBounds_toArray, List.set_cons_succ, List.set_cons_zero]
          refine wpAnyS_only 15 (by kernel_rfl) (by simp; rfl) rfl rfl (fun K hK => ?_)
          refine wp_append_at (.tmp 68) (.tmp 72) 24 rfl wc.heap.size 39 i0 _ 3 24 Tryz.underlying24 Hi.out Hz.out.1 Hz.out.2.1 Hz.out.2.2 rfl (by decide) g2 (k + 1) cap2 ((l.take k).flatMap tcells ++ tcells (p0, p1, s2)) rfl F_g2.out ad (n - k) (c - k) ((l.drop k).flatMap tcells) rfl HDL.out (HDR.out V5 HCC.out) (tcells_one _) (by unfold maxLen; omega) (by omega) HL.out.size (fun g3 cap3 V6 hown hgrow hg hlt => ?_)
          have HL' := hide (HL.out.grown hgrow HL.out.size (fun k hk => by injection hk with hk; have := (F_g2.out.lt g2 rfl).1; omega))
          have HC' := hide (HCC.out.grown hgrow HCC.out.size (fun k hk => by injection hk with hk; have := (F_g2.out.lt g2 rfl).1; have := HBw.out.size; omega))
          replace F_tk := hide (F_tk.out.grown hgrow (fun e => by injection e with e; have := N_g2_tk.out; omega))
          have N_g3_tk : Hid (g3 ≠ tk) := hide (by have := L_tk.out; have := N_g2_tk.out; omega)
          replace L_tk : Hid (tk < V6.heap.size) := hide (by have := L_tk.out; have := hgrow.size; omega)
          clear N_g2_tk
          rw [show k + 1 + (n - k) = n + 1 by omega] at hown ⊢
          have F_g3 : Hid (V6.ownsRow wc.heap.size 39 3 (.slice (some ⟨g3, 0, none⟩) (n + 1) cap3) (n + 1) ((insL l k (p0, p1, s2)).flatMap tcells)) := hide (by simpa [insL] using hown)
          have L_g3 : Hid (g3 < V6.heap.size) := hide hlt
          clear HL HCC hown hgrow hg hlt F_g2 L_g2
          have HL := hide HL'.out
          have HCC := hide HC'.out
          clear HL' HC'
          refine hK _ _ ⟨later_of HL.out, ?_⟩
          simp only [Act.put, List.setIfInBounds_toArray, List.set_cons_succ, List.set_cons_zero]
          refine wpAnyS_only 16 (by kernel_rfl) (by simp; rfl) rfl rfl (fun K hK => ?_)
          go_wp2_with fail
          refine ⟨later_of HL.out, ?_⟩
          refine wpAnyS_only 18 (by kernel_rfl) (by simp; rfl) rfl rfl (fun K hK => ?_)
          have t0 := F_tk.out.2.1 0 _ rfl
          have t1 := F_tk.out.2.1 1 _ rfl
          have u0 := F_tk.out.free 0
          have u1 := F_tk.out.free 1
          go_wp2_with fail
          have HL9 : Hid (Below wc.heap.size wc ((V6.setCell ⟨tk, 0, none⟩ (.int .i64 (k0 : Int))).setCell ⟨tk, 1, none⟩ (.slice (some ⟨g3, 0, none⟩) (n + 1) cap3))) := hide ((HL.out.setCell (by exact HTK.out) _).setCell (by exact HTK.out) _)
          refine ⟨later_of HL9.out, ?_⟩
          refine wpAnyH_done (by kernel_rfl) ?_ _
          go_wp2_with fail
          go_meet
          have hne : ∀ b, (Value.slice (some ⟨g3, 0, none⟩) (n + 1) cap3).ownBlock = some b → some b ≠ some tk := fun b hb e => by simp [Value.ownBlock] at hb; injection e with e; have := N_g3_tk.out; omega
          exact ⟨tk, g3, cap3, rfl, hide ((F_tk.out.set (k := 0) (by simp) _).set (k := 1) (by simp) _), hide (own_kept (own_kept F_g3.out (grown_set (g := tk) _ rfl) hne) (grown_set (g := tk) _ rfl) hne), HL9⟩
        ·
         go_wp2_with fail
         have HL' : Hid (Below wc.heap.size wc (V2.alloc (.cells #[.int .i64 0, .slice none 0 0] 26))) := hide (below_alloc HL.out _)
         have HC' : Hid (Below w.heap.size w (V2.alloc (.cells #[.int .i64 0, .slice none 0 0] 26))) := hide (below_alloc HCC.out _)
         refine ⟨later_of HL'.out, ?_⟩
         replace F_b0 := hide (World.ownsRow.alloc F_b0.out (.cells #[.int .i64 0, .slice none 0 0] 26))
         have N_b0_tk : Hid (b0 ≠ V2.heap.size) := hide (by have := L_b0.out; omega)
         replace L_b0 : Hid (b0 < (V2.alloc (.cells #[.int .i64 0, .slice none 0 0] 26)).heap.size) := hide (by have := L_b0.out; simp; omega)
         replace F_bs := hide (F_bs.out.alloc (.cells #[.int .i64 0, .slice none 0 0] 26))
         replace L_bs : Hid (bs < (V2.alloc (.cells #[.int .i64 0, .slice none 0 0] 26)).heap.size) := hide (by have := L_bs.out; simp; omega)
         have F_tk := hide (Row.new V2 #[.int .i64 0, .slice none 0 0] 26)
         have HTK : Hid (wc.heap.size ≤ V2.heap.size) := hide HL.out.size
         have L_tk : Hid (V2.heap.size < (V2.alloc (.cells #[.int .i64 0, .slice none 0 0] 26)).heap.size) := hide (by simp)
         clear HL HCC
         have HL := hide HL'.out
         have HCC := hide HC'.out
         clear HL' HC'
         generalize (V2.alloc (.cells #[.int .i64 0, .slice none 0 0] 26)) = V3 at *
         generalize V2.heap.size = tk at *
         refine wpAnyS_only 7 (by kernel_rfl) (by simp; rfl) rfl rfl (fun K hK => ?_)
         refine wp_append_at (.tmp 60) (.tmp 64) 24 rfl wc.heap.size 39 i0 _ 3 24 Tryz.underlying24 Hi.out Hz.out.1 Hz.out.2.1 Hz.out.2.2 rfl (by decide) b0 0 0 [] rfl F_b0.out ⟨b, off, none⟩ k c ((l.take k).flatMap tcells) rfl HTL.out (HTR.out V3 HCC.out) (tcells_one _) (by unfold maxLen; omega) (by omega) HL.out.size (fun g1 cap1 V4 hown hgrow hg hlt => ?_)
         rw [Nat.zero_add] at hown ⊢
         have HL' := hide (HL.out.grown hgrow HL.out.size (fun k hk => by injection hk with hk; have := (F_b0.out.lt b0 rfl).1; omega))
         have HC' := hide (HCC.out.grown hgrow HCC.out.size (fun k hk => by injection hk with hk; have := (F_b0.out.lt b0 rfl).1; have := HBw.out.size; omega))
         replace F_bs := hide (F_bs.out.grown hgrow (fun e => by injection e with e; have := N_b0_bs.out; omega))
         have N_g1_bs : Hid (g1 ≠ bs) := hide (by have := L_bs.out; have := N_b0_bs.out; omega)
         replace L_bs : Hid (bs < V4.heap.size) := hide (by have := L_bs.out; have := hgrow.size; omega)
         clear N_b0_bs
         replace F_tk := hide (F_tk.out.grown hgrow (fun e => by injection e with e; have := N_b0_tk.out; omega))
         have N_g1_tk : Hid (g1 ≠ tk) := hide (by have := L_tk.out; have := N_b0_tk.out; omega)
         replace L_tk : Hid (tk < V4.heap.size) := hide (by have := L_tk.out; have := hgrow.size; omega)
         clear N_b0_tk
         have F_g1 : Hid (V4.ownsRow wc.heap.size 39 3 (.slice (some ⟨g1, 0, none⟩) k cap1) k ((l.take k).flatMap tcells)) := hide (by simpa using hown)
         have L_g1 : Hid (g1 < V4.heap.size) := hide hlt
         clear HL HCC hown hgrow hg hlt F_b0 L_b0
         have HL := hide HL'.out
         have HCC := hide HC'.out
         clear HL' HC'
         refine hK _ _ ⟨later_of HL.out, ?_⟩
         simp only [Act.put, List.setIfInBounds_toArray, List.set_cons_succ, List.set_cons_zero]
         refine wpAnyS_only 10 (by kernel_rfl) (by simp; rfl) rfl rfl (fun K hK => ?_)
         refine wp_append_at (.tmp 65) (.tmp 67) 24 rfl wc.heap.size 39 i0 _ 3 24 Tryz.underlying24 Hi.out Hz.out.1 Hz.out.2.1 Hz.out.2.2 rfl (by decide) g1 k cap1 ((l.take k).flatMap tcells) rfl F_g1.out ⟨bs, 0, none⟩ 1 1 (tcells (p0, p1, s2)) rfl rfl (fun j u hu => by rw [Addr.add_lit, Nat.zero_add]; exact F_bs.out.2.1 j u hu) (fun u hu => tcells_one [(p0, p1, s2)] u (by simpa using hu)) (by unfold maxLen; omega) (by omega) HL.out.size (fun g2 cap2 V5 hown hgrow hg hlt => ?_)
         have HL' := hide (HL.out.grown hgrow HL.out.size (fun k hk => by injection hk with hk; have := (F_g1.out.lt g1 rfl).1; omega))
         have HC' := hide (HCC.out.grown hgrow HCC.out.size (fun k hk => by injection hk with hk; have := (F_g1.out.lt g1 rfl).1; have := HBw.out.size; omega))
         replace F_tk := hide (F_tk.out.grown hgrow (fun e => by injection e with e; have := N_g1_tk.out; omega))
         have N_g2_tk : Hid (g2 ≠ tk) := hide (by have := L_tk.out; have := N_g1_tk.out; omega)
         replace L_tk : Hid (tk < V5.heap.size) := hide (by have := L_tk.out; have := hgrow.size; omega)
         clear N_g1_tk
         have F_g2 : Hid (V5.ownsRow wc.heap.size 39 3 (.slice (some ⟨g2, 0, none⟩) (k + 1) cap2) (k + 1) ((l.take k).flatMap tcells ++ tcells (p0, p1, s2))) := hide (by simpa using hown)
         have L_g2 : Hid (g2 < V5.heap.size) := hide hlt
         clear HL HCC hown hgrow hg hlt F_g1 L_g1 N_g1_bs F_bs L_bs
         have HL := hide HL'.out
         have HCC := hide HC'.out
         clear HL' HC'
         refine hK _ _ ⟨later_of HL.out, ?_⟩
         simp only [Act.put, List.setIfInBounds_toArray, List.set_cons_succ, List.set_cons_zero]
         refine wpAnyS_only 15 (by kernel_rfl) (by simp; rfl) rfl rfl (fun K hK => ?_)
         refine wp_append_at (.tmp 68) (.tmp 72) 24 rfl wc.heap.size 39 i0 _ 3 24 Tryz.underlying24 Hi.out Hz.out.1 Hz.out.2.1 Hz.out.2.2 rfl (by decide) g2 (k + 1) cap2 ((l.take k).flatMap tcells ++ tcells (p0, p1, s2)) rfl F_g2.out ad (n - k) (c - k) ((l.drop k).flatMap tcells) rfl HDL.out (HDR.out V5 HCC.out) (tcells_one _) (by unfold maxLen; omega) (by omega) HL.out.size (fun g3 cap3 V6 hown hgrow hg hlt => ?_)
         have HL' := hide (HL.out.grown hgrow HL.out.size (fun k hk => by injection hk with hk; have := (F_g2.out.lt g2 rfl).1; omega))
         have HC' := hide (HCC.out.grown hgrow HCC.out.size (fun k hk => by injection hk with hk; have := (F_g2.out.lt g2 rfl).1; have := HBw.out.size; omega))
         replace F_tk := hide (F_tk.out.grown hgrow (fun e => by injection e with e; have := N_g2_tk.out; omega))
         have N_g3_tk : Hid (g3 ≠ tk) := hide (by have := L_tk.out; have := N_g2_tk.out; omega)
         replace L_tk : Hid (tk < V6.heap.size) := hide (by have := L_tk.out; have := hgrow.size; omega)
         clear N_g2_tk
         rw [show k + 1 + (n - k) = n + 1 by omega] at hown ⊢
         have F_g3 : Hid (V6.ownsRow wc.heap.size 39 3 (.slice (some ⟨g3, 0, none⟩) (n + 1) cap3) (n + 1) ((insL l k (p0, p1, s2)).flatMap tcells)) := hide (by simpa [insL] using hown)
         have L_g3 : Hid (g3 < V6.heap.size) := hide hlt
         clear HL HCC hown hgrow hg hlt F_g2 L_g2
         have HL := hide HL'.out
         have HCC := hide HC'.out
         clear HL' HC'
         refine hK _ _ ⟨later_of HL.out, ?_⟩
         simp only [Act.put, List.setIfInBounds_toArray, List.set_cons_succ, List.set_cons_zero]
         refine wpAnyS_only 16 (by kernel_rfl) (by simp; rfl) rfl rfl (fun K hK => ?_)
         go_wp2_with fail
         refine ⟨later_of HL.out, ?_⟩
         refine wpAnyS_only 18 (by kernel_rfl) (by simp; rfl) rfl rfl (fun K hK => ?_)
         have t0 := F_tk.out.2.1 0 _ rfl
         have t1 := F_tk.out.2.1 1 _ rfl
         have u0 := F_tk.out.free 0
         have u1 := F_tk.out.free 1
         go_wp2_with fail
         have HL9 : Hid (Below wc.heap.size wc ((V6.setCell ⟨tk, 0, none⟩ (.int .i64 (k0 : Int))).setCell ⟨tk, 1, none⟩ (.slice (some ⟨g3, 0, none⟩) (n + 1) cap3))) := hide ((HL.out.setCell (by exact HTK.out) _).setCell (by exact HTK.out) _)
         refine ⟨later_of HL9.out, ?_⟩
         refine wpAnyH_done (by kernel_rfl) ?_ _
         go_wp2_with fail
         go_meet
         have hne : ∀ b, (Value.slice (some ⟨g3, 0, none⟩) (n + 1) cap3).ownBlock = some b → some b ≠ some tk := fun b hb e => by simp [Value.ownBlock] at hb; injection e with e; have := N_g3_tk.out; omega
         exact ⟨tk, g3, cap3, rfl, hide ((F_tk.out.set (k := 0) (by simp) _).set (k := 1) (by simp) _), hide (own_kept (own_kept F_g3.out (grown_set (g := tk) _ rfl) hne) (grown_set (g := tk) _ rfl) hne), HL9⟩
       ·
        go_wp2_with fail
        have HL' : Hid (Below wc.heap.size wc (V1.alloc (.cells #[.int .i64 0, .slice none 0 0] 26))) := hide (below_alloc HL.out _)
        have HC' : Hid (Below w.heap.size w (V1.alloc (.cells #[.int .i64 0, .slice none 0 0] 26))) := hide (below_alloc HCC.out _)
        refine ⟨later_of HL'.out, ?_⟩
        replace F_b0 := hide (World.ownsRow.alloc F_b0.out (.cells #[.int .i64 0, .slice none 0 0] 26))
        have N_b0_tk : Hid (b0 ≠ V1.heap.size) := hide (by have := L_b0.out; omega)
        replace L_b0 : Hid (b0 < (V1.alloc (.cells #[.int .i64 0, .slice none 0 0] 26)).heap.size) := hide (by have := L_b0.out; simp; omega)
        have F_tk := hide (Row.new V1 #[.int .i64 0, .slice none 0 0] 26)
        have HTK : Hid (wc.heap.size ≤ V1.heap.size) := hide HL.out.size
        have L_tk : Hid (V1.heap.size < (V1.alloc (.cells #[.int .i64 0, .slice none 0 0] 26)).heap.size) := hide (by simp)
        clear HL HCC
        have HL := hide HL'.out
        have HCC := hide HC'.out
        clear HL' HC'
        generalize (V1.alloc (.cells #[.int .i64 0, .slice none 0 0] 26)) = V2 at *
        generalize V1.heap.size = tk at *
        refine wpAnyS_two 7 9 (by kernel_rfl) (by simp; rfl) (by simp; rfl) rfl rfl rfl rfl (fun K hK => ?_) (fun K hK => ?_)
        ·
         refine wp_append_at (.tmp 60) (.tmp 64) 24 rfl wc.heap.size 39 i0 _ 3 24 Tryz.underlying24 Hi.out Hz.out.1 Hz.out.2.1 Hz.out.2.2 rfl (by decide) b0 0 0 [] rfl F_b0.out ⟨b, off, none⟩ k c ((l.take k).flatMap tcells) rfl HTL.out (HTR.out V2 HCC.out) (tcells_one _) (by unfold maxLen; omega) (by omega) HL.out.size (fun g1 cap1 V3 hown hgrow hg hlt => ?_)
         rw [Nat.zero_add] at hown ⊢
         have HL' := hide (HL.out.grown hgrow HL.out.size (fun k hk => by injection hk with hk; have := (F_b0.out.lt b0 rfl).1; omega))
         have HC' := hide (HCC.out.grown hgrow HCC.out.size (fun k hk => by injection hk with hk; have := (F_b0.out.lt b0 rfl).1; have := HBw.out.size; omega))
         replace F_tk := hide (F_tk.out.grown hgrow (fun e => by injection e with e; have := N_b0_tk.out; omega))
         have N_g1_tk : Hid (g1 ≠ tk) := hide (by have := L_tk.out; have := N_b0_tk.out; omega)
         replace L_tk : Hid (tk < V3.heap.size) := hide (by have := L_tk.out; have := hgrow.size; omega)
         clear N_b0_tk
         have F_g1 : Hid (V3.ownsRow wc.heap.size 39 3 (.slice (some ⟨g1, 0, none⟩) k cap1) k ((l.take k).flatMap tcells)) := hide (by simpa using hown)
         have L_g1 : Hid (g1 < V3.heap.size) := hide hlt
         clear HL HCC hown hgrow hg hlt F_b0 L_b0
         have HL := hide HL'.out
         have HCC := hide HC'.out
         clear HL' HC'
         refine hK _ _ ⟨later_of HL.out, ?_⟩
         simp only [Act.put, List.setIfInBounds_toArray, List.set_cons_succ, List.set_cons_zero]
         refine wpAnyS_only 9 (by kernel_rfl) (by simp; rfl) rfl rfl (fun K hK => ?_)
         go_wp2_with fail
         have HL' : Hid (Below wc.heap.size wc (V3.alloc (.cells #[.int .i64 p0, .int .i64 p1, .int .i64 s2] 39))) := hide (below_alloc HL.out _)
         have HC' : Hid (Below w.heap.size w (V3.alloc (.cells #[.int .i64 p0, .int .i64 p1, .int .i64 s2] 39))) := hide (below_alloc HCC.out _)
         refine ⟨later_of HL'.out, ?_⟩
         replace F_g1 := hide (World.ownsRow.alloc F_g1.out (.cells #[.int .i64 p0, .int .i64 p1, .int .i64 s2] 39))
         have N_g1_bs : Hid (g1 ≠ V3.heap.size) := hide (by have := L_g1.out; omega)
         replace L_g1 : Hid (g1 < (V3.alloc (.cells #[.int .i64 p0, .int .i64 p1, .int .i64 s2] 39)).heap.size) := hide (by have := L_g1.out; simp; omega)
         replace F_tk := hide (F_tk.out.alloc (.cells #[.int .i64 p0, .int .i64 p1, .int .i64 s2] 39))
         replace L_tk : Hid (tk < (V3.alloc (.cells #[.int .i64 p0, .int .i64 p1, .int .i64 s2] 39)).heap.size) := hide (by have := L_tk.out; simp; omega)
         have F_bs := hide (Row.new V3 #[.int .i64 p0, .int .i64 p1, .int .i64 s2] 39)
         have L_bs : Hid (V3.heap.size < (V3.alloc (.cells #[.int .i64 p0, .int .i64 p1, .int .i64 s2] 39)).heap.size) := hide (by simp)
         clear HL HCC
         have HL := hide HL'.out
         have HCC := hide HC'.out
         clear HL' HC'
         generalize (V3.alloc (.cells #[.int .i64 p0, .int .i64 p1, .int .i64 s2] 39)) = V4 at *
         generalize V3.heap.size = bs at *
         refine wpAnyS_only 10 (by kernel_rfl) (by simp; rfl) rfl rfl (fun K hK => ?_)
         refine wp_append_at (.tmp 65) (.tmp 67) 24 rfl wc.heap.size 39 i0 _ 3 24 Tryz.underlying24 Hi.out Hz.out.1 Hz.out.2.1 Hz.out.2.2 rfl (by decide) g1 k cap1 ((l.take k).flatMap tcells) rfl F_g1.out ⟨bs, 0, none⟩ 1 1 (tcells (p0, p1, s2)) rfl rfl (fun j u hu => by rw [Addr.add_lit, Nat.zero_add]; exact F_bs.out.2.1 j u hu) (fun u hu => tcells_one [(p0, p1, s2)] u (by simpa using hu)) (by unfold maxLen; omega) (by omega) HL.out.size (fun g2 cap2 V5 hown hgrow hg hlt => ?_)
         have HL' := hide (HL.out.grown hgrow HL.out.size (fun k hk => by injection hk with hk; have := (F_g1.out.lt g1 rfl).1; omega))
         have HC' := hide (HCC.out.grown hgrow HCC.out.size (fun k hk => by injection hk with hk; have := (F_g1.out.lt g1 rfl).1; have := HBw.out.size; omega))
         replace F_tk := hide (F_tk.out.grown hgrow (fun e => by injection e with e; have := N_g1_tk.out; omega))
         have N_g2_tk : Hid (g2 ≠ tk) := hide (by have := L_tk.out; have := N_g1_tk.out; omega)
         replace L_tk : Hid (tk < V5.heap.size) := hide (by have := L_tk.out; have := hgrow.size; omega)
         clear N_g1_tk
         have F_g2 : Hid (V5.ownsRow wc.heap.size 39 3 (.slice (some ⟨g2, 0, none⟩) (k + 1) cap2) (k + 1) ((l.take k).flatMap tcells ++ tcells (p0, p1, s2))) := hide (by simpa using hown)
         have L_g2 : Hid (g2 < V5.heap.size) := hide hlt
         clear HL HCC hown hgrow hg hlt F_g1 L_g1 N_g1_bs F_bs L_bs
         have HL := hide HL'.out
         have HCC := hide HC'.out
         clear HL' HC'
         refine hK _ _ ⟨later_of HL.out, ?_⟩
         simp only [Act.put, List.setIfInBounds_toArray, List.set_cons_succ, List.set_cons_zero]
         refine wpAnyS_only 15 (by kernel_rfl) (by simp; rfl) rfl rfl (fun K hK => ?_)
         refine wp_append_at (.tmp 68) (.tmp 72) 24 rfl wc.heap.size 39 i0 _ 3 24 Tryz.underlying24 Hi.out Hz.out.1 Hz.out.2.1 Hz.out.2.2 rfl (by decide) g2 (k + 1) cap2 ((l.take k).flatMap tcells ++ tcells (p0, p1, s2)) rfl F_g2.out ad (n - k) (c - k) ((l.drop k).flatMap tcells) rfl HDL.out (HDR.out V5 HCC.out) (tcells_one _) (by unfold maxLen; omega) (by omega) HL.out.size (fun g3 cap3 V6 hown hgrow hg hlt => ?_)
         have HL' := hide (HL.out.grown hgrow HL.out.size (fun k hk => by injection hk with hk; have := (F_g2.out.lt g2 rfl).1; omega))
         have HC' := hide (HCC.out.grown hgrow HCC.out.size (fun k hk => by injection hk with hk; have := (F_g2.out.lt g2 rfl).1; have := HBw.out.size; omega))
         replace F_tk := hide (F_tk.out.grown hgrow (fun e => by injection e with e; have := N_g2_tk.out; omega))
         have N_g3_tk : Hid (g3 ≠ tk) := hide (by have := L_tk.out; have := N_g2_tk.out; omega)
         replace L_tk : Hid (tk < V6.heap.size) := hide (by have := L_tk.out; have := hgrow.size; omega)
         clear N_g2_tk
         rw [show k + 1 + (n - k) = n + 1 by omega] at hown ⊢
         have F_g3 : Hid (V6.ownsRow wc.heap.size 39 3 (.slice (some ⟨g3, 0, none⟩) (n + 1) cap3) (n + 1) ((insL l k (p0, p1, s2)).flatMap tcells)) := hide (by simpa [insL] using hown)
         have L_g3 : Hid (g3 < V6.heap.size) := hide hlt
         clear HL HCC hown hgrow hg hlt F_g2 L_g2
         have HL := hide HL'.out
         have HCC := hide HC'.out
         clear HL' HC'
         refine hK _ _ ⟨later_of HL.out, ?_⟩
         simp only [Act.put, List.setIfInBounds_toArray, List.set_cons_succ, List.set_cons_zero]
         refine wpAnyS_only 16 (by kernel_rfl) (by simp; rfl) rfl rfl (fun K hK => ?_)
         go_wp2_with fail
         refine ⟨later_of HL.out, ?_⟩
         refine wpAnyS_only 18 (by kernel_rfl) (by simp; rfl) rfl rfl (fun K hK => ?_)
         have t0 := F_tk.out.2.1 0 _ rfl
         have t1 := F_tk.out.2.1 1 _ rfl
         have u0 := F_tk.out.free 0
         have u1 := F_tk.out.free 1
         go_wp2_with fail
         have HL9 : Hid (Below wc.heap.size wc ((V6.setCell ⟨tk, 0, none⟩ (.int .i64 (k0 : Int))).setCell ⟨tk, 1, none⟩ (.slice (some ⟨g3, 0, none⟩) (n + 1) cap3))) := hide ((HL.out.setCell (by exact HTK.out) _).setCell (by exact HTK.out) _)
         refine ⟨later_of HL9.out, ?_⟩
         refine wpAnyH_done (by kernel_rfl) ?_ _
         go_wp2_with fail
         go_meet
         have hne : ∀ b, (Value.slice (some ⟨g3, 0, none⟩) (n + 1) cap3).ownBlock = some b → some b ≠ some tk := fun b hb e => by simp [Value.ownBlock] at hb; injection e with e; have := N_g3_tk.out; omega
         exact ⟨tk, g3, cap3, rfl, hide ((F_tk.out.set (k := 0) (by simp) _).set (k := 1) (by simp) _), hide (own_kept (own_kept F_g3.out (grown_set (g := tk) _ rfl) hne) (grown_set (g := tk) _ rfl) hne), HL9⟩
        ·
         go_wp2_with fail
         have HL' : Hid (Below wc.heap.size wc (V2.alloc (.cells #[.int .i64 p0, .int .i64 p1, .int .i64 s2] 39))) := hide (below_alloc HL.out _)
         have HC' : Hid (Below w.heap.size w (V2.alloc (.cells #[.int .i64 p0, .int .i64 p1, .int .i64 s2] 39))) := hide (below_alloc HCC.out _)
         refine ⟨later_of HL'.out, ?_⟩
         replace F_b0 := hide (World.ownsRow.alloc F_b0.out (.cells #[.int .i64 p0, .int .i64 p1, .int .i64 s2] 39))
         have N_b0_bs : Hid (b0 ≠ V2.heap.size) := hide (by have := L_b0.out; omega)
         replace L_b0 : Hid (b0 < (V2.alloc (.cells #[.int .i64 p0, .int .i64 p1, .int .i64 s2] 39)).heap.size) := hide (by have := L_b0.out; simp; omega)
         replace F_tk := hide (F_tk.out.alloc (.cells #[.int .i64 p0, .int .i64 p1, .int .i64 s2] 39))
         replace L_tk : Hid (tk < (V2.alloc (.cells #[.int .i64 p0, .int .i64 p1, .int .i64 s2] 39)).heap.size) := hide (by have := L_tk.out; simp; omega)
         have F_bs := hide (Row.new V2 #[.int .i64 p0, .int .i64 p1, .int .i64 s2] 39)
         have L_bs : Hid (V2.heap.size < (V2.alloc (.cells #[.int .i64 p0, .int .i64 p1, .int .i64 s2] 39)).heap.size) := hide (by simp)
         clear HL HCC
         have HL := hide HL'.out
         have HCC := hide HC'.out
         clear HL' HC'
         generalize (V2.alloc (.cells #[.int .i64 p0, .int .i64 p1, .int .i64 s2] 39)) = V3 at *
         generalize V2.heap.size = bs at *
         refine wpAnyS_only 7 (by kernel_rfl) (by simp; rfl) rfl rfl (fun K hK => ?_)
         refine wp_append_at (.tmp 60) (.tmp 64) 24 rfl wc.heap.size 39 i0 _ 3 24 Tryz.underlying24 Hi.out Hz.out.1 Hz.out.2.1 Hz.out.2.2 rfl (by decide) b0 0 0 [] rfl F_b0.out ⟨b, off, none⟩ k c ((l.take k).flatMap tcells) rfl HTL.out (HTR.out V3 HCC.out) (tcells_one _) (by unfold maxLen; omega) (by omega) HL.out.size (fun g1 cap1 V4 hown hgrow hg hlt => ?_)
         rw [Nat.zero_add] at hown ⊢
         have HL' := hide (HL.out.grown hgrow HL.out.size (fun k hk => by injection hk with hk; have := (F_b0.out.lt b0 rfl).1; omega))
         have HC' := hide (HCC.out.grown hgrow HCC.out.size (fun k hk => by injection hk with hk; have := (F_b0.out.lt b0 rfl).1; have := HBw.out.size; omega))
         replace F_bs := hide (F_bs.out.grown hgrow (fun e => by injection e with e; have := N_b0_bs.out; omega))
         have N_g1_bs : Hid (g1 ≠ bs) := hide (by have := L_bs.out; have := N_b0_bs.out; omega)
         replace L_bs : Hid (bs < V4.heap.size) := hide (by have := L_bs.out; have := hgrow.size; omega)
         clear N_b0_bs
         replace F_tk := hide (F_tk.out.grown hgrow (fun e => by injection e with e; have := N_b0_tk.out; omega))
         have N_g1_tk : Hid (g1 ≠ tk) := hide (by have := L_tk.out; have := N_b0_tk.out; omega)
         replace L_tk : Hid (tk < V4.heap.size) := hide (by have := L_tk.out; have := hgrow.size; omega)
         clear N_b0_tk
         have F_g1 : Hid (V4.ownsRow wc.heap.size 39 3 (.slice (some ⟨g1, 0, none⟩) k cap1) k ((l.take k).flatMap tcells)) := hide (by simpa using hown)
         have L_g1 : Hid (g1 < V4.heap.size) := hide hlt
         clear HL HCC hown hgrow hg hlt F_b0 L_b0
         have HL := hide HL'.out
         have HCC := hide HC'.out
         clear HL' HC'
         refine hK _ _ ⟨later_of HL.out, ?_⟩
         simp only [Act.put, List.setIfInBounds_toArray, List.set_cons_succ, List.set_cons_zero]
         refine wpAnyS_only 10 (by kernel_rfl) (by simp; rfl) rfl rfl (fun K hK => ?_)
         refine wp_append_at (.tmp 65) (.tmp 67) 24 rfl wc.heap.size 39 i0 _ 3 24 Tryz.underlying24 Hi.out Hz.out.1 Hz.out.2.1 Hz.out.2.2 rfl (by decide) g1 k cap1 ((l.take k).flatMap tcells) rfl F_g1.out ⟨bs, 0, none⟩ 1 1 (tcells (p0, p1, s2)) rfl rfl (fun j u hu => by rw [Addr.add_lit, Nat.zero_add]; exact F_bs.out.2.1 j u hu) (fun u hu => tcells_one [(p0, p1, s2)] u (by simpa using hu)) (by unfold maxLen; omega) (by omega) HL.out.size (fun g2 cap2 V5 hown hgrow hg hlt => ?_)
         have HL' := hide (HL.out.grown hgrow HL.out.size (fun k hk => by injection hk with hk; have := (F_g1.out.lt g1 rfl).1; omega))
         have HC' := hide (HCC.out.grown hgrow HCC.out.size (fun k hk => by injection hk with hk; have := (F_g1.out.lt g1 rfl).1; have := HBw.out.size; omega))
         replace F_tk := hide (F_tk.out.grown hgrow (fun e => by injection e with e; have := N_g1_tk.out; omega))
         have N_g2_tk : Hid (g2 ≠ tk) := hide (by have := L_tk.out; have := N_g1_tk.out; omega)
         replace L_tk : Hid (tk < V5.heap.size) := hide (by have := L_tk.out; have := hgrow.size; omega)
         clear N_g1_tk
         have F_g2 : Hid (V5.ownsRow wc.heap.size 39 3 (.slice (some ⟨g2, 0, none⟩) (k + 1) cap2) (k + 1) ((l.take k).flatMap tcells ++ tcells (p0, p1, s2))) := hide (by simpa using hown)
         have L_g2 : Hid (g2 < V5.heap.size) := hide hlt
         clear HL HCC hown hgrow hg hlt F_g1 L_g1 N_g1_bs F_bs L_bs
         have HL := hide HL'.out
         have HCC := hide HC'.out
         clear HL' HC'
         refine hK _ _ ⟨later_of HL.out, ?_⟩
         simp only [Act.put, List.setIfInBounds_toArray, List.set_cons_succ, List.set_cons_zero]
         refine wpAnyS_only 15 (by kernel_rfl) (by simp; rfl) rfl rfl (fun K hK => ?_)
         refine wp_append_at (.tmp 68) (.tmp 72) 24 rfl wc.heap.size 39 i0 _ 3 24 Tryz.underlying24 Hi.out Hz.out.1 Hz.out.2.1 Hz.out.2.2 rfl (by decide) g2 (k + 1) cap2 ((l.take k).flatMap tcells ++ tcells (p0, p1, s2)) rfl F_g2.out ad (n - k) (c - k) ((l.drop k).flatMap tcells) rfl HDL.out (HDR.out V5 HCC.out) (tcells_one _) (by unfold maxLen; omega) (by omega) HL.out.size (fun g3 cap3 V6 hown hgrow hg hlt => ?_)
         have HL' := hide (HL.out.grown hgrow HL.out.size (fun k hk => by injection hk with hk; have := (F_g2.out.lt g2 rfl).1; omega))
         have HC' := hide (HCC.out.grown hgrow HCC.out.size (fun k hk => by injection hk with hk; have := (F_g2.out.lt g2 rfl).1; have := HBw.out.size; omega))
         replace F_tk := hide (F_tk.out.grown hgrow (fun e => by injection e with e; have := N_g2_tk.out; omega))
         have N_g3_tk : Hid (g3 ≠ tk) := hide (by have := L_tk.out; have := N_g2_tk.out; omega)
         replace L_tk : Hid (tk < V6.heap.size) := hide (by have := L_tk.out; have := hgrow.size; omega)
         clear N_g2_tk
         rw [show k + 1 + (n - k) = n + 1 by omega] at hown ⊢
         have F_g3 : Hid (V6.ownsRow wc.heap.size 39 3 (.slice (some ⟨g3, 0, none⟩) (n + 1) cap3) (n + 1) ((insL l k (p0, p1, s2)).flatMap tcells)) := hide (by simpa [insL] using hown)
         have L_g3 : Hid (g3 < V6.heap.size) := hide hlt
         clear HL HCC hown hgrow hg hlt F_g2 L_g2
         have HL := hide HL'.out
         have HCC := hide HC'.out
         clear HL' HC'
         refine hK _ _ ⟨later_of HL.out, ?_⟩
         simp only [Act.put, List.setIfInBounds_toArray, List.set_cons_succ, List.set_cons_zero]
         refine wpAnyS_only 16 (by kernel_rfl) (by simp; rfl) rfl rfl (fun K hK => ?_)
         go_wp2_with fail
         refine ⟨later_of HL.out, ?_⟩
         refine wpAnyS_only 18 (by kernel_rfl) (by simp; rfl) rfl rfl (fun K hK => ?_)
         have t0 := F_tk.out.2.1 0 _ rfl
         have t1 := F_tk.out.2.1 1 _ rfl
         have u0 := F_tk.out.free 0
         have u1 := F_tk.out.free 1
         go_wp2_with fail
         have HL9 : Hid (Below wc.heap.size wc ((V6.setCell ⟨tk, 0, none⟩ (.int .i64 (k0 : Int))).setCell ⟨tk, 1, none⟩ (.slice (some ⟨g3, 0, none⟩) (n + 1) cap3))) := hide ((HL.out.setCell (by exact HTK.out) _).setCell (by exact HTK.out) _)
         refine ⟨later_of HL9.out, ?_⟩
         refine wpAnyH_done (by kernel_rfl) ?_ _
         go_wp2_with fail
         go_meet
         have hne : ∀ b, (Value.slice (some ⟨g3, 0, none⟩) (n + 1) cap3).ownBlock = some b → some b ≠ some tk := fun b hb e => by simp [Value.ownBlock] at hb; injection e with e; have := N_g3_tk.out; omega
         exact ⟨tk, g3, cap3, rfl, hide ((F_tk.out.set (k := 0) (by simp) _).set (k := 1) (by simp) _), hide (own_kept (own_kept F_g3.out (grown_set (g := tk) _ rfl) hne) (grown_set (g := tk) _ rfl) hne), HL9⟩
      ·
       go_wp2_with fail
       have HL' : Hid (Below wc.heap.size wc (V0.alloc (.cells #[.int .i64 p0, .int .i64 p1, .int .i64 s2] 39))) := hide (below_alloc HL.out _)
       have HC' : Hid (Below w.heap.size w (V0.alloc (.cells #[.int .i64 p0, .int .i64 p1, .int .i64 s2] 39))) := hide (below_alloc HCC.out _)
       refine ⟨later_of HL'.out, ?_⟩
       have F_bs := hide (Row.new V0 #[.int .i64 p0, .int .i64 p1, .int .i64 s2] 39)
       have L_bs : Hid (V0.heap.size < (V0.alloc (.cells #[.int .i64 p0, .int .i64 p1, .int .i64 s2] 39)).heap.size) := hide (by simp)
       clear HL HCC
       have HL := hide HL'.out
       have HCC := hide HC'.out
       clear HL' HC'
       generalize (V0.alloc (.cells #[.int .i64 p0, .int .i64 p1, .int .i64 s2] 39)) = V1 at *
       generalize V0.heap.size = bs at *
       refine wpAnyS_two 2 17 (by kernel_rfl) (by simp; rfl) (by simp; rfl) rfl rfl rfl rfl (fun K hK => ?_) (fun K hK => ?_)
       ·
        go_wp2_with fail
        have HL' : Hid (Below wc.heap.size wc (V1.alloc (.cells #[] 39))) := hide (below_alloc HL.out _)
        have HC' : Hid (Below w.heap.size w (V1.alloc (.cells #[] 39))) := hide (below_alloc HCC.out _)
        refine ⟨later_of HL'.out, ?_⟩
        replace F_bs := hide (F_bs.out.alloc (.cells #[] 39))
        have N_b0_bs : Hid (V1.heap.size ≠ bs) := hide (by have := L_bs.out; omega)
        replace L_bs : Hid (bs < (V1.alloc (.cells #[] 39)).heap.size) := hide (by have := L_bs.out; simp; omega)
        have F_b0 : Hid ((V1.alloc (.cells #[] 39)).ownsRow wc.heap.size 39 3 (.slice (some ⟨V1.heap.size, 0, none⟩) 0 0) 0 []) := hide (World.ownsRow_made V1 #[] 0 HL.out.size (Nat.zero_le _) rfl)
        have L_b0 : Hid (V1.heap.size < (V1.alloc (.cells #[] 39)).heap.size) := hide (by simp)
        clear HL HCC
        have HL := hide HL'.out
        have HCC := hide HC'.out
        clear HL' HC'
        generalize (V1.alloc (.cells #[] 39)) = V2 at *
        generalize V1.heap.size = b0 at *
        refine wpAnyS_two 7 17 (by kernel_rfl) (by simp; rfl) (by simp; rfl) rfl rfl rfl rfl (fun K hK => ?_) (fun K hK => ?_)
        ·
         refine wp_append_at (.tmp 60) (.tmp 64) 24 rfl wc.heap.size 39 i0 _ 3 24 Tryz.underlying24 Hi.out Hz.out.1 Hz.out.2.1 Hz.out.2.2 rfl (by decide) b0 0 0 [] rfl F_b0.out ⟨b, off, none⟩ k c ((l.take k).flatMap tcells) rfl HTL.out (HTR.out V2 HCC.out) (tcells_one _) (by unfold maxLen; omega) (by omega) HL.out.size (fun g1 cap1 V3 hown hgrow hg hlt => ?_)
         rw [Nat.zero_add] at hown ⊢
         have HL' := hide (HL.out.grown hgrow HL.out.size (fun k hk => by injection hk with hk; have := (F_b0.out.lt b0 rfl).1; omega))
         have HC' := hide (HCC.out.grown hgrow HCC.out.size (fun k hk => by injection hk with hk; have := (F_b0.out.lt b0 rfl).1; have := HBw.out.size; omega))
         replace F_bs := hide (F_bs.out.grown hgrow (fun e => by injection e with e; have := N_b0_bs.out; omega))
         have N_g1_bs : Hid (g1 ≠ bs) := hide (by have := L_bs.out; have := N_b0_bs.out; omega)
         replace L_bs : Hid (bs < V3.heap.size) := hide (by have := L_bs.out; have := hgrow.size; omega)
         clear N_b0_bs
         have F_g1 : Hid (V3.ownsRow wc.heap.size 39 3 (.slice (some ⟨g1, 0, none⟩) k cap1) k ((l.take k).flatMap tcells)) := hide (by simpa using hown)
         have L_g1 : Hid (g1 < V3.heap.size) := hide hlt
         clear HL HCC hown hgrow hg hlt F_b0 L_b0
         have HL := hide HL'.out
         have HCC := hide HC'.out
         clear HL' HC'
         refine hK _ _ ⟨later_of HL.out, ?_⟩
         simp only [Act.put, List.setIfInBounds_toArray, List.set_cons_succ, List.set_cons_zero]
         refine wpAnyS_two 10 17 (by kernel_rfl) (by simp; rfl) (by simp; rfl) rfl rfl rfl rfl (fun K hK => ?_) (fun K hK => ?_)
         ·
          refine wp_append_at (.tmp 65) (.tmp 67) 24 rfl wc.heap.size 39 i0 _ 3 24 Tryz.underlying24 Hi.out Hz.out.1 Hz.out.2.1 Hz.out.2.2 rfl (by decide) g1 k cap1 ((l.take k).flatMap tcells) rfl F_g1.out ⟨bs, 0, none⟩ 1 1 (tcells (p0, p1, s2)) rfl rfl (fun j u hu => by rw [Addr.add_lit, Nat.zero_add]; exact F_bs.out.2.1 j u hu) (fun u hu => tcells_one [(p0, p1, s2)] u (by simpa using hu)) (by unfold maxLen; omega) (by omega) HL.out.size (fun g2 cap2 V4 hown hgrow hg hlt => ?_)
          have HL' := hide (HL.out.grown hgrow HL.out.size (fun k hk => by injection hk with hk; have := (F_g1.out.lt g1 rfl).1; omega))
          have HC' := hide (HCC.out.grown hgrow HCC.out.size (fun k hk => by injection hk with hk; have := (F_g1.out.lt g1 rfl).1; have := HBw.out.size; omega))
          have F_g2 : Hid (V4.ownsRow wc.heap.size 39 3 (.slice (some ⟨g2, 0, none⟩) (k + 1) cap2) (k + 1) ((l.take k).flatMap tcells ++ tcells (p0, p1, s2))) := hide (by simpa using hown)
          have L_g2 : Hid (g2 < V4.heap.size) := hide hlt
          clear HL HCC hown hgrow hg hlt F_g1 L_g1 N_g1_bs F_bs L_bs
          have HL := hide HL'.out
          have HCC := hide HC'.out
          clear HL' HC'
          refine hK _ _ ⟨later_of HL.out, ?_⟩
          simp only [Act.put, List.setIfInBounds_toArray, List.set_cons_succ, List.set_cons_zero]
          refine wpAnyS_two 15 17 (by kernel_rfl) (by simp; rfl) (by simp; rfl) rfl rfl rfl rfl (fun K hK => ?_) (fun K hK => ?_)
          ·
           refine wp_append_at (.tmp 68) (.tmp 72) 24 rfl wc.heap.size 39 i0 _ 3 24 Tryz.underlying24 Hi.out Hz.out.1 Hz.out.2.1 Hz.out.2.2 rfl (by decide) g2 (k + 1) cap2 ((l.take k).flatMap tcells ++ tcells (p0, p1, s2)) rfl F_g2.out ad (n - k) (c - k) ((l.drop k).flatMap tcells) rfl HDL.out (HDR.out V4 HCC.out) (tcells_one _) (by unfold maxLen; omega) (by omega) HL.out.size (fun g3 cap3 V5 hown hgrow hg hlt => ?_)
           have HL' := hide (HL.out.grown hgrow HL.out.size (fun k hk => by injection hk with hk; have := (F_g2.out.lt g2 rfl).1; omega))
           have HC' := hide (HCC.out.grown hgrow HCC.out.size (fun k hk => by injection hk with hk; have := (F_g2.out.lt g2 rfl).1; have := HBw.out.size; omega))
           rw [show k + 1 + (n - k) = n + 1 by omega] at hown ⊢
           have F_g3 : Hid (V5.ownsRow wc.heap.size 39 3 (.slice (some ⟨g3, 0, none⟩) (n + 1) cap3) (n + 1) ((insL l k (p0, p1, s2)).flatMap tcells)) := hide (by simpa [insL] using hown)
           have L_g3 : Hid (g3 < V5.heap.size) := hide hlt
           clear HL HCC hown hgrow hg hlt F_g2 L_g2
           have HL := hide HL'.out
           have HCC := hide HC'.out
           clear HL' HC'
           refine hK _ _ ⟨later_of HL.out, ?_⟩
           simp only [Act.put, List.setIfInBounds_toArray, List.set_cons_succ, List.set_cons_zero]
           refine wpAnyS_two 16 17 (by kernel_rfl) (by simp; rfl) (by simp; rfl) rfl rfl rfl rfl (fun K hK => ?_) (fun K hK => ?_)
           ·
            go_wp2_with fail
            refine ⟨later_of HL.out, ?_⟩
            refine wpAnyS_only 17 (by kernel_rfl) (by simp; rfl) rfl rfl (fun K hK => ?_)
            go_wp2_with fail
            have HL' : Hid (Below wc.heap.size wc (V5.alloc (.cells #[.int .i64 0, .slice none 0 0] 26))) := hide (below_alloc HL.out _)
            have HC' : Hid (Below w.heap.size w (V5.alloc (.cells #[.int .i64 0, .slice none 0 0] 26))) := hide (below_alloc HCC.out _)
            refine ⟨later_of HL'.out, ?_⟩
            replace F_g3 := hide (World.ownsRow.alloc F_g3.out (.cells #[.int .i64 0, .slice none 0 0] 26))
            have N_g3_tk : Hid (g3 ≠ V5.heap.size) := hide (by have := L_g3.out; omega)
            replace L_g3 : Hid (g3 < (V5.alloc (.cells #[.int .i64 0, .slice none 0 0] 26)).heap.size) := hide (by have := L_g3.out; simp; omega)
            have F_tk := hide (Row.new V5 #[.int .i64 0, .slice none 0 0] 26)
            have HTK : Hid (wc.heap.size ≤ V5.heap.size) := hide HL.out.size
            have L_tk : Hid (V5.heap.size < (V5.alloc (.cells #[.int .i64 0, .slice none 0 0] 26)).heap.size) := hide (by simp)
            clear HL HCC
            have HL := hide HL'.out
            have HCC := hide HC'.out
            clear HL' HC'
            generalize (V5.alloc (.cells #[.int .i64 0, .slice none 0 0] 26)) = V6 at *
            generalize V5.heap.size = tk at *
            refine wpAnyS_only 18 (by kernel_rfl) (by simp; rfl) rfl rfl (fun K hK => ?_)
            have t0 := F_tk.out.2.1 0 _ rfl
            have t1 := F_tk.out.2.1 1 _ rfl
            have u0 := F_tk.out.free 0
            have u1 := F_tk.out.free 1
            go_wp2_with fail
            have HL9 : Hid (Below wc.heap.size wc ((V6.setCell ⟨tk, 0, none⟩ (.int .i64 (k0 : Int))).setCell ⟨tk, 1, none⟩ (.slice (some ⟨g3, 0, none⟩) (n + 1) cap3))) := hide ((HL.out.setCell (by exact HTK.out) _).setCell (by exact HTK.out) _)
            refine ⟨later_of HL9.out, ?_⟩
            refine wpAnyH_done (by kernel_rfl) ?_ _
            go_wp2_with fail
            go_meet
            have hne : ∀ b, (Value.slice (some ⟨g3, 0, none⟩) (n + 1) cap3).ownBlock = some b → some b ≠ some tk := fun b hb e => by simp [Value.ownBlock] at hb; injection e with e; have := N_g3_tk.out; omega
            exact ⟨tk, g3, cap3, rfl, hide ((F_tk.out.set (k := 0) (by simp) _).set (k := 1) (by simp) _), hide (own_kept (own_kept F_g3.out (grown_set (g := tk) _ rfl) hne) (grown_set (g := tk) _ rfl) hne), HL9⟩
           ·
            go_wp2_with fail
            have HL' : Hid (Below wc.heap.size wc (V5.alloc (.cells #[.int .i64 0, .slice none 0 0] 26))) := hide (below_alloc HL.out _)
            have HC' : Hid (Below w.heap.size w (V5.alloc (.cells #[.int .i64 0, .slice none 0 0] 26))) := hide (below_alloc HCC.out _)
            refine ⟨later_of HL'.out, ?_⟩
            replace F_g3 := hide (World.ownsRow.alloc F_g3.out (.cells #[.int .i64 0, .slice none 0 0] 26))
            have N_g3_tk : Hid (g3 ≠ V5.heap.size) := hide (by have := L_g3.out; omega)
            replace L_g3 : Hid (g3 < (V5.alloc (.cells #[.int .i64 0, .slice none 0 0] 26)).heap.size) := hide (by have := L_g3.out; simp; omega)
            have F_tk := hide (Row.new V5 #[.int .i64 0, .slice none 0 0] 26)
            have HTK : Hid (wc.heap.size ≤ V5.heap.size) := hide HL.out.size
            have L_tk : Hid (V5.heap.size < (V5.alloc (.cells #[.int .i64 0, .slice none 0 0] 26)).heap.size) := hide (by simp)
            clear HL HCC
            have HL := hide HL'.out
            have HCC := hide HC'.out
            clear HL' HC'
            generalize (V5.alloc (.cells #[.int .i64 0, .slice none 0 0] 26)) = V6 at *
            generalize V5.heap.size = tk at *
            refine wpAnyS_only 16 (by kernel_rfl) (by simp; rfl) rfl rfl (fun K hK => ?_)
            go_wp2_with fail
            refine ⟨later_of HL.out, ?_⟩
            refine wpAnyS_only 18 (by kernel_rfl) (by simp; rfl) rfl rfl (fun K hK => ?_)
            have t0 := F_tk.out.2.1 0 _ rfl
            have t1 := F_tk.out.2.1 1 _ rfl
            have u0 := F_tk.out.free 0
            have u1 := F_tk.out.free 1
            go_wp2_with fail
            have HL9 : Hid (Below wc.heap.size wc ((V6.setCell ⟨tk, 0, none⟩ (.int .i64 (k0 : Int))).setCell ⟨tk, 1, none⟩ (.slice (some ⟨g3, 0, none⟩) (n + 1) cap3))) := hide ((HL.out.setCell (by exact HTK.out) _).setCell (by exact HTK.out) _)
            refine ⟨later_of HL9.out, ?_⟩
            refine wpAnyH_done (by kernel_rfl) ?_ _
            go_wp2_with fail
            go_meet
            have hne : ∀ b, (Value.slice (some ⟨g3, 0, none⟩) (n + 1) cap3).ownBlock = some b → some b ≠ some tk := fun b hb e => by simp [Value.ownBlock] at hb; injection e with e; have := N_g3_tk.out; omega
            exact ⟨tk, g3, cap3, rfl, hide ((F_tk.out.set (k := 0) (by simp) _).set (k := 1) (by simp) _), hide (own_kept (own_kept F_g3.out (grown_set (g := tk) _ rfl) hne) (grown_set (g := tk) _ rfl) hne), HL9⟩
          ·
           go_wp2_with fail
           have HL' : Hid (Below wc.heap.size wc (V4.alloc (.cells #[.int .i64 0, .slice none 0 0] 26))) := hide (below_alloc HL.out _)
           have HC' : Hid (Below w.heap.size w (V4.alloc (.cells #[.int .i64 0, .slice none 0 0] 26))) := hide (below_alloc HCC.out _)
           refine ⟨later_of HL'.out, ?_⟩
           replace F_g2 := hide (World.ownsRow.alloc F_g2.out (.cells #[.int .i64 0, .slice none 0 0] 26))
           have N_g2_tk : Hid (g2 ≠ V4.heap.size) := hide (by have := L_g2.out; omega)
           replace L_g2 : Hid (g2 < (V4.alloc (.cells #[.int .i64 0, .slice none 0 0] 26)).heap.size) := hide (by have := L_g2.out; simp; omega)
           have F_tk := hide (Row.new V4 #[.int .i64 0, .slice none 0 0] 26)
           have HTK : Hid (wc.heap.size ≤ V4.heap.size) := hide HL.out.size
           have L_tk : Hid (V4.heap.size < (V4.alloc (.cells #[.int .i64 0, .slice none 0 0] 26)).heap.size) := hide (by simp)
           clear HL HCC
           have HL := hide HL'.out
           have HCC := hide HC'.out
           clear HL' HC'
           generalize (V4.alloc (.cells #[.int .i64 0, .slice none 0 0] 26)) = V5 at *
           generalize V4.heap.size = tk at *
           refine wpAnyS_only 15 (by kernel_rfl) (by simp; rfl) rfl rfl (fun K hK => ?_)
           refine wp_append_at (.tmp 68) (.tmp 72) 24 rfl wc.heap.size 39 i0 _ 3 24 Tryz.underlying24 Hi.out Hz.out.1 Hz.out.2.1 Hz.out.2.2 rfl (by decide) g2 (k + 1) cap2 ((l.take k).flatMap tcells ++ tcells (p0, p1, s2)) rfl F_g2.out ad (n - k) (c - k) ((l.drop k).flatMap tcells) rfl HDL.out (HDR.out V5 HCC.out) (tcells_one _) (by unfold maxLen; omega) (by omega) HL.out.size (fun g3 cap3 V6 hown hgrow hg hlt => ?_)
           have HL' := hide (HL.out.grown hgrow HL.out.size (fun k hk => by injection hk with hk; have := (F_g2.out.lt g2 rfl).1; omega))
           have HC' := hide (HCC.out.grown hgrow HCC.out.size (fun k hk => by injection hk with hk; have := (F_g2.out.lt g2 rfl).1; have := HBw.out.size; omega))
           replace F_tk := hide (F_tk.out.grown hgrow (fun e => by injection e with e; have := N_g2_tk.out; omega))
           have N_g3_tk : Hid (g3 ≠ tk) := hide (by have := L_tk.out; have := N_g2_tk.out; omega)
           replace L_tk : Hid (tk < V6.heap.size) := hide (by have := L_tk.out; have := hgrow.size; omega)
           clear N_g2_tk
           rw [show k + 1 + (n - k) = n + 1 by omega] at hown ⊢
           have F_g3 : Hid (V6.ownsRow wc.heap.size 39 3 (.slice (some ⟨g3, 0, none⟩) (n + 1) cap3) (n + 1) ((insL l k (p0, p1, s2)).flatMap tcells)) := hide (by simpa [insL] using hown)
           have L_g3 : Hid (g3 < V6.heap.size) := hide hlt
           clear HL HCC hown hgrow hg hlt F_g2 L_g2
           have HL := hide HL'.out
           have HCC := hide HC'.out
           clear HL' HC'
           refine hK _ _ ⟨later_of HL.out, ?_⟩
           simp only [Act.put, List.setIfInBounds_toArray, List.set_cons_succ, List.set_cons_zero]
           refine wpAnyS_only 16 (by kernel_rfl) (by simp; rfl) rfl rfl (fun K hK => ?_)
           go_wp2_with fail
           refine ⟨later_of HL.out, ?_⟩
           refine wpAnyS_only 18 (by kernel_rfl) (by simp; rfl) rfl rfl (fun K hK => ?_)
           have t0 := F_tk.out.2.1 0 _ rfl
           have t1 := F_tk.out.2.1 1 _ rfl
           have u0 := F_tk.out.free 0
           have u1 := F_tk.out.free 1
           go_wp2_with fail
           have HL9 : Hid (Below wc.heap.size wc ((V6.setCell ⟨tk, 0, none⟩ (.int .i64 (k0 : Int))).setCell ⟨tk, 1, none⟩ (.slice (some ⟨g3, 0, none⟩) (n + 1) cap3))) := hide ((HL.out.setCell (by exact HTK.out) _).setCell (by exact HTK.out) _)
           refine ⟨later_of HL9.out, ?_⟩
           refine wpAnyH_done (by kernel_rfl) ?_ _
           go_wp2_with fail
           go_meet
           have hne : ∀ b, (Value.slice (some ⟨g3, 0, none⟩) (n + 1) cap3).ownBlock = some b → some b ≠ some tk := fun b hb e => by simp [Value.ownBlock] at hb; injection e with e; have := N_g3_tk.out; omega
           exact ⟨tk, g3, cap3, rfl, hide ((F_tk.out.set (k := 0) (by simp) _).set (k := 1) (by simp) _), hide (own_kept (own_kept F_g3.out (grown_set (g := tk) _ rfl) hne) (grown_set (g := tk) _ rfl) hne), HL9⟩
         ·
          go_wp2_with fail
          have HL' : Hid (Below wc.heap.size wc (V3.alloc (.cells #[.int .i64 0, .slice none 0 0] 26))) := hide (below_alloc HL.out _)
          have HC' : Hid (Below w.heap.size w (V3.alloc (.cells #[.int .i64 0, .slice none 0 0] 26))) := hide (below_alloc HCC.out _)
          refine ⟨later_of HL'.out, ?_⟩
          replace F_g1 := hide (World.ownsRow.alloc F_g1.out (.cells #[.int .i64 0, .slice none 0 0] 26))
          have N_g1_tk : Hid (g1 ≠ V3.heap.size) := hide (by have := L_g1.out; omega)
          replace L_g1 : Hid (g1 < (V3.alloc (.cells #[.int .i64 0, .slice none 0 0] 26)).heap.size) := hide (by have := L_g1.out; simp; omega)
          replace F_bs := hide (F_bs.out.alloc (.cells #[.int .i64 0, .slice none 0 0] 26))
          replace L_bs : Hid (bs < (V3.alloc (.cells #[.int .i64 0, .slice none 0 0] 26)).heap.size) := hide (by have := L_bs.out; simp; omega)
          have F_tk := hide (Row.new V3 #[.int .i64 0, .slice none 0 0] 26)
          have HTK : Hid (wc.heap.size ≤ V3.heap.size) := hide HL.out.size
          have L_tk : Hid (V3.heap.size < (V3.alloc (.cells #[.int .i64 0, .slice none 0 0] 26)).heap.size) := hide (by simp)
          clear HL HCC
          have HL := hide HL'.out
          have HCC := hide HC'.out
          clear HL' HC'
          generalize (V3.alloc (.cells #[.int .i64 0, .slice none 0 0] 26)) = V4 at *
          generalize V3.heap.size = tk at *
          refine wpAnyS_only 10 (by kernel_rfl) (by simp; rfl) rfl rfl (fun K hK => ?_)
          refine wp_append_at (.tmp 65) (.tmp 67) 24 rfl wc.heap.size 39 i0 _ 3 24 Tryz.underlying24 Hi.out Hz.out.1 Hz.out.2.1 Hz.out.2.2 rfl (by decide) g1 k cap1 ((l.take k).flatMap tcells) rfl F_g1.out ⟨bs, 0, none⟩ 1 1 (tcells (p0, p1, s2)) rfl rfl (fun j u hu => by rw [Addr.add_lit, Nat.zero_add]; exact F_bs.out.2.1 j u hu) (fun u hu => tcells_one [(p0, p1, s2)] u (by simpa using hu)) (by unfold maxLen; omega) (by omega) HL.out.size (fun g2 cap2 V5 hown hgrow hg hlt => ?_)
          have HL' := hide (HL.out.grown hgrow HL.out.size (fun k hk => by injection hk with hk; have := (F_g1.out.lt g1 rfl).1; omega))
          have HC' := hide (HCC.out.grown hgrow HCC.out.size (fun k hk => by injection hk with hk; have := (F_g1.out.lt g1 rfl).1; have := HBw.out.size; omega))
          replace F_tk := hide (F_tk.out.grown hgrow (fun e => by injection e with e; have := N_g1_tk.out; omega))
          have N_g2_tk : Hid (g2 ≠ tk) := hide (by have := L_tk.out; have := N_g1_tk.out; omega)
          replace L_tk : Hid (tk < V5.heap.size) := hide (by have := L_tk.out; have := hgrow.size; omega)
          clear N_g1_tk
          have F_g2 : Hid (V5.ownsRow wc.heap.size 39 3 (.slice (some ⟨g2, 0, none⟩) (k + 1) cap2) (k + 1) ((l.take k).flatMap tcells ++ tcells (p0, p1, s2))) := hide (by simpa using hown)
          have L_g2 : Hid (g2 < V5.heap.size) := hide hlt
          clear HL HCC hown hgrow hg hlt F_g1 L_g1 N_g1_bs F_bs L_bs
          have HL := hide HL'.out
          have HCC := hide HC'.out
          clear HL' HC'
          refine hK _ _ ⟨later_of HL.out, ?_⟩
          simp only [Act.put, List.setIfInBounds_toArray, List.set_cons_succ, List.set_cons_zero]
          refine wpAnyS_only 15 (by kernel_rfl) (by simp; rfl) rfl rfl (fun K hK => ?_)
          refine wp_append_at (.tmp 68) (.tmp 72) 24 rfl wc.heap.size 39 i0 _ 3 24 Tryz.underlying24 Hi.out Hz.out.1 Hz.out.2.1 Hz.out.2.2 rfl (by decide) g2 (k + 1) cap2 ((l.take k).flatMap tcells ++ tcells (p0, p1, s2)) rfl F_g2.out ad (n - k) (c - k) ((l.drop k).flatMap tcells) rfl HDL.out (HDR.out V5 HCC.out) (tcells_one _) (by unfold maxLen; omega) (by omega) HL.out.size (fun g3 cap3 V6 hown hgrow hg hlt => ?_)
          have HL' := hide (HL.out.grown hgrow HL.out.size (fun k hk => by injection hk with hk; have := (F_g2.out.lt g2 rfl).1; omega))
          have HC' := hide (HCC.out.grown hgrow HCC.out.size (fun k hk => by injection hk with hk; have := (F_g2.out.lt g2 rfl).1; have := HBw.out.size; omega))
          replace F_tk := hide (F_tk.out.grown hgrow (fun e => by injection e with e; have := N_g2_tk.out; omega))
          have N_g3_tk : Hid (g3 ≠ tk) := hide (by have := L_tk.out; have := N_g2_tk.out; omega)
          replace L_tk : Hid (tk < V6.heap.size) := hide (by have := L_tk.out; have := hgrow.size; omega)
          clear N_g2_tk
          rw [show k + 1 + (n - k) = n + 1 by omega] at hown ⊢
          have F_g3 : Hid (V6.ownsRow wc.heap.size 39 3 (.slice (some ⟨g3, 0, none⟩) (n + 1) cap3) (n + 1) ((insL l k (p0, p1, s2)).flatMap tcells)) := hide (by simpa [insL] using hown)
          have L_g3 : Hid (g3 < V6.heap.size) := hide hlt
          clear HL HCC hown hgrow hg hlt F_g2 L_g2
          have HL := hide HL'.out
          have HCC := hide HC'.out
          clear HL' HC'
          refine hK _ _ ⟨later_of HL.out, ?_⟩
          simp only [Act.put, List.setIfInBounds_toArray, List.set_cons_succ, List.set_cons_zero]
          refine wpAnyS_only 16 (by kernel_rfl) (by simp; rfl) rfl rfl (fun K hK => ?_)
          go_wp2_with fail
          refine ⟨later_of HL.out, ?_⟩
          refine wpAnyS_only 18 (by kernel_rfl) (by simp; rfl) rfl rfl (fun K hK => ?_)
          have t0 := F_tk.out.2.1 0 _ rfl
          have t1 := F_tk.out.2.1 1 _ rfl
          have u0 := F_tk.out.free 0
          have u1 := F_tk.out.free 1
          go_wp2_with fail
          have HL9 : Hid (Below wc.heap.size wc ((V6.setCell ⟨tk, 0, none⟩ (.int .i64 (k0 : Int))).setCell ⟨tk, 1, none⟩ (.slice (some ⟨g3, 0, none⟩) (n + 1) cap3))) := hide ((HL.out.setCell (by exact HTK.out) _).setCell (by exact HTK.out) _)
          refine ⟨later_of HL9.out, ?_⟩
          refine wpAnyH_done (by kernel_rfl) ?_ _
          go_wp2_with fail
          go_meet
          have hne : ∀ b, (Value.slice (some ⟨g3, 0, none⟩) (n + 1) cap3).ownBlock = some b → some b ≠ some tk := fun b hb e => by simp [Value.ownBlock] at hb; injection e with e; have := N_g3_tk.out; omega
          exact ⟨tk, g3, cap3, rfl, hide ((F_tk.out.set (k := 0) (by simp) _).set (k := 1) (by simp) _), hide (own_kept (own_kept F_g3.out (grown_set (g := tk) _ rfl) hne) (grown_set (g := tk) _ rfl) hne), HL9⟩
        ·
         go_wp2_with fail
         have HL' : Hid (Below wc.heap.size wc (V2.alloc (.cells #[.int .i64 0, .slice none 0 0] 26))) := hide (below_alloc HL.out _)
         have HC' : Hid (Below w.heap.size w (V2.alloc (.cells #[.int .i64 0, .slice none 0 0] 26))) := hide (below_alloc HCC.out _)
         refine ⟨later_of HL'.out, ?_⟩
         replace F_b0 := hide (World.ownsRow.alloc F_b0.out (.cells #[.int .i64 0, .slice none 0 0] 26))
         have N_b0_tk : Hid (b0 ≠ V2.heap.size) := hide (by have := L_b0.out; omega)
         replace L_b0 : Hid (b0 < (V2.alloc (.cells #[.int .i64 0, .slice none 0 0] 26)).heap.size) := hide (by have := L_b0.out; simp; omega)
         replace F_bs := hide (F_bs.out.alloc (.cells #[.int .i64 0, .slice none 0 0] 26))
         replace L_bs : Hid (bs < (V2.alloc (.cells #[.int .i64 0, .slice none 0 0] 26)).heap.size) := hide (by have := L_bs.out; simp; omega)
         have F_tk := hide (Row.new V2 #[.int .i64 0, .slice none 0 0] 26)
         have HTK : Hid (wc.heap.size ≤ V2.heap.size) := hide HL.out.size
         have L_tk : Hid (V2.heap.size < (V2.alloc (.cells #[.int .i64 0, .slice none 0 0] 26)).heap.size) := hide (by simp)
         clear HL HCC
         have HL := hide HL'.out
         have HCC := hide HC'.out
         clear HL' HC'
         generalize (V2.alloc (.cells #[.int .i64 0, .slice none 0 0] 26)) = V3 at *
         generalize V2.heap.size = tk at *
         refine wpAnyS_only 7 (by kernel_rfl) (by simp; rfl) rfl rfl (fun K hK => ?_)
         refine wp_append_at (.tmp 60) (.tmp 64) 24 rfl wc.heap.size 39 i0 _ 3 24 Tryz.underlying24 Hi.out Hz.out.1 Hz.out.2.1 Hz.out.2.2 rfl (by decide) b0 0 0 [] rfl F_b0.out ⟨b, off, none⟩ k c ((l.take k).flatMap tcells) rfl HTL.out (HTR.out V3 HCC.out) (tcells_one _) (by unfold maxLen; omega) (by omega) HL.out.size (fun g1 cap1 V4 hown hgrow hg hlt => ?_)
         rw [Nat.zero_add] at hown ⊢
         have HL' := hide (HL.out.grown hgrow HL.out.size (fun k hk => by injection hk with hk; have := (F_b0.out.lt b0 rfl).1; omega))
         have HC' := hide (HCC.out.grown hgrow HCC.out.size (fun k hk => by injection hk with hk; have := (F_b0.out.lt b0 rfl).1; have := HBw.out.size; omega))
         replace F_bs := hide (F_bs.out.grown hgrow (fun e => by injection e with e; have := N_b0_bs.out; omega))
         have N_g1_bs : Hid (g1 ≠ bs) := hide (by have := L_bs.out; have := N_b0_bs.out; omega)
         replace L_bs : Hid (bs < V4.heap.size) := hide (by have := L_bs.out; have := hgrow.size; omega)
         clear N_b0_bs
         replace F_tk := hide (F_tk.out.grown hgrow (fun e => by injection e with e; have := N_b0_tk.out; omega))
         have N_g1_tk : Hid (g1 ≠ tk) := hide (by have := L_tk.out; have := N_b0_tk.out; omega)
         replace L_tk : Hid (tk < V4.heap.size) := hide (by have := L_tk.out; have := hgrow.size; omega)
         clear N_b0_tk
         have F_g1 : Hid (V4.ownsRow wc.heap.size 39 3 (.slice (some ⟨g1, 0, none⟩) k cap1) k ((l.take k).flatMap tcells)) := hide (by simpa using hown)
         have L_g1 : Hid (g1 < V4.heap.size) := hide hlt
         clear HL HCC hown hgrow hg hlt F_b0 L_b0
         have HL := hide HL'.out
         have HCC := hide HC'.out
         clear HL' HC'
         refine hK _ _ ⟨later_of HL.out, ?_⟩
         simp only [Act.put, List.setIfInBounds_toArray, List.set_cons_succ, List.set_cons_zero]
         refine wpAnyS_only 10 (by kernel_rfl) (by simp; rfl) rfl rfl (fun K hK => ?_)
         refine wp_append_at (.tmp 65) (.tmp 67) 24 rfl wc.heap.size 39 i0 _ 3 24 Tryz.underlying24 Hi.out Hz.out.1 Hz.out.2.1 Hz.out.2.2 rfl (by decide) g1 k cap1 ((l.take k).flatMap tcells) rfl F_g1.out ⟨bs, 0, none⟩ 1 1 (tcells (p0, p1, s2)) rfl rfl (fun j u hu => by rw [Addr.add_lit, Nat.zero_add]; exact F_bs.out.2.1 j u hu) (fun u hu => tcells_one [(p0, p1, s2)] u (by simpa using hu)) (by unfold maxLen; omega) (by omega) HL.out.size (fun g2 cap2 V5 hown hgrow hg hlt => ?_)
         have HL' := hide (HL.out.grown hgrow HL.out.size (fun k hk => by injection hk with hk; have := (F_g1.out.lt g1 rfl).1; omega))
         have HC' := hide (HCC.out.grown hgrow HCC.out.size (fun k hk => by injection hk with hk; have := (F_g1.out.lt g1 rfl).1; have := HBw.out.size; omega))
         replace F_tk := hide (F_tk.out.grown hgrow (fun e => by injection e with e; have := N_g1_tk.out; omega))
         have N_g2_tk : Hid (g2 ≠ tk) := hide (by have := L_tk.out; have := N_g1_tk.out; omega)
         replace L_tk : Hid (tk < V5.heap.size) := hide (by have := L_tk.out; have := hgrow.size; omega)
         clear N_g1_tk
         have F_g2 : Hid (V5.ownsRow wc.heap.size 39 3 (.slice (some ⟨g2, 0, none⟩) (k + 1) cap2) (k + 1) ((l.take k).flatMap tcells ++ tcells (p0, p1, s2))) := hide (by simpa using hown)
         have L_g2 : Hid (g2 < V5.heap.size) := hide hlt
         clear HL HCC hown hgrow hg hlt F_g1 L_g1 N_g1_bs F_bs L_bs
         have HL := hide HL'.out
         have HCC := hide HC'.out
         clear HL' HC'
         refine hK _ _ ⟨later_of HL.out, ?_⟩
         simp only [Act.put, List.setIfInBounds_toArray, List.set_cons_succ, List.set_cons_zero]
         refine wpAnyS_only 15 (by kernel_rfl) (by simp; rfl) rfl rfl (fun K hK => ?_)
         refine wp_append_at (.tmp 68) (.tmp 72) 24 rfl wc.heap.size 39 i0 _ 3 24 Tryz.underlying24 Hi.out Hz.out.1 Hz.out.2.1 Hz.out.2.2 rfl (by decide) g2 (k + 1) cap2 ((l.take k).flatMap tcells ++ tcells (p0, p1, s2)) rfl F_g2.out ad (n - k) (c - k) ((l.drop k).flatMap tcells) rfl HDL.out (HDR.out V5 HCC.out) (tcells_one _) (by unfold maxLen; omega) (by omega) HL.out.size (fun g3 cap3 V6 hown hgrow hg hlt => ?_)
         have HL' := hide (HL.out.grown hgrow HL.out.size (fun k hk => by injection hk with hk; have := (F_g2.out.lt g2 rfl).1; omega))
         have HC' := hide (HCC.out.grown hgrow HCC.out.size (fun k hk => by injection hk with hk; have := (F_g2.out.lt g2 rfl).1; have := HBw.out.size; omega))
         replace F_tk := hide (F_tk.out.grown hgrow (fun e => by injection e with e; have := N_g2_tk.out; omega))
         have N_g3_tk : Hid (g3 ≠ tk) := hide (by have := L_tk.out; have := N_g2_tk.out; omega)
         replace L_tk : Hid (tk < V6.heap.size) := hide (by have := L_tk.out; have := hgrow.size; omega)
         clear N_g2_tk
         rw [show k + 1 + (n - k) = n + 1 by omega] at hown ⊢
         have F_g3 : Hid (V6.ownsRow wc.heap.size 39 3 (.slice (some ⟨g3, 0, none⟩) (n + 1) cap3) (n + 1) ((insL l k (p0, p1, s2)).flatMap tcells)) := hide (by simpa [insL] using hown)
         have L_g3 : Hid (g3 < V6.heap.size) := hide hlt
         clear HL HCC hown hgrow hg hlt F_g2 L_g2
         have HL := hide HL'.out
         have HCC := hide HC'.out
         clear HL' HC'
         refine hK _ _ ⟨later_of HL.out, ?_⟩
         simp only [Act.put, List.setIfInBounds_toArray, List.set_cons_succ, List.set_cons_zero]
         refine wpAnyS_only 16 (by kernel_rfl) (by simp; rfl) rfl rfl (fun K hK => ?_)
         go_wp2_with fail
         refine ⟨later_of HL.out, ?_⟩
         refine wpAnyS_only 18 (by kernel_rfl) (by simp; rfl) rfl rfl (fun K hK => ?_)
         have t0 := F_tk.out.2.1 0 _ rfl
         have t1 := F_tk.out.2.1 1 _ rfl
         have u0 := F_tk.out.free 0
         have u1 := F_tk.out.free 1
         go_wp2_with fail
         have HL9 : Hid (Below wc.heap.size wc ((V6.setCell ⟨tk, 0, none⟩ (.int .i64 (k0 : Int))).setCell ⟨tk, 1, none⟩ (.slice (some ⟨g3, 0, none⟩) (n + 1) cap3))) := hide ((HL.out.setCell (by exact HTK.out) _).setCell (by exact HTK.out) _)
         refine ⟨later_of HL9.out, ?_⟩
         refine wpAnyH_done (by kernel_rfl) ?_ _
         go_wp2_with fail
         go_meet
         have hne : ∀ b, (Value.slice (some ⟨g3, 0, none⟩) (n + 1) cap3).ownBlock = some b → some b ≠ some tk := fun b hb e => by simp [Value.ownBlock] at hb; injection e with e; have := N_g3_tk.out; omega
         exact ⟨tk, g3, cap3, rfl, hide ((F_tk.out.set (k := 0) (by simp) _).set (k := 1) (by simp) _), hide (own_kept (own_kept F_g3.out (grown_set (g := tk) _ rfl) hne) (grown_set (g := tk) _ rfl) hne), HL9⟩
       ·
        go_wp2_with fail
        have HL' : Hid (Below wc.heap.size wc (V1.alloc (.cells #[.int .i64 0, .slice none 0 0] 26))) := hide (below_alloc HL.out _)
        have HC' : Hid (Below w.heap.size w (V1.alloc (.cells #[.int .i64 0, .slice none 0 0] 26))) := hide (below_alloc HCC.out _)
        refine ⟨later_of HL'.out, ?_⟩
        replace F_bs := hide (F_bs.out.alloc (.cells #[.int .i64 0, .slice none 0 0] 26))
        replace L_bs : Hid (bs < (V1.alloc (.cells #[.int .i64 0, .slice none 0 0] 26)).heap.size) := hide (by have := L_bs.out; simp; omega)
        have F_tk := hide (Row.new V1 #[.int .i64 0, .slice none 0 0] 26)
        have HTK : Hid (wc.heap.size ≤ V1.heap.size) := hide HL.out.size
        have L_tk : Hid (V1.heap.size < (V1.alloc (.cells #[.int .i64 0, .slice none 0 0] 26)).heap.size) := hide (by simp)
        clear HL HCC
        have HL := hide HL'.out
        have HCC := hide HC'.out
        clear HL' HC'
        generalize (V1.alloc (.cells #[.int .i64 0, .slice none 0 0] 26)) = V2 at *
        generalize V1.heap.size = tk at *
        refine wpAnyS_only 2 (by kernel_rfl) (by simp; rfl) rfl rfl (fun K hK => ?_)
        go_wp2_with fail
        have HL' : Hid (Below wc.heap.size wc (V2.alloc (.cells #[] 39))) := hide (below_alloc HL.out _)
        have HC' : Hid (Below w.heap.size w (V2.alloc (.cells #[] 39))) := hide (below_alloc HCC.out _)
        refine ⟨later_of HL'.out, ?_⟩
        replace F_bs := hide (F_bs.out.alloc (.cells #[] 39))
        have N_b0_bs : Hid (V2.heap.size ≠ bs) := hide (by have := L_bs.out; omega)
        replace L_bs : Hid (bs < (V2.alloc (.cells #[] 39)).heap.size) := hide (by have := L_bs.out; simp; omega)
        replace F_tk := hide (F_tk.out.alloc (.cells #[] 39))
        have N_b0_tk : Hid (V2.heap.size ≠ tk) := hide (by have := L_tk.out; omega)
        replace L_tk : Hid (tk < (V2.alloc (.cells #[] 39)).heap.size) := hide (by have := L_tk.out; simp; omega)
        have F_b0 : Hid ((V2.alloc (.cells #[] 39)).ownsRow wc.heap.size 39 3 (.slice (some ⟨V2.heap.size, 0, none⟩) 0 0) 0 []) := hide (World.ownsRow_made V2 #[] 0 HL.out.size (Nat.zero_le _) rfl)
        have L_b0 : Hid (V2.heap.size < (V2.alloc (.cells #[] 39)).heap.size) := hide (by simp)
        clear HL HCC
        have HL := hide HL'.out
        have HCC := hide HC'.out
        clear HL' HC'
        generalize (V2.alloc (.cells #[] 39)) = V3 at *
        generalize V2.heap.size = b0 at *
        refine wpAnyS_only 7 (by kernel_rfl) (by simp; rfl) rfl rfl (fun K hK => ?_)
        refine wp_append_at (.tmp 60) (.tmp 64) 24 rfl wc.heap.size 39 i0 _ 3 24 Tryz.underlying24 Hi.out Hz.out.1 Hz.out.2.1 Hz.out.2.2 rfl (by decide) b0 0 0 [] rfl F_b0.out ⟨b, off, none⟩ k c ((l.take k).flatMap tcells) rfl HTL.out (HTR.out V3 HCC.out) (tcells_one _) (by unfold maxLen; omega) (by omega) HL.out.size (fun g1 cap1 V4 hown hgrow hg hlt => ?_)
        rw [Nat.zero_add] at hown ⊢
        have HL' := hide (HL.out.grown hgrow HL.out.size (fun k hk => by injection hk with hk; have := (F_b0.out.lt b0 rfl).1; omega))
        have HC' := hide (HCC.out.grown hgrow HCC.out.size (fun k hk => by injection hk with hk; have := (F_b0.out.lt b0 rfl).1; have := HBw.out.size; omega))
        replace F_bs := hide (F_bs.out.grown hgrow (fun e => by injection e with e; have := N_b0_bs.out; omega))
        have N_g1_bs : Hid (g1 ≠ bs) := hide (by have := L_bs.out; have := N_b0_bs.out; omega)
        replace L_bs : Hid (bs < V4.heap.size) := hide (by have := L_bs.out; have := hgrow.size; omega)
        clear N_b0_bs
        replace F_tk := hide (F_tk.out.grown hgrow (fun e => by injection e with e; have := N_b0_tk.out; omega))
        have N_g1_tk : Hid (g1 ≠ tk) := hide (by have := L_tk.out; have := N_b0_tk.out; omega)
        replace L_tk : Hid (tk < V4.heap.size) := hide (by have := L_tk.out; have := hgrow.size; omega)
        clear N_b0_tk
        have F_g1 : Hid (V4.ownsRow wc.heap.size 39 3 (.slice (some ⟨g1, 0, none⟩) k cap1) k ((l.take k).flatMap tcells)) := hide (by simpa using hown)
        have L_g1 : Hid (g1 < V4.heap.size) := hide hlt
        clear HL HCC hown hgrow hg hlt F_b0 L_b0
        have HL := hide HL'.out
        have HCC := hide HC'.out
        clear HL' HC'
        refine hK _ _ ⟨later_of HL.out, ?_⟩
        simp only [Act.put, List.setIfInBounds_toArray, List.set_cons_succ, List.set_cons_zero]
        refine wpAnyS_only 10 (by kernel_rfl) (by simp; rfl) rfl rfl (fun K hK => ?_)
        refine wp_append_at (.tmp 65) (.tmp 67) 24 rfl wc.heap.size 39 i0 _ 3 24 Tryz.underlying24 Hi.out Hz.out.1 Hz.out.2.1 Hz.out.2.2 rfl (by decide) g1 k cap1 ((l.take k).flatMap tcells) rfl F_g1.out ⟨bs, 0, none⟩ 1 1 (tcells (p0, p1, s2)) rfl rfl (fun j u hu => by rw [Addr.add_lit, Nat.zero_add]; exact F_bs.out.2.1 j u hu) (fun u hu => tcells_one [(p0, p1, s2)] u (by simpa using hu)) (by unfold maxLen; omega) (by omega) HL.out.size (fun g2 cap2 V5 hown hgrow hg hlt => ?_)
        have HL' := hide (HL.out.grown hgrow HL.out.size (fun k hk => by injection hk with hk; have := (F_g1.out.lt g1 rfl).1; omega))
        have HC' := hide (HCC.out.grown hgrow HCC.out.size (fun k hk => by injection hk with hk; have := (F_g1.out.lt g1 rfl).1; have := HBw.out.size; omega))
        replace F_tk := hide (F_tk.out.grown hgrow (fun e => by injection e with e; have := N_g1_tk.out; omega))
        have N_g2_tk : Hid (g2 ≠ tk) := hide (by have := L_tk.out; have := N_g1_tk.out; omega)
        replace L_tk : Hid (tk < V5.heap.size) := hide (by have := L_tk.out; have := hgrow.size; omega)
        clear N_g1_tk
        have F_g2 : Hid (V5.ownsRow wc.heap.size 39 3 (.slice (some ⟨g2, 0, none⟩) (k + 1) cap2) (k + 1) ((l.take k).flatMap tcells ++ tcells (p0, p1, s2))) := hide (by simpa using hown)
        have L_g2 : Hid (g2 < V5.heap.size) := hide hlt
        clear HL HCC hown hgrow hg hlt F_g1 L_g1 N_g1_bs F_bs L_bs
        have HL := hide HL'.out
        have HCC := hide HC'.out
        clear HL' HC'
        refine hK _ _ ⟨later_of HL.out, ?_⟩
        simp only [Act.put, List.setIfInBounds_toArray, List.set_cons_succ, List.set_cons_zero]
        refine wpAnyS_only 15 (by kernel_rfl) (by simp; rfl) rfl rfl (fun K hK => ?_)
        refine wp_append_at (.tmp 68) (.tmp 72) 24 rfl wc.heap.size 39 i0 _ 3 24 Tryz.underlying24 Hi.out Hz.out.1 Hz.out.2.1 Hz.out.2.2 rfl (by decide) g2 (k + 1) cap2 ((l.take k).flatMap tcells ++ tcells (p0, p1, s2)) rfl F_g2.out ad (n - k) (c - k) ((l.drop k).flatMap tcells) rfl HDL.out (HDR.out V5 HCC.out) (tcells_one _) (by unfold maxLen; omega) (by omega) HL.out.size (fun g3 cap3 V6 hown hgrow hg hlt => ?_)
        have HL' := hide (HL.out.grown hgrow HL.out.size (fun k hk => by injection hk with hk; have := (F_g2.out.lt g2 rfl).1; omega))
        have HC' := hide (HCC.out.grown hgrow HCC.out.size (fun k hk => by injection hk with hk; have := (F_g2.out.lt g2 rfl).1; have := HBw.out.size; omega))
        replace F_tk := hide (F_tk.out.grown hgrow (fun e => by injection e with e; have := N_g2_tk.out; omega))
        have N_g3_tk : Hid (g3 ≠ tk) := hide (by have := L_tk.out; have := N_g2_tk.out; omega)
        replace L_tk : Hid (tk < V6.heap.size) := hide (by have := L_tk.out; have := hgrow.size; omega)
        clear N_g2_tk
        rw [show k + 1 + (n - k) = n + 1 by omega] at hown ⊢
        have F_g3 : Hid (V6.ownsRow wc.heap.size 39 3 (.slice (some ⟨g3, 0, none⟩) (n + 1) cap3) (n + 1) ((insL l k (p0, p1, s2)).flatMap tcells)) := hide (by simpa [insL] using hown)
        have L_g3 : Hid (g3 < V6.heap.size) := hide hlt
        clear HL HCC hown hgrow hg hlt F_g2 L_g2
        have HL := hide HL'.out
        have HCC := hide HC'.out
        clear HL' HC'
        refine hK _ _ ⟨later_of HL.out, ?_⟩
        simp only [Act.put, List.setIfInBounds_toArray, List.set_cons_succ, List.set_cons_zero]
        refine wpAnyS_only 16 (by kernel_rfl) (by simp; rfl) rfl rfl (fun K hK => ?_)
        go_wp2_with fail
        refine ⟨later_of HL.out, ?_⟩
        refine wpAnyS_only 18 (by kernel_rfl) (by simp; rfl) rfl rfl (fun K hK => ?_)
        have t0 := F_tk.out.2.1 0 _ rfl
        have t1 := F_tk.out.2.1 1 _ rfl
        have u0 := F_tk.out.free 0
        have u1 := F_tk.out.free 1
        go_wp2_with fail
        have HL9 : Hid (Below wc.heap.size wc ((V6.setCell ⟨tk, 0, none⟩ (.int .i64 (k0 : Int))).setCell ⟨tk, 1, none⟩ (.slice (some ⟨g3, 0, none⟩) (n + 1) cap3))) := hide ((HL.out.setCell (by exact HTK.out) _).setCell (by exact HTK.out) _)
        refine ⟨later_of HL9.out, ?_⟩
        refine wpAnyH_done (by kernel_rfl) ?_ _
        go_wp2_with fail
        go_meet
        have hne : ∀ b, (Value.slice (some ⟨g3, 0, none⟩) (n + 1) cap3).ownBlock = some b → some b ≠ some tk := fun b hb e => by simp [Value.ownBlock] at hb; injection e with e; have := N_g3_tk.out; omega
        exact ⟨tk, g3, cap3, rfl, hide ((F_tk.out.set (k := 0) (by simp) _).set (k := 1) (by simp) _), hide (own_kept (own_kept F_g3.out (grown_set (g := tk) _ rfl) hne) (grown_set (g := tk) _ rfl) hne), HL9⟩
      ·
       go_wp2_with fail
       have HL' : Hid (Below wc.heap.size wc (V0.alloc (.cells #[.int .i64 0, .slice none 0 0] 26))) := hide (below_alloc HL.out _)
       have HC' : Hid (Below w.heap.size w (V0.alloc (.cells #[.int .i64 0, .slice none 0 0] 26))) := hide (below_alloc HCC.out _)
       refine ⟨later_of HL'.out, ?_⟩
       have F_tk := hide (Row.new V0 #[.int .i64 0, .slice none 0 0] 26)
       have HTK : Hid (wc.heap.size ≤ V0.heap.size) := hide HL.out.size
       have L_tk : Hid (V0.heap.size < (V0.alloc (.cells #[.int .i64 0, .slice none 0 0] 26)).heap.size) := hide (by simp)
       clear HL HCC
       have HL := hide HL'.out
       have HCC := hide HC'.out
       clear HL' HC'
       generalize (V0.alloc (.cells #[.int .i64 0, .slice none 0 0] 26)) = V1 at *
       generalize V0.heap.size = tk at *
       refine wpAnyS_two 2 9 (by kernel_rfl) (by simp; rfl) (by simp; rfl) rfl rfl rfl rfl (fun K hK => ?_) (fun K hK => ?_)
       ·
        go_wp2_with fail
        have HL' : Hid (Below wc.heap.size wc (V1.alloc (.cells #[] 39))) := hide (below_alloc HL.out _)
        have HC' : Hid (Below w.heap.size w (V1.alloc (.cells #[] 39))) := hide (below_alloc HCC.out _)
        refine ⟨later_of HL'.out, ?_⟩
        replace F_tk := hide (F_tk.out.alloc (.cells #[] 39))
        have N_b0_tk : Hid (V1.heap.size ≠ tk) := hide (by have := L_tk.out; omega)
        replace L_tk : Hid (tk < (V1.alloc (.cells #[] 39)).heap.size) := hide (by have := L_tk.out; simp; omega)
        have F_b0 : Hid ((V1.alloc (.cells #[] 39)).ownsRow wc.heap.size 39 3 (.slice (some ⟨V1.heap.size, 0, none⟩) 0 0) 0 []) := hide (World.ownsRow_made V1 #[] 0 HL.out.size (Nat.zero_le _) rfl)
        have L_b0 : Hid (V1.heap.size < (V1.alloc (.cells #[] 39)).heap.size) := hide (by simp)
        clear HL HCC
        have HL := hide HL'.out
        have HCC := hide HC'.out
        clear HL' HC'
        generalize (V1.alloc (.cells #[] 39)) = V2 at *
        generalize V1.heap.size = b0 at *
        refine wpAnyS_two 7 9 (by kernel_rfl) (by simp; rfl) (by simp; rfl) rfl rfl rfl rfl (fun K hK => ?_) (fun K hK => ?_)
        ·
         refine wp_append_at (.tmp 60) (.tmp 64) 24 rfl wc.heap.size 39 i0 _ 3 24 Tryz.underlying24 Hi.out Hz.out.1 Hz.out.2.1 Hz.out.2.2 rfl (by decide) b0 0 0 [] rfl F_b0.out ⟨b, off, none⟩ k c ((l.take k).flatMap tcells) rfl HTL.out (HTR.out V2 HCC.out) (tcells_one _) (by unfold maxLen; omega) (by omega) HL.out.size (fun g1 cap1 V3 hown hgrow hg hlt => ?_)
         rw [Nat.zero_add] at hown ⊢
         have HL' := hide (HL.out.grown hgrow HL.out.size (fun k hk => by injection hk with hk; have := (F_b0.out.lt b0 rfl).1; omega))
         have HC' := hide (HCC.out.grown hgrow HCC.out.size (fun k hk => by injection hk with hk; have := (F_b0.out.lt b0 rfl).1; have := HBw.out.size; omega))
         replace F_tk := hide (F_tk.out.grown hgrow (fun e => by injection e with e; have := N_b0_tk.out; omega))
         have N_g1_tk : Hid (g1 ≠ tk) := hide (by have := L_tk.out; have := N_b0_tk.out; omega)
         replace L_tk : Hid (tk < V3.heap.size) := hide (by have := L_tk.out; have := hgrow.size; omega)
         clear N_b0_tk
         have F_g1 : Hid (V3.ownsRow wc.heap.size 39 3 (.slice (some ⟨g1, 0, none⟩) k cap1) k ((l.take k).flatMap tcells)) := hide (by simpa using hown)
         have L_g1 : Hid (g1 < V3.heap.size) := hide hlt
         clear HL HCC hown hgrow hg hlt F_b0 L_b0
         have HL := hide HL'.out
         have HCC := hide HC'.out
         clear HL' HC'
         refine hK _ _ ⟨later_of HL.out, ?_⟩
         simp only [Act.put, List.setIfInBounds_toArray, List.set_cons_succ, List.set_cons_zero]
         refine wpAnyS_only 9 (by kernel_rfl) (by simp; rfl) rfl rfl (fun K hK => ?_)
         go_wp2_with fail
         have HL' : Hid (Below wc.heap.size wc (V3.alloc (.cells #[.int .i64 p0, .int .i64 p1, .int .i64 s2] 39))) := hide (below_alloc HL.out _)
         have HC' : Hid (Below w.heap.size w (V3.alloc (.cells #[.int .i64 p0, .int .i64 p1, .int .i64 s2] 39))) := hide (below_alloc HCC.out _)
         refine ⟨later_of HL'.out, ?_⟩
         replace F_g1 := hide (World.ownsRow.alloc F_g1.out (.cells #[.int .i64 p0, .int .i64 p1, .int .i64 s2] 39))
         have N_g1_bs : Hid (g1 ≠ V3.heap.size) := hide (by have := L_g1.out; omega)
         replace L_g1 : Hid (g1 < (V3.alloc (.cells #[.int .i64 p0, .int .i64 p1, .int .i64 s2] 39)).heap.size) := hide (by have := L_g1.out; simp; omega)
         replace F_tk := hide (F_tk.out.alloc (.cells #[.int .i64 p0, .int .i64 p1, .int .i64 s2] 39))
         replace L_tk : Hid (tk < (V3.alloc (.cells #[.int .i64 p0, .int .i64 p1, .int .i64 s2] 39)).heap.size) := hide (by have := L_tk.out; simp; omega)
         have F_bs := hide (Row.new V3 #[.int .i64 p0, .int .i64 p1, .int .i64 s2] 39)
         have L_bs : Hid (V3.heap.size < (V3.alloc (.cells #[.int .i64 p0, .int .i64 p1, .int .i64 s2] 39)).heap.size) := hide (by simp)
         clear HL HCC
         have HL := hide HL'.out
         have HCC := hide HC'.out
         clear HL' HC'
         generalize (V3.alloc (.cells #[.int .i64 p0, .int .i64 p1, .int .i64 s2] 39)) = V4 at *
         generalize V3.heap.size = bs at *
         refine wpAnyS_only 10 (by kernel_rfl) (by simp; rfl) rfl rfl (fun K hK => ?_)
         refine wp_append_at (.tmp 65) (.tmp 67) 24 rfl wc.heap.size 39 i0 _ 3 24 Tryz.underlying24 Hi.out Hz.out.1 Hz.out.2.1 Hz.out.2.2 rfl (by decide) g1 k cap1 ((l.take k).flatMap tcells) rfl F_g1.out ⟨bs, 0, none⟩ 1 1 (tcells (p0, p1, s2)) rfl rfl (fun j u hu => by rw [Addr.add_lit, Nat.zero_add]; exact F_bs.out.2.1 j u hu) (fun u hu => tcells_one [(p0, p1, s2)] u (by simpa using hu)) (by unfold maxLen; omega) (by omega) HL.out.size (fun g2 cap2 V5 hown hgrow hg hlt => ?_)
         have HL' := hide (HL.out.grown hgrow HL.out.size (fun k hk => by injection hk with hk; have := (F_g1.out.lt g1 rfl).1; omega))
         have HC' := hide (HCC.out.grown hgrow HCC.out.size (fun k hk => by injection hk with hk; have := (F_g1.out.lt g1 rfl).1; have := HBw.out.size; omega))
         replace F_tk := hide (F_tk.out.grown hgrow (fun e => by injection e with e; have := N_g1_tk.out; omega))
         have N_g2_tk : Hid (g2 ≠ tk) := hide (by have := L_tk.out; have := N_g1_tk.out; omega)
         replace L_tk : Hid (tk < V5.heap.size) := hide (by have := L_tk.out; have := hgrow.size; omega)
         clear N_g1_tk
         have F_g2 : Hid (V5.ownsRow wc.heap.size 39 3 (.slice (some ⟨g2, 0, none⟩) (k + 1) cap2) (k + 1) ((l.take k).flatMap tcells ++ tcells (p0, p1, s2))) := hide (by simpa using hown)
         have L_g2 : Hid (g2 < V5.heap.size) := hide hlt
         clear HL HCC hown hgrow hg hlt F_g1 L_g1 N_g1_bs F_bs L_bs
         have HL := hide HL'.out
         have HCC := hide HC'.out
         clear HL' HC'
         refine hK _ _ ⟨later_of HL.out, ?_⟩
         simp only [Act.put, List.setIfInBounds_toArray, List.set_cons_succ, List.set_cons_zero]
         refine wpAnyS_only 15 (by kernel_rfl) (by simp; rfl) rfl rfl (fun K hK => ?_)
         refine wp_append_at (.tmp 68) (.tmp 72) 24 rfl wc.heap.size 39 i0 _ 3 24 Tryz.underlying24 Hi.out Hz.out.1 Hz.out.2.1 Hz.out.2.2 rfl (by decide) g2 (k + 1) cap2 ((l.take k).flatMap tcells ++ tcells (p0, p1, s2)) rfl F_g2.out ad (n - k) (c - k) ((l.drop k).flatMap tcells) rfl HDL.out (HDR.out V5 HCC.out) (tcells_one _) (by unfold maxLen; omega) (by omega) HL.out.size (fun g3 cap3 V6 hown hgrow hg hlt => ?_)
         have HL' := hide (HL.out.grown hgrow HL.out.size (fun k hk => by injection hk with hk; have := (F_g2.out.lt g2 rfl).1; omega))
         have HC' := hide (HCC.out.grown hgrow HCC.out.size (fun k hk => by injection hk with hk; have := (F_g2.out.lt g2 rfl).1; have := HBw.out.size; omega))
         replace F_tk := hide (F_tk.out.grown hgrow (fun e => by injection e with e; have := N_g2_tk.out; omega))
         have N_g3_tk : Hid (g3 ≠ tk) := hide (by have := L_tk.out; have := N_g2_tk.out; omega)
         replace L_tk : Hid (tk < V6.heap.size) := hide (by have := L_tk.out; have := hgrow.size; omega)
         clear N_g2_tk
         rw [show k + 1 + (n - k) = n + 1 by omega] at hown ⊢
         have F_g3 : Hid (V6.ownsRow wc.heap.size 39 3 (.slice (some ⟨g3, 0, none⟩) (n + 1) cap3) (n + 1) ((insL l k (p0, p1, s2)).flatMap tcells)) := hide (by simpa [insL] using hown)
         have L_g3 : Hid (g3 < V6.heap.size) := hide hlt
         clear HL HCC hown hgrow hg hlt F_g2 L_g2
         have HL := hide HL'.out
         have HCC := hide HC'.out
         clear HL' HC'
         refine hK _ _ ⟨later_of HL.out, ?_⟩
         simp only [Act.put, List.setIfInBounds_toArray, List.set_cons_succ, List.set_cons_zero]
         refine wpAnyS_only 16 (by kernel_rfl) (by simp; rfl) rfl rfl (fun K hK => ?_)
         go_wp2_with fail
         refine ⟨later_of HL.out, ?_⟩
         refine wpAnyS_only 18 (by kernel_rfl) (by simp; rfl) rfl rfl (fun K hK => ?_)
         have t0 := F_tk.out.2.1 0 _ rfl
         have t1 := F_tk.out.2.1 1 _ rfl
         have u0 := F_tk.out.free 0
         have u1 := F_tk.out.free 1
         go_wp2_with fail
         have HL9 : Hid (Below wc.heap.size wc ((V6.setCell ⟨tk, 0, none⟩ (.int .i64 (k0 : Int))).setCell ⟨tk, 1, none⟩ (.slice (some ⟨g3, 0, none⟩) (n + 1) cap3))) := hide ((HL.out.setCell (by exact HTK.out) _).setCell (by exact HTK.out) _)
         refine ⟨later_of HL9.out, ?_⟩
         refine wpAnyH_done (by kernel_rfl) ?_ _
         go_wp2_with fail
         go_meet
         have hne : ∀ b, (Value.slice (some ⟨g3, 0, none⟩) (n + 1) cap3).ownBlock = some b → some b ≠ some tk := fun b hb e => by simp [Value.ownBlock] at hb; injection e with e; have := N_g3_tk.out; omega
         exact ⟨tk, g3, cap3, rfl, hide ((F_tk.out.set (k := 0) (by simp) _).set (k := 1) (by simp) _), hide (own_kept (own_kept F_g3.out (grown_set (g := tk) _ rfl) hne) (grown_set (g := tk) _ rfl) hne), HL9⟩
        ·
         go_wp2_with fail
         have HL' : Hid (Below wc.heap.size wc (V2.alloc (.cells #[.int .i64 p0, .int .i64 p1, .int .i64 s2] 39))) := hide (below_alloc HL.out _)
         have HC' : Hid (Below w.heap.size w (V2.alloc (.cells #[.int .i64 p0, .int .i64 p1, .int .i64 s2] 39))) := hide (below_alloc HCC.out _)
         refine ⟨later_of HL'.out, ?_⟩
         replace F_b0 := hide (World.ownsRow.alloc F_b0.out (.cells #[.int .i64 p0, .int .i64 p1, .int .i64 s2] 39))
         have N_b0_bs : Hid (b0 ≠ V2.heap.size) := hide (by have := L_b0.out; omega)
         replace L_b0 : Hid (b0 < (V2.alloc (.cells #[.int .i64 p0, .int .i64 p1, .int .i64 s2] 39)).heap.size) := hide (by have := L_b0.out; simp; omega)
         replace F_tk := hide (F_tk.out.alloc (.cells #[.int .i64 p0, .int .i64 p1, .int .i64 s2] 39))
         replace L_tk : Hid (tk < (V2.alloc (.cells #[.int .i64 p0, .int .i64 p1, .int .i64 s2] 39)).heap.size) := hide (by have := L_tk.out; simp; omega)
         have F_bs := hide (Row.new V2 #[.int .i64 p0, .int .i64 p1, .int .i64 s2] 39)
         have L_bs : Hid (V2.heap.size < (V2.alloc (.cells #[.int .i64 p0, .int .i64 p1, .int .i64 s2] 39)).heap.size) := hide (by simp)
         clear HL HCC
         have HL := hide HL'.out
         have HCC := hide HC'.out
         clear HL' HC'
         generalize (V2.alloc (.cells #[.int .i64 p0, .int .i64 p1, .int .i64 s2] 39)) = V3 at *
         generalize V2.heap.size = bs at *
         refine wpAnyS_only 7 (by kernel_rfl) (by simp; rfl) rfl rfl (fun K hK => ?_)
         refine wp_append_at (.tmp 60) (.tmp 64) 24 rfl wc.heap.size 39 i0 _ 3 24 Tryz.underlying24 Hi.out Hz.out.1 Hz.out.2.1 Hz.out.2.2 rfl (by decide) b0 0 0 [] rfl F_b0.out ⟨b, off, none⟩ k c ((l.take k).flatMap tcells) rfl HTL.out (HTR.out V3 HCC.out) (tcells_one _) (by unfold maxLen; omega) (by omega) HL.out.size (fun g1 cap1 V4 hown hgrow hg hlt => ?_)
         rw [Nat.zero_add] at hown ⊢
         have HL' := hide (HL.out.grown hgrow HL.out.size (fun k hk => by injection hk with hk; have := (F_b0.out.lt b0 rfl).1; omega))
         have HC' := hide (HCC.out.grown hgrow HCC.out.size (fun k hk => by injection hk with hk; have := (F_b0.out.lt b0 rfl).1; have := HBw.out.size; omega))
         replace F_bs := hide (F_bs.out.grown hgrow (fun e => by injection e with e; have := N_b0_bs.out; omega))
         have N_g1_bs : Hid (g1 ≠ bs) := hide (by have := L_bs.out; have := N_b0_bs.out; omega)
         replace L_bs : Hid (bs < V4.heap.size) := hide (by have := L_bs.out; have := hgrow.size; omega)
         clear N_b0_bs
         replace F_tk := hide (F_tk.out.grown hgrow (fun e => by injection e with e; have := N_b0_tk.out; omega))
         have N_g1_tk : Hid (g1 ≠ tk) := hide (by have := L_tk.out; have := N_b0_tk.out; omega)
         replace L_tk : Hid (tk < V4.heap.size) := hide (by have := L_tk.out; have := hgrow.size; omega)
         clear N_b0_tk
         have F_g1 : Hid (V4.ownsRow wc.heap.size 39 3 (.slice (some ⟨g1, 0, none⟩) k cap1) k ((l.take k).flatMap tcells)) := hide (by simpa using hown)
         have L_g1 : Hid (g1 < V4.heap.size) := hide hlt
         clear HL HCC hown hgrow hg hlt F_b0 L_b0
         have HL := hide HL'.out
         have HCC := hide HC'.out
         clear HL' HC'
         refine hK _ _ ⟨later_of HL.out, ?_⟩
         simp only [Act.put, List.setIfInBounds_toArray, List.set_cons_succ, List.set_cons_zero]
         refine wpAnyS_only 10 (by kernel_rfl) (by simp; rfl) rfl rfl (fun K hK => ?_)
         refine wp_append_at (.tmp 65) (.tmp 67) 24 rfl wc.heap.size 39 i0 _ 3 24 Tryz.underlying24 Hi.out Hz.out.1 Hz.out.2.1 Hz.out.2.2 rfl (by decide) g1 k cap1 ((l.take k).flatMap tcells) rfl F_g1.out ⟨bs, 0, none⟩ 1 1 (tcells (p0, p1, s2)) rfl rfl (fun j u hu => by rw [Addr.add_lit, Nat.zero_add]; exact F_bs.out.2.1 j u hu) (fun u hu => tcells_one [(p0, p1, s2)] u (by simpa using hu)) (by unfold maxLen; omega) (by omega) HL.out.size (fun g2 cap2 V5 hown hgrow hg hlt => ?_)
         have HL' := hide (HL.out.grown hgrow HL.out.size (fun k hk => by injection hk with hk; have := (F_g1.out.lt g1 rfl).1; omega))
         have HC' := hide (HCC.out.grown hgrow HCC.out.size (fun k hk => by injection hk with hk; have := (F_g1.out.lt g1 rfl).1; have := HBw.out.size; omega))
         replace F_tk := hide (F_tk.out.grown hgrow (fun e => by injection e with e; have := N_g1_tk.out; omega))
         have N_g2_tk : Hid (g2 ≠ tk) := hide (by have := L_tk.out; have := N_g1_tk.out; omega)
         replace L_tk : Hid (tk < V5.heap.size) := hide (by have := L_tk.out; have := hgrow.size; omega)
         clear N_g1_tk
         have F_g2 : Hid (V5.ownsRow wc.heap.size 39 3 (.slice (some ⟨g2, 0, none⟩) (k + 1) cap2) (k + 1) ((l.take k).flatMap tcells ++ tcells (p0, p1, s2))) := hide (by simpa using hown)
         have L_g2 : Hid (g2 < V5.heap.size) := hide hlt
         clear HL HCC hown hgrow hg hlt F_g1 L_g1 N_g1_bs F_bs L_bs
         have HL := hide HL'.out
         have HCC := hide HC'.out
         clear HL' HC'
         refine hK _ _ ⟨later_of HL.out, ?_⟩
         simp only [Act.put, List.setIfInBounds_toArray, List.set_cons_succ, List.set_cons_zero]
         refine wpAnyS_only 15 (by kernel_rfl) (by simp; rfl) rfl rfl (fun K hK => ?_)
         refine wp_append_at (.tmp 68) (.tmp 72) 24 rfl wc.heap.size 39 i0 _ 3 24 Tryz.underlying24 Hi.out Hz.out.1 Hz.out.2.1 Hz.out.2.2 rfl (by decide) g2 (k + 1) cap2 ((l.take k).flatMap tcells ++ tcells (p0, p1, s2)) rfl F_g2.out ad (n - k) (c - k) ((l.drop k).flatMap tcells) rfl HDL.out (HDR.out V5 HCC.out) (tcells_one _) (by unfold maxLen; omega) (by omega) HL.out.size (fun g3 cap3 V6 hown hgrow hg hlt => ?_)
         have HL' := hide (HL.out.grown hgrow HL.out.size (fun k hk => by injection hk with hk; have := (F_g2.out.lt g2 rfl).1; omega))
         have HC' := hide (HCC.out.grown hgrow HCC.out.size (fun k hk => by injection hk with hk; have := (F_g2.out.lt g2 rfl).1; have := HBw.out.size; omega))
         replace F_tk := hide (F_tk.out.grown hgrow (fun e => by injection e with e; have := N_g2_tk.out; omega))
         have N_g3_tk : Hid (g3 ≠ tk) := hide (by have := L_tk.out; have := N_g2_tk.out; omega)
         replace L_tk : Hid (tk < V6.heap.size) := hide (by have := L_tk.out; have := hgrow.size; omega)
         clear N_g2_tk
         rw [show k + 1 + (n - k) = n + 1 by omega] at hown ⊢
         have F_g3 : Hid (V6.ownsRow wc.heap.size 39 3 (.slice (some ⟨g3, 0, none⟩) (n + 1) cap3) (n + 1) ((insL l k (p0, p1, s2)).flatMap tcells)) := hide (by simpa [insL] using hown)
         have L_g3 : Hid (g3 < V6.heap.size) := hide hlt
         clear HL HCC hown hgrow hg hlt F_g2 L_g2
         have HL := hide HL'.out
         have HCC := hide HC'.out
         clear HL' HC'
         refine hK _ _ ⟨later_of HL.out, ?_⟩
         simp only [Act.put, List.setIfInBounds_toArray, List.set_cons_succ, List.set_cons_zero]
         refine wpAnyS_only 16 (by kernel_rfl) (by simp; rfl) rfl rfl (fun K hK => ?_)
         go_wp2_with fail
         refine ⟨later_of HL.out, ?_⟩
         refine wpAnyS_only 18 (by kernel_rfl) (by simp; rfl) rfl rfl (fun K hK => ?_)
         have t0 := F_tk.out.2.1 0 _ rfl
         have t1 := F_tk.out.2.1 1 _ rfl
         have u0 := F_tk.out.free 0
         have u1 := F_tk.out.free 1
         go_wp2_with fail
         have HL9 : Hid (Below wc.heap.size wc ((V6.setCell ⟨tk, 0, none⟩ (.int .i64 (k0 : Int))).setCell ⟨tk, 1, none⟩ (.slice (some ⟨g3, 0, none⟩) (n + 1) cap3))) := hide ((HL.out.setCell (by exact HTK.out) _).setCell (by exact HTK.out) _)
         refine ⟨later_of HL9.out, ?_⟩
         refine wpAnyH_done (by kernel_rfl) ?_ _
         go_wp2_with fail
         go_meet
         have hne : ∀ b, (Value.slice (some ⟨g3, 0, none⟩) (n + 1) cap3).ownBlock = some b → some b ≠ some tk := fun b hb e => by simp [Value.ownBlock] at hb; injection e with e; have := N_g3_tk.out; omega
         exact ⟨tk, g3, cap3, rfl, hide ((F_tk.out.set (k := 0) (by simp) _).set (k := 1) (by simp) _), hide (own_kept (own_kept F_g3.out (grown_set (g := tk) _ rfl) hne) (grown_set (g := tk) _ rfl) hne), HL9⟩
       ·
        go_wp2_with fail
        have HL' : Hid (Below wc.heap.size wc (V1.alloc (.cells #[.int .i64 p0, .int .i64 p1, .int .i64 s2] 39))) := hide (below_alloc HL.out _)
        have HC' : Hid (Below w.heap.size w (V1.alloc (.cells #[.int .i64 p0, .int .i64 p1, .int .i64 s2] 39))) := hide (below_alloc HCC.out _)
        refine ⟨later_of HL'.out, ?_⟩
        replace F_tk := hide (F_tk.out.alloc (.cells #[.int .i64 p0, .int .i64 p1, .int .i64 s2] 39))
        replace L_tk : Hid (tk < (V1.alloc (.cells #[.int .i64 p0, .int .i64 p1, .int .i64 s2] 39)).heap.size) := hide (by have := L_tk.out; simp; omega)
        have F_bs := hide (Row.new V1 #[.int .i64 p0, .int .i64 p1, .int .i64 s2] 39)
        have L_bs : Hid (V1.heap.size < (V1.alloc (.cells #[.int .i64 p0, .int .i64 p1, .int .i64 s2] 39)).heap.size) := hide (by simp)
        clear HL HCC
        have HL := hide HL'.out
        have HCC := hide HC'.out
        clear HL' HC'
        generalize (V1.alloc (.cells #[.int .i64 p0, .int .i64 p1, .int .i64 s2] 39)) = V2 at *
        generalize V1.heap.size = bs at *
        refine wpAnyS_only 2 (by kernel_rfl) (by simp; rfl) rfl rfl (fun K hK => ?_)
        go_wp2_with fail
        have HL' : Hid (Below wc.heap.size wc (V2.alloc (.cells #[] 39))) := hide (below_alloc HL.out _)
        have HC' : Hid (Below w.heap.size w (V2.alloc (.cells #[] 39))) := hide (below_alloc HCC.out _)
        refine ⟨later_of HL'.out, ?_⟩
        replace F_bs := hide (F_bs.out.alloc (.cells #[] 39))
        have N_b0_bs : Hid (V2.heap.size ≠ bs) := hide (by have := L_bs.out; omega)
        replace L_bs : Hid (bs < (V2.alloc (.cells #[] 39)).heap.size) := hide (by have := L_bs.out; simp; omega)
        replace F_tk := hide (F_tk.out.alloc (.cells #[] 39))
        have N_b0_tk : Hid (V2.heap.size ≠ tk) := hide (by have := L_tk.out; omega)
        replace L_tk : Hid (tk < (V2.alloc (.cells #[] 39)).heap.size) := hide (by have := L_tk.out; simp; omega)
        have F_b0 : Hid ((V2.alloc (.cells #[] 39)).ownsRow wc.heap.size 39 3 (.slice (some ⟨V2.heap.size, 0, none⟩) 0 0) 0 []) := hide (World.ownsRow_made V2 #[] 0 HL.out.size (Nat.zero_le _) rfl)
        have L_b0 : Hid (V2.heap.size < (V2.alloc (.cells #[] 39)).heap.size) := hide (by simp)
        clear HL HCC
        have HL := hide HL'.out
        have HCC := hide HC'.out
        clear HL' HC'
        generalize (V2.alloc (.cells #[] 39)) = V3 at *
        generalize V2.heap.size = b0 at *
        refine wpAnyS_only 7 (by kernel_rfl) (by simp; rfl) rfl rfl (fun K hK => ?_)
        refine wp_append_at (.tmp 60) (.tmp 64) 24 rfl wc.heap.size 39 i0 _ 3 24 Tryz.underlying24 Hi.out Hz.out.1 Hz.out.2.1 Hz.out.2.2 rfl (by decide) b0 0 0 [] rfl F_b0.out ⟨b, off, none⟩ k c ((l.take k).flatMap tcells) rfl HTL.out (HTR.out V3 HCC.out) (tcells_one _) (by unfold maxLen; omega) (by omega) HL.out.size (fun g1 cap1 V4 hown hgrow hg hlt => ?_)
        rw [Nat.zero_add] at hown ⊢
        have HL' := hide (HL.out.grown hgrow HL.out.size (fun k hk => by injection hk with hk; have := (F_b0.out.lt b0 rfl).1; omega))
        have HC' := hide (HCC.out.grown hgrow HCC.out.size (fun k hk => by injection hk with hk; have := (F_b0.out.lt b0 rfl).1; have := HBw.out.size; omega))
        replace F_bs := hide (F_bs.out.grown hgrow (fun e => by injection e with e; have := N_b0_bs.out; omega))
        have N_g1_bs : Hid (g1 ≠ bs) := hide (by have := L_bs.out; have := N_b0_bs.out; omega)
        replace L_bs : Hid (bs < V4.heap.size) := hide (by have := L_bs.out; have := hgrow.size; omega)
        clear N_b0_bs
        replace F_tk := hide (F_tk.out.grown hgrow (fun e => by injection e with e; have := N_b0_tk.out; omega))
        have N_g1_tk : Hid (g1 ≠ tk) := hide (by have := L_tk.out; have := N_b0_tk.out; omega)
        replace L_tk : Hid (tk < V4.heap.size) := hide (by have := L_tk.out; have := hgrow.size; omega)
        clear N_b0_tk
        have F_g1 : Hid (V4.ownsRow wc.heap.size 39 3 (.slice (some ⟨g1, 0, none⟩) k cap1) k ((l.take k).flatMap tcells)) := hide (by simpa using hown)
        have L_g1 : Hid (g1 < V4.heap.size) := hide hlt
        clear HL HCC hown hgrow hg hlt F_b0 L_b0
        have HL := hide HL'.out
        have HCC := hide HC'.out
        clear HL' HC'
        refine hK _ _ ⟨later_of HL.out, ?_⟩
        simp only [Act.put, List.setIfInBounds_toArray, List.set_cons_succ, List.set_cons_zero]
        refine wpAnyS_only 10 (by kernel_rfl) (by simp; rfl) rfl rfl (fun K hK => ?_)
        refine wp_append_at (.tmp 65) (.tmp 67) 24 rfl wc.heap.size 39 i0 _ 3 24 Tryz.underlying24 Hi.out Hz.out.1 Hz.out.2.1 Hz.out.2.2 rfl (by decide) g1 k cap1 ((l.take k).flatMap tcells) rfl F_g1.out ⟨bs, 0, none⟩ 1 1 (tcells (p0, p1, s2)) rfl rfl (fun j u hu => by rw [Addr.add_lit, Nat.zero_add]; exact F_bs.out.2.1 j u hu) (fun u hu => tcells_one [(p0, p1, s2)] u (by simpa using hu)) (by unfold maxLen; omega) (by omega) HL.out.size (fun g2 cap2 V5 hown hgrow hg hlt => ?_)
        have HL' := hide (HL.out.grown hgrow HL.out.size (fun k hk => by injection hk with hk; have := (F_g1.out.lt g1 rfl).1; omega))
        have HC' := hide (HCC.out.grown hgrow HCC.out.size (fun k hk => by injection hk with hk; have := (F_g1.out.lt g1 rfl).1; have := HBw.out.size; omega))
        replace F_tk := hide (F_tk.out.grown hgrow (fun e => by injection e with e; have := N_g1_tk.out; omega))
        have N_g2_tk : Hid (g2 ≠ tk) := hide (by have := L_tk.out; have := N_g1_tk.out; omega)
        replace L_tk : Hid (tk < V5.heap.size) := hide (by have := L_tk.out; have := hgrow.size; omega)
        clear N_g1_tk
        have F_g2 : Hid (V5.ownsRow wc.heap.size 39 3 (.slice (some ⟨g2, 0, none⟩) (k + 1) cap2) (k + 1) ((l.take k).flatMap tcells ++ tcells (p0, p1, s2))) := hide (by simpa using hown)
        have L_g2 : Hid (g2 < V5.heap.size) := hide hlt
        clear HL HCC hown hgrow hg hlt F_g1 L_g1 N_g1_bs F_bs L_bs
        have HL := hide HL'.out
        have HCC := hide HC'.out
        clear HL' HC'
        refine hK _ _ ⟨later_of HL.out, ?_⟩
        simp only [Act.put, List.setIfInBounds_toArray, List.set_cons_succ, List.set_cons_zero]
        refine wpAnyS_only 15 (by kernel_rfl) (by simp; rfl) rfl rfl (fun K hK => ?_)
        refine wp_append_at (.tmp 68) (.tmp 72) 24 rfl wc.heap.size 39 i0 _ 3 24 Tryz.underlying24 Hi.out Hz.out.1 Hz.out.2.1 Hz.out.2.2 rfl (by decide) g2 (k + 1) cap2 ((l.take k).flatMap tcells ++ tcells (p0, p1, s2)) rfl F_g2.out ad (n - k) (c - k) ((l.drop k).flatMap tcells) rfl HDL.out (HDR.out V5 HCC.out) (tcells_one _) (by unfold maxLen; omega) (by omega) HL.out.size (fun g3 cap3 V6 hown hgrow hg hlt => ?_)
        have HL' := hide (HL.out.grown hgrow HL.out.size (fun k hk => by injection hk with hk; have := (F_g2.out.lt g2 rfl).1; omega))
        have HC' := hide (HCC.out.grown hgrow HCC.out.size (fun k hk => by injection hk with hk; have := (F_g2.out.lt g2 rfl).1; have := HBw.out.size; omega))
        replace F_tk := hide (F_tk.out.grown hgrow (fun e => by injection e with e; have := N_g2_tk.out; omega))
        have N_g3_tk : Hid (g3 ≠ tk) := hide (by have := L_tk.out; have := N_g2_tk.out; omega)
        replace L_tk : Hid (tk < V6.heap.size) := hide (by have := L_tk.out; have := hgrow.size; omega)
        clear N_g2_tk
        rw [show k + 1 + (n - k) = n + 1 by omega] at hown ⊢
        have F_g3 : Hid (V6.ownsRow wc.heap.size 39 3 (.slice (some ⟨g3, 0, none⟩) (n + 1) cap3) (n + 1) ((insL l k (p0, p1, s2)).flatMap tcells)) := hide (by simpa [insL] using hown)
        have L_g3 : Hid (g3 < V6.heap.size) := hide hlt
        clear HL HCC hown hgrow hg hlt F_g2 L_g2
        have HL := hide HL'.out
        have HCC := hide HC'.out
        clear HL' HC'
        refine hK _ _ ⟨later_of HL.out, ?_⟩
        simp only [Act.put, List.setIfInBounds_toArray, List.set_cons_succ, List.set_cons_zero]
        refine wpAnyS_only 16 (by kernel_rfl) (by simp; rfl) rfl rfl (fun K hK => ?_)
        go_wp2_with fail
        refine ⟨later_of HL.out, ?_⟩
        refine wpAnyS_only 18 (by kernel_rfl) (by simp; rfl) rfl rfl (fun K hK => ?_)
        have t0 := F_tk.out.2.1 0 _ rfl
        have t1 := F_tk.out.2.1 1 _ rfl
        have u0 := F_tk.out.free 0
        have u1 := F_tk.out.free 1
        go_wp2_with fail
        have HL9 : Hid (Below wc.heap.size wc ((V6.setCell ⟨tk, 0, none⟩ (.int .i64 (k0 : Int))).setCell ⟨tk, 1, none⟩ (.slice (some ⟨g3, 0, none⟩) (n + 1) cap3))) := hide ((HL.out.setCell (by exact HTK.out) _).setCell (by exact HTK.out) _)
        refine ⟨later_of HL9.out, ?_⟩
        refine wpAnyH_done (by kernel_rfl) ?_ _
        go_wp2_with fail
        go_meet
        have hne : ∀ b, (Value.slice (some ⟨g3, 0, none⟩) (n + 1) cap3).ownBlock = some b → some b ≠ some tk := fun b hb e => by simp [Value.ownBlock] at hb; injection e with e; have := N_g3_tk.out; omega
        exact ⟨tk, g3, cap3, rfl, hide ((F_tk.out.set (k := 0) (by simp) _).set (k := 1) (by simp) _), hide (own_kept (own_kept F_g3.out (grown_set (g := tk) _ rfl) hne) (grown_set (g := tk) _ rfl) hne), HL9⟩
    clear HX
    obtain ⟨tk, g3, c3, rfl, HT8, HO, HB6⟩ := hcut
    have HGlt := hide HG.out.1
    replace HW := hide (below_step HW.out HB6.out)
    replace HF := hide (HF.out.below HB6.out)
    replace HG := hide (HG.out.below HB6.out)
    clear HB6
    have t0 := HT8.out.2.1 0 _ rfl
    have t1 := HT8.out.2.1 1 _ rfl
    have tz := HT8.out.1
    have HIL := hide (show n + 1 = (insL l k (p0, p1, s2)).length by rw [insL_length HSR.out.1]; have := Hn.out; omega)
    have QG := hide (fun W h => toGood_any (k0 : Int) (some ⟨g3, 0, none⟩) (n + 1) c3 (insL l k (p0, p1, s2)) W HIL.out (by unfold maxLen; omega) h)
    have HTI := hide (town_ins HTB.out HFT2.out HFN2.out HSR.out)
    rw [HTI.out] at QG
    go_wp2_with fail
    refine (QG.out _ (own_rd HO.out)).mono ?_
    rintro e w6 ⟨rfl, hq⟩
    clear t0 t1 tz QG
    have HLT : Hid (∀ b, (Value.slice (some ⟨g3, 0, none⟩) (n + 1) c3).ownBlock = some b → w.heap.size + 1 + 1 < b) := hide (fun b hb => by have h1 := (HO.out.lt b hb).1; have := HGlt.out; omega)
    replace HO := hide (own_below (own_le (B' := w.heap.size) HO.out (by have := HGlt.out; omega)) hq)
    replace HT8 := hide (HT8.out.below hq)
    replace HW := hide (below_step HW.out hq)
    replace HG := hide (HG.out.below hq)
    clear hq
    by_cases h40 : l.length < 40
    ·
     have HE := hide (show adsOk k0 l (s0, s1, s2) = true by rw [adsOk, HTB.out, HFT.out, decide_eq_true (show stFind l (s0, s1, s2).1 (s0, s1, s2).2.1 < 0 from HFN.out), decide_eq_true h40]; rfl)
     rw [decide_eq_true h40]
     have t0 := HT8.out.2.1 0 _ rfl
     have t1 := HT8.out.2.1 1 _ rfl
     have tz := HT8.out.1
     have e0 := HG.out.2.1 0 _ rfl
     have e1 := HG.out.2.1 1 _ rfl
     have f0 := HG.out.free 0
     have f1 := HG.out.free 1
     have HKP : Hid (∀ (W : World) (o : Nat) (u : Value), W.ownsRow w.heap.size 39 3 (.slice (some ⟨g3, 0, none⟩) (n + 1) c3) (n + 1) ((insL l k (p0, p1, s2)).flatMap tcells) → (W.setCell ⟨w.heap.size + 1 + 1, o, none⟩ u).ownsRow w.heap.size 39 3 (.slice (some ⟨g3, 0, none⟩) (n + 1) c3) (n + 1) ((insL l k (p0, p1, s2)).flatMap tcells)) := hide (fun W o u h => own_kept h (grown_set (g := w.heap.size + 1 + 1) u rfl) (fun b hb e => by injection e with e; have := HLT.out b hb; omega))
     clear h40
     go_wp2
     exact bodyPost_ret (v := .tuple #[.agg #[.int .i64 (k0 : Int), .slice (some ⟨g3, 0, none⟩) (n + 1) c3], .bool true]) (by simp [results, Tryz.results19, go_sem, *]) rfl (AdsPost.yes (n := n + 1) HE.out (by rw [HTM.out]; exact HSR.out) (by have := Hn.out; omega) (by rw [HTM.out]; exact HKP.out _ _ _ (HKP.out _ _ _ HO.out)) ((HW.out.setCell (by simp; omega) _).setCell (by simp; omega) _))
    ·
     have HE := hide (show adsOk k0 l (s0, s1, s2) = false by rw [adsOk, decide_eq_false h40, Bool.and_false])
     rw [decide_eq_false h40]
     clear h40
     have e0 := HG.out.2.1 0 _ rfl
     have e1 := HG.out.2.1 1 _ rfl
     have f0 := HG.out.free 0
     have f1 := HG.out.free 1
     go_wp2
     exact bodyPost_ret (v := .tuple #[.agg #[.int .i64 0, .slice none 0 0], .bool false]) (by simp [results, Tryz.results19, go_sem, *]) rfl (AdsPost.no HE.out ((HW.out.setCell (by simp; omega) _).setCell (by simp; omega) _))
end Go.Proofs.YtbhnaakknfienaaGreatDoor

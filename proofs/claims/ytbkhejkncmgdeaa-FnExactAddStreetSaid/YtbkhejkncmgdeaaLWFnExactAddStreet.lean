/- The law FnExactAddStreet: what the law's call returns. -/
import Derived.Test.YtbkhejkncmgdeaaLawI
import Derived.Test.YtbkhejkncmgdeaaAstB
import Derived.Test.YtbkhejkncmgdeaaRegionsE
import Derived.Test.YtbkhejkncmgdeaaTownV
namespace Go.Proofs.Ytbkhejkncmgdeaa
open Go.RowKit
set_option linter.unusedVariables false

theorem adsL_length (nd : Int) (l : List StT) (s : StT) : (adsL nd l s).length ≤ 1048576 := by
  unfold adsL
  split
  · rename_i h
    simp only [adsOk, Bool.and_eq_true, decide_eq_true_eq] at h
    have h1 := congrArg List.length (List.takeWhile_append_dropWhile (p := fun x => befB x (turnT s)) (l := l))
    rw [List.length_append] at h1
    simp [putT]
    omega
  · simp


set_option maxRecDepth 100000 in
set_option maxHeartbeats 4000000 in
theorem FnExactAddStreet_walk (nd : Int) (A : Option Addr) (n c : Nat) (l : List (Int × Int × Int)) (s0 s1 s2 : Int) (w : World) (_ : (Lit.int .i64 nd).wf = true) (hn : n = l.length) (hnc : n ≤ c) (hc : c ≤ maxLen) (hr : Rd w A (l.flatMap tcells)) :
    Calls Try.prog 3 #[.agg #[.int .i64 nd, .slice A n c], .agg #[.int .i64 s0, .int .i64 s1, .int .i64 s2]] w fun e w' => e = .returned (.bool true) ∧ Below w.heap.size w w' := by
  have Hn := hide hn
  have HR := hide hr
  have hnm : n ≤ maxLen := Nat.le_trans hnc hc
  clear hn hr
  have HRL : Hid ((adsL nd l (s0, s1, s2)).length ≤ 1048576) := hide (adsL_length nd l (s0, s1, s2))
  by_cases hm : n ≤ 1048576
  · have sz := fun W => szTown_any nd A n c 1048576 W hnm (by omega) (by omega)
    rw [szStreet_pos hm] at sz
    have SZ := hide sz
    clear hnc hc sz
    go_enter Try.func3, Try.ntmps3
    go_wp2_with fail
    refine (SZ.out _).mono ?_
    rintro e w0 ⟨rfl, hq⟩
    have hb : Below w.heap.size w w0 := below_step (below_alloc (below_alloc (Below.refl _ _) (.cells #[.int .i64 nd, .slice A n c] 24)) (.cells #[.int .i64 s0, .int .i64 s1, .int .i64 s2] 26)) hq
    have HS0 := hide hb.size
    have HW : Hid (Below w.heap.size w w0) := hide (hb)
    obtain ⟨a0, a1⟩ := cell_new2 w (.int .i64 nd) (.slice A n c) 24
    have HBS := hide (Row.new (w.alloc (.cells #[.int .i64 nd, .slice A n c] 24)) #[.int .i64 s0, .int .i64 s1, .int .i64 s2] 26)
    replace a0 := cell_on a0 (below_alloc (Below.refl _ _) (.cells #[.int .i64 s0, .int .i64 s1, .int .i64 s2] 26))
    replace a0 := cell_on a0 hq
    replace a1 := cell_on a1 (below_alloc (Below.refl _ _) (.cells #[.int .i64 s0, .int .i64 s1, .int .i64 s2] 26))
    replace a1 := cell_on a1 hq
    replace HBS := hide (HBS.out.below hq)
    rw [show (w.alloc (.cells #[.int .i64 nd, .slice A n c] 24)).heap.size = w.heap.size + 1 by simp] at HBS
    have b0 := HBS.out.2.1 0 _ rfl
    have b1 := HBS.out.2.1 1 _ rfl
    have b2 := HBS.out.2.1 2 _ rfl
    have HLa : Hid (w.heap.size < w0.heap.size) := hide (World.block_lt_of_cell? w0 _ a0)
    have HLb : Hid (w.heap.size + 1 < w0.heap.size) := hide HBS.out.1
    clear hb hq SZ HBS
    go_upto_region 5 with fail
    go_cut [6, 7] (fun sa sb wx => ∃ (tb kk : Nat) (AA : Option Addr), sa = .pointer (some ⟨tb, 0, none⟩) ∧ sb = .bool (adsOk nd l (s0, s1, s2)) ∧ Hid (Row wx tb [.int .i64 (adsN nd l (s0, s1, s2)), .slice AA (adsL nd l (s0, s1, s2)).length kk]) ∧ Hid (wx.ownsRow w0.heap.size 34 3 (.slice AA (adsL nd l (s0, s1, s2)).length kk) (adsL nd l (s0, s1, s2)).length ((adsL nd l (s0, s1, s2)).flatMap tcells)) ∧ Hid (w0.heap.size ≤ tb ∧ ∀ q, (Value.slice AA (adsL nd l (s0, s1, s2)).length kk).ownBlock = some q → q ≠ tb) ∧ Hid (Below w0.heap.size w0 wx))
    case first => as_aux_lemma =>
      have z0 := World.block_lt_of_cell? w0 _ a0
      have z1 := World.block_lt_of_cell? w0 _ a1
      have z2 := World.block_lt_of_cell? w0 _ b0
      have z3 := World.block_lt_of_cell? w0 _ b1
      have z4 := World.block_lt_of_cell? w0 _ b2
      dsimp only at z0 z1 z2 z3 z4
      go_wp2_with fail
      refine wpAnyS_start (fun w' => ∃ n : Later w0, w' = n.w) (n := 11) (by kernel_rfl) rfl rfl ?_
      refine wpAnyS_take_all [0, 2] 9 rfl (by kernel_rfl) (by intro c a d v w h; cases d <;> exact h) (by kernel_rfl) (by simp; rfl) rfl (later_drew _) ?_
      repeat (go_big_quiet_step (fail))
      refine wpQuiet_nil ?_
      clear z0 z1 z2 z3 z4 a0 a1 b0 b1 b2
      have HL : Hid (Below w0.heap.size w0 w0.drew) := hide (Below.refl _ _).drew
      have HRI := hide (HR.out.below (below_step HW.out HL.out))
      generalize w0.drew = V0 at *
      refine wpAnyS_two 1 8 (by kernel_rfl) (by simp; rfl) (by simp; rfl) rfl rfl rfl rfl (fun K hK => ?_) (fun K hK => ?_)
      · go_wp2_with fail
        refine (toTown_ex nd A n c l _ Hn.out hm (HR.out.below (below_step HW.out HL.out))).mono ?_
        rintro e V1 ⟨⟨g1, rfl, -, -, hr⟩, hq⟩
        clear HRI
        have HRI := hide hr.rd
        replace HL := hide (below_step HL.out hq)
        clear hq
        go_wp2_with fail
        refine ⟨later_of HL.out, ?_⟩
        refine wpAnyS_two 3 8 (by kernel_rfl) (by simp; rfl) (by simp; rfl) rfl rfl rfl rfl (fun K hK => ?_) (fun K hK => ?_)
        · go_wp2_with fail
          refine (toStreet_any s0 s1 s2 _).mono ?_
          rintro e V2 ⟨rfl, hq⟩
          replace HRI := hide (HRI.out.below hq)
          replace HL := hide (below_step HL.out hq)
          clear hq
          go_wp2_with fail
          refine ⟨later_of HL.out, ?_⟩
          refine wpAnyS_two 4 8 (by kernel_rfl) (by simp; rfl) (by simp; rfl) rfl rfl rfl rfl (fun K hK => ?_) (fun K hK => ?_)
          · go_wp2_with fail
            refine (specAddStreet_any nd _ n n l s0 s1 s2 _ Hn.out (Nat.le_refl _) hnm HRI.out ⟨_, _, rfl⟩).mono ?_
            rintro e V3 ⟨⟨v, rfl, ho⟩, hq⟩
            have HLQ : Hid (∀ q, v.ownBlock = some q → V2.heap.size ≤ q ∧ q < V3.heap.size) := hide (fun q hq => ⟨(ho.lt q hq).1, (ho.lt q hq).2⟩)
            have HO : Hid (V3.ownsRow w0.heap.size 34 3 v (adsL nd l (s0, s1, s2)).length ((adsL nd l (s0, s1, s2)).flatMap tcells)) := hide (own_le ho HL.out.size)
            obtain ⟨AA, kk, hv, -⟩ := own_open HO.out
            subst hv
            clear ho HRI
            replace HL := hide (below_step HL.out hq)
            clear hq
            go_wp2_with fail
            refine ⟨later_of HL.out, ?_⟩
            refine wpAnyS_take_allE [5, 6, 7] 3 rfl (by kernel_rfl) (by intro c a d v w h; cases d <;> exact h) (by kernel_rfl) (by simp; rfl) rfl (later_of HL.out) ?_
            repeat (go_big_quiet_step (fail))
            refine wpQuiet_nil ?_
            refine wpAnyS_only 8 (by kernel_rfl) (by simp; rfl) rfl rfl (fun K hK => ?_)
            go_wp2_with fail
            have HL' : Hid (Below w0.heap.size w0 (V3.alloc (.cells #[.int .i64 0, .slice none 0 0] 30))) := hide (below_alloc HL.out _)
            have HT := hide (Row.new V3 #[.int .i64 0, .slice none 0 0] 30)
            have HTB : Hid (w0.heap.size ≤ V3.heap.size) := hide HL.out.size
            replace HO := hide (World.ownsRow.alloc HO.out (.cells #[.int .i64 0, .slice none 0 0] 30))
            have HNQ : Hid (∀ q, (Value.slice AA (adsL nd l (s0, s1, s2)).length kk).ownBlock = some q → q ≠ V3.heap.size) := hide (fun q hq => by have := HLQ.out q hq; omega)
            refine ⟨later_of HL'.out, ?_⟩
            clear HL
            have HL := hide HL'.out
            clear HL'
            have HTL : Hid (V3.heap.size < (V3.alloc (.cells #[.int .i64 0, .slice none 0 0] 30)).heap.size) := hide (by simp)
            generalize V3.alloc (.cells #[.int .i64 0, .slice none 0 0] 30) = V4 at *
            generalize V3.heap.size = tb at *
            refine wpAnyS_only 9 (by kernel_rfl) (by simp; rfl) rfl rfl (fun K hK => ?_)
            have t0 := HT.out.2.1 0 _ rfl
            have t1 := HT.out.2.1 1 _ rfl
            have u0 := HT.out.free 0
            have u1 := HT.out.free 1
            have tz := HT.out.1
            go_wp2_with fail
            have HL9 : Hid (Below w0.heap.size w0 ((V4.setCell ⟨tb, 0, none⟩ (.int .i64 (adsN nd l (s0, s1, s2)))).setCell ⟨tb, 1, none⟩ (.slice AA (adsL nd l (s0, s1, s2)).length kk))) := hide ((HL.out.setCell (by exact HTB.out) _).setCell (by exact HTB.out) _)
            have HNE := hide (fun (b : Nat) (hb : (Value.slice AA (adsL nd l (s0, s1, s2)).length kk).ownBlock = some b) (e : some b = some tb) => HNQ.out b hb (by injection e))
            have HT9 := hide ((HT.out.set (k := 0) (by simp) (.int .i64 (adsN nd l (s0, s1, s2)))).set (k := 1) (by simp) (.slice AA (adsL nd l (s0, s1, s2)).length kk))
            have HO9 := hide (own_kept (own_kept HO.out (grown_set (g := tb) (p := ⟨tb, 0, none⟩) (.int .i64 (adsN nd l (s0, s1, s2))) rfl) HNE.out) (grown_set (g := tb) (p := ⟨tb, 1, none⟩) (.slice AA (adsL nd l (s0, s1, s2)).length kk) rfl) HNE.out)
            clear t0 t1 u0 u1 tz
            refine ⟨later_of HL9.out, ?_⟩
            refine wpAnyS_take_allE [10] 0 rfl (by kernel_rfl) (by intro c a d v w h; cases d <;> exact h) (by kernel_rfl) (by simp; rfl) rfl (later_of HL9.out) ?_
            repeat (go_big_quiet_step (fail))
            refine wpQuiet_nil ?_
            refine wpAnyH_done (by kernel_rfl) ?_ _
            go_wp2_with fail
            go_meet
            exact ⟨tb, kk, AA, rfl, rfl, HT9, HO9, hide ⟨HTB.out, HNQ.out⟩, HL9⟩
          · go_wp2_with fail
            have HL' : Hid (Below w0.heap.size w0 (V2.alloc (.cells #[.int .i64 0, .slice none 0 0] 30))) := hide (below_alloc HL.out _)
            have HT := hide (Row.new V2 #[.int .i64 0, .slice none 0 0] 30)
            have HTB : Hid (w0.heap.size ≤ V2.heap.size) := hide HL.out.size
            replace HRI := hide (HRI.out.alloc (.cells #[.int .i64 0, .slice none 0 0] 30))
            refine ⟨later_of HL'.out, ?_⟩
            clear HL
            have HL := hide HL'.out
            clear HL'
            have HTL : Hid (V2.heap.size < (V2.alloc (.cells #[.int .i64 0, .slice none 0 0] 30)).heap.size) := hide (by simp)
            generalize V2.alloc (.cells #[.int .i64 0, .slice none 0 0] 30) = V3 at *
            generalize V2.heap.size = tb at *
            refine wpAnyS_only 4 (by kernel_rfl) (by simp; rfl) rfl rfl (fun K hK => ?_)
            go_wp2_with fail
            refine (specAddStreet_any nd _ n n l s0 s1 s2 _ Hn.out (Nat.le_refl _) hnm HRI.out ⟨_, _, rfl⟩).mono ?_
            rintro e V4 ⟨⟨v, rfl, ho⟩, hq⟩
            have HLQ : Hid (∀ q, v.ownBlock = some q → V3.heap.size ≤ q ∧ q < V4.heap.size) := hide (fun q hq => ⟨(ho.lt q hq).1, (ho.lt q hq).2⟩)
            have HNQ : Hid (∀ q, v.ownBlock = some q → q ≠ tb) := hide (fun q hq => by have := HLQ.out q hq; have := HTL.out; omega)
            have HO : Hid (V4.ownsRow w0.heap.size 34 3 v (adsL nd l (s0, s1, s2)).length ((adsL nd l (s0, s1, s2)).flatMap tcells)) := hide (own_le ho HL.out.size)
            obtain ⟨AA, kk, hv, -⟩ := own_open HO.out
            subst hv
            clear ho HRI
            replace HTL : Hid (tb < V4.heap.size) := hide (Nat.lt_of_lt_of_le HTL.out hq.size)
            replace HT := hide (HT.out.below hq)
            replace HL := hide (below_step HL.out hq)
            clear hq
            go_wp2_with fail
            refine ⟨later_of HL.out, ?_⟩
            refine wpAnyS_take_allE [5, 6, 7] 2 rfl (by kernel_rfl) (by intro c a d v w h; cases d <;> exact h) (by kernel_rfl) (by simp; rfl) rfl (later_of HL.out) ?_
            repeat (go_big_quiet_step (fail))
            refine wpQuiet_nil ?_
            refine wpAnyS_only 9 (by kernel_rfl) (by simp; rfl) rfl rfl (fun K hK => ?_)
            have t0 := HT.out.2.1 0 _ rfl
            have t1 := HT.out.2.1 1 _ rfl
            have u0 := HT.out.free 0
            have u1 := HT.out.free 1
            have tz := HT.out.1
            go_wp2_with fail
            have HL9 : Hid (Below w0.heap.size w0 ((V4.setCell ⟨tb, 0, none⟩ (.int .i64 (adsN nd l (s0, s1, s2)))).setCell ⟨tb, 1, none⟩ (.slice AA (adsL nd l (s0, s1, s2)).length kk))) := hide ((HL.out.setCell (by exact HTB.out) _).setCell (by exact HTB.out) _)
            have HNE := hide (fun (b : Nat) (hb : (Value.slice AA (adsL nd l (s0, s1, s2)).length kk).ownBlock = some b) (e : some b = some tb) => HNQ.out b hb (by injection e))
            have HT9 := hide ((HT.out.set (k := 0) (by simp) (.int .i64 (adsN nd l (s0, s1, s2)))).set (k := 1) (by simp) (.slice AA (adsL nd l (s0, s1, s2)).length kk))
            have HO9 := hide (own_kept (own_kept HO.out (grown_set (g := tb) (p := ⟨tb, 0, none⟩) (.int .i64 (adsN nd l (s0, s1, s2))) rfl) HNE.out) (grown_set (g := tb) (p := ⟨tb, 1, none⟩) (.slice AA (adsL nd l (s0, s1, s2)).length kk) rfl) HNE.out)
            clear t0 t1 u0 u1 tz
            refine ⟨later_of HL9.out, ?_⟩
            refine wpAnyS_take_allE [10] 0 rfl (by kernel_rfl) (by intro c a d v w h; cases d <;> exact h) (by kernel_rfl) (by simp; rfl) rfl (later_of HL9.out) ?_
            repeat (go_big_quiet_step (fail))
            refine wpQuiet_nil ?_
            refine wpAnyH_done (by kernel_rfl) ?_ _
            go_wp2_with fail
            go_meet
            exact ⟨tb, kk, AA, rfl, rfl, HT9, HO9, hide ⟨HTB.out, HNQ.out⟩, HL9⟩
        · go_wp2_with fail
          have HL' : Hid (Below w0.heap.size w0 (V1.alloc (.cells #[.int .i64 0, .slice none 0 0] 30))) := hide (below_alloc HL.out _)
          have HT := hide (Row.new V1 #[.int .i64 0, .slice none 0 0] 30)
          have HTB : Hid (w0.heap.size ≤ V1.heap.size) := hide HL.out.size
          replace HRI := hide (HRI.out.alloc (.cells #[.int .i64 0, .slice none 0 0] 30))
          refine ⟨later_of HL'.out, ?_⟩
          clear HL
          have HL := hide HL'.out
          clear HL'
          have HTL : Hid (V1.heap.size < (V1.alloc (.cells #[.int .i64 0, .slice none 0 0] 30)).heap.size) := hide (by simp)
          generalize V1.alloc (.cells #[.int .i64 0, .slice none 0 0] 30) = V2 at *
          generalize V1.heap.size = tb at *
          refine wpAnyS_only 3 (by kernel_rfl) (by simp; rfl) rfl rfl (fun K hK => ?_)
          go_wp2_with fail
          refine (toStreet_any s0 s1 s2 _).mono ?_
          rintro e V3 ⟨rfl, hq⟩
          replace HRI := hide (HRI.out.below hq)
          replace HTL : Hid (tb < V3.heap.size) := hide (Nat.lt_of_lt_of_le HTL.out hq.size)
          replace HT := hide (HT.out.below hq)
          replace HL := hide (below_step HL.out hq)
          clear hq
          go_wp2_with fail
          refine ⟨later_of HL.out, ?_⟩
          refine wpAnyS_only 4 (by kernel_rfl) (by simp; rfl) rfl rfl (fun K hK => ?_)
          go_wp2_with fail
          refine (specAddStreet_any nd _ n n l s0 s1 s2 _ Hn.out (Nat.le_refl _) hnm HRI.out ⟨_, _, rfl⟩).mono ?_
          rintro e V4 ⟨⟨v, rfl, ho⟩, hq⟩
          have HLQ : Hid (∀ q, v.ownBlock = some q → V3.heap.size ≤ q ∧ q < V4.heap.size) := hide (fun q hq => ⟨(ho.lt q hq).1, (ho.lt q hq).2⟩)
          have HNQ : Hid (∀ q, v.ownBlock = some q → q ≠ tb) := hide (fun q hq => by have := HLQ.out q hq; have := HTL.out; omega)
          have HO : Hid (V4.ownsRow w0.heap.size 34 3 v (adsL nd l (s0, s1, s2)).length ((adsL nd l (s0, s1, s2)).flatMap tcells)) := hide (own_le ho HL.out.size)
          obtain ⟨AA, kk, hv, -⟩ := own_open HO.out
          subst hv
          clear ho HRI
          replace HTL : Hid (tb < V4.heap.size) := hide (Nat.lt_of_lt_of_le HTL.out hq.size)
          replace HT := hide (HT.out.below hq)
          replace HL := hide (below_step HL.out hq)
          clear hq
          go_wp2_with fail
          refine ⟨later_of HL.out, ?_⟩
          refine wpAnyS_take_allE [5, 6, 7] 2 rfl (by kernel_rfl) (by intro c a d v w h; cases d <;> exact h) (by kernel_rfl) (by simp; rfl) rfl (later_of HL.out) ?_
          repeat (go_big_quiet_step (fail))
          refine wpQuiet_nil ?_
          refine wpAnyS_only 9 (by kernel_rfl) (by simp; rfl) rfl rfl (fun K hK => ?_)
          have t0 := HT.out.2.1 0 _ rfl
          have t1 := HT.out.2.1 1 _ rfl
          have u0 := HT.out.free 0
          have u1 := HT.out.free 1
          have tz := HT.out.1
          go_wp2_with fail
          have HL9 : Hid (Below w0.heap.size w0 ((V4.setCell ⟨tb, 0, none⟩ (.int .i64 (adsN nd l (s0, s1, s2)))).setCell ⟨tb, 1, none⟩ (.slice AA (adsL nd l (s0, s1, s2)).length kk))) := hide ((HL.out.setCell (by exact HTB.out) _).setCell (by exact HTB.out) _)
          have HNE := hide (fun (b : Nat) (hb : (Value.slice AA (adsL nd l (s0, s1, s2)).length kk).ownBlock = some b) (e : some b = some tb) => HNQ.out b hb (by injection e))
          have HT9 := hide ((HT.out.set (k := 0) (by simp) (.int .i64 (adsN nd l (s0, s1, s2)))).set (k := 1) (by simp) (.slice AA (adsL nd l (s0, s1, s2)).length kk))
          have HO9 := hide (own_kept (own_kept HO.out (grown_set (g := tb) (p := ⟨tb, 0, none⟩) (.int .i64 (adsN nd l (s0, s1, s2))) rfl) HNE.out) (grown_set (g := tb) (p := ⟨tb, 1, none⟩) (.slice AA (adsL nd l (s0, s1, s2)).length kk) rfl) HNE.out)
          clear t0 t1 u0 u1 tz
          refine ⟨later_of HL9.out, ?_⟩
          refine wpAnyS_take_allE [10] 0 rfl (by kernel_rfl) (by intro c a d v w h; cases d <;> exact h) (by kernel_rfl) (by simp; rfl) rfl (later_of HL9.out) ?_
          repeat (go_big_quiet_step (fail))
          refine wpQuiet_nil ?_
          refine wpAnyH_done (by kernel_rfl) ?_ _
          go_wp2_with fail
          go_meet
          exact ⟨tb, kk, AA, rfl, rfl, HT9, HO9, hide ⟨HTB.out, HNQ.out⟩, HL9⟩
      · go_wp2_with fail
        have HL' : Hid (Below w0.heap.size w0 (V0.alloc (.cells #[.int .i64 0, .slice none 0 0] 30))) := hide (below_alloc HL.out _)
        have HT := hide (Row.new V0 #[.int .i64 0, .slice none 0 0] 30)
        have HTB : Hid (w0.heap.size ≤ V0.heap.size) := hide HL.out.size
        replace HRI := hide (HRI.out.alloc (.cells #[.int .i64 0, .slice none 0 0] 30))
        refine ⟨later_of HL'.out, ?_⟩
        clear HL
        have HL := hide HL'.out
        clear HL'
        have HTL : Hid (V0.heap.size < (V0.alloc (.cells #[.int .i64 0, .slice none 0 0] 30)).heap.size) := hide (by simp)
        generalize V0.alloc (.cells #[.int .i64 0, .slice none 0 0] 30) = V1 at *
        generalize V0.heap.size = tb at *
        refine wpAnyS_only 1 (by kernel_rfl) (by simp; rfl) rfl rfl (fun K hK => ?_)
        go_wp2_with fail
        refine (toTown_ex nd A n c l _ Hn.out hm (HR.out.below (below_step HW.out HL.out))).mono ?_
        rintro e V2 ⟨⟨g1, rfl, -, -, hr⟩, hq⟩
        clear HRI
        have HRI := hide hr.rd
        replace HTL : Hid (tb < V2.heap.size) := hide (Nat.lt_of_lt_of_le HTL.out hq.size)
        replace HT := hide (HT.out.below hq)
        replace HL := hide (below_step HL.out hq)
        clear hq
        go_wp2_with fail
        refine ⟨later_of HL.out, ?_⟩
        refine wpAnyS_only 3 (by kernel_rfl) (by simp; rfl) rfl rfl (fun K hK => ?_)
        go_wp2_with fail
        refine (toStreet_any s0 s1 s2 _).mono ?_
        rintro e V3 ⟨rfl, hq⟩
        replace HRI := hide (HRI.out.below hq)
        replace HTL : Hid (tb < V3.heap.size) := hide (Nat.lt_of_lt_of_le HTL.out hq.size)
        replace HT := hide (HT.out.below hq)
        replace HL := hide (below_step HL.out hq)
        clear hq
        go_wp2_with fail
        refine ⟨later_of HL.out, ?_⟩
        refine wpAnyS_only 4 (by kernel_rfl) (by simp; rfl) rfl rfl (fun K hK => ?_)
        go_wp2_with fail
        refine (specAddStreet_any nd _ n n l s0 s1 s2 _ Hn.out (Nat.le_refl _) hnm HRI.out ⟨_, _, rfl⟩).mono ?_
        rintro e V4 ⟨⟨v, rfl, ho⟩, hq⟩
        have HLQ : Hid (∀ q, v.ownBlock = some q → V3.heap.size ≤ q ∧ q < V4.heap.size) := hide (fun q hq => ⟨(ho.lt q hq).1, (ho.lt q hq).2⟩)
        have HNQ : Hid (∀ q, v.ownBlock = some q → q ≠ tb) := hide (fun q hq => by have := HLQ.out q hq; have := HTL.out; omega)
        have HO : Hid (V4.ownsRow w0.heap.size 34 3 v (adsL nd l (s0, s1, s2)).length ((adsL nd l (s0, s1, s2)).flatMap tcells)) := hide (own_le ho HL.out.size)
        obtain ⟨AA, kk, hv, -⟩ := own_open HO.out
        subst hv
        clear ho HRI
        replace HTL : Hid (tb < V4.heap.size) := hide (Nat.lt_of_lt_of_le HTL.out hq.size)
        replace HT := hide (HT.out.below hq)
        replace HL := hide (below_step HL.out hq)
        clear hq
        go_wp2_with fail
        refine ⟨later_of HL.out, ?_⟩
        refine wpAnyS_take_allE [5, 6, 7] 2 rfl (by kernel_rfl) (by intro c a d v w h; cases d <;> exact h) (by kernel_rfl) (by simp; rfl) rfl (later_of HL.out) ?_
        repeat (go_big_quiet_step (fail))
        refine wpQuiet_nil ?_
        refine wpAnyS_only 9 (by kernel_rfl) (by simp; rfl) rfl rfl (fun K hK => ?_)
        have t0 := HT.out.2.1 0 _ rfl
        have t1 := HT.out.2.1 1 _ rfl
        have u0 := HT.out.free 0
        have u1 := HT.out.free 1
        have tz := HT.out.1
        go_wp2_with fail
        have HL9 : Hid (Below w0.heap.size w0 ((V4.setCell ⟨tb, 0, none⟩ (.int .i64 (adsN nd l (s0, s1, s2)))).setCell ⟨tb, 1, none⟩ (.slice AA (adsL nd l (s0, s1, s2)).length kk))) := hide ((HL.out.setCell (by exact HTB.out) _).setCell (by exact HTB.out) _)
        have HNE := hide (fun (b : Nat) (hb : (Value.slice AA (adsL nd l (s0, s1, s2)).length kk).ownBlock = some b) (e : some b = some tb) => HNQ.out b hb (by injection e))
        have HT9 := hide ((HT.out.set (k := 0) (by simp) (.int .i64 (adsN nd l (s0, s1, s2)))).set (k := 1) (by simp) (.slice AA (adsL nd l (s0, s1, s2)).length kk))
        have HO9 := hide (own_kept (own_kept HO.out (grown_set (g := tb) (p := ⟨tb, 0, none⟩) (.int .i64 (adsN nd l (s0, s1, s2))) rfl) HNE.out) (grown_set (g := tb) (p := ⟨tb, 1, none⟩) (.slice AA (adsL nd l (s0, s1, s2)).length kk) rfl) HNE.out)
        clear t0 t1 u0 u1 tz
        refine ⟨later_of HL9.out, ?_⟩
        refine wpAnyS_take_allE [10] 0 rfl (by kernel_rfl) (by intro c a d v w h; cases d <;> exact h) (by kernel_rfl) (by simp; rfl) rfl (later_of HL9.out) ?_
        repeat (go_big_quiet_step (fail))
        refine wpQuiet_nil ?_
        refine wpAnyH_done (by kernel_rfl) ?_ _
        go_wp2_with fail
        go_meet
        exact ⟨tb, kk, AA, rfl, rfl, HT9, HO9, hide ⟨HTB.out, HNQ.out⟩, HL9⟩
    obtain ⟨tb1, k1, A1, rfl, rfl, HT1, HO1, HN1, HBx⟩ := hcut
    rename World => w1
    have hb : Below w0.heap.size w0 w1 := HBx.out
    have HS1 := hide hb.size
    replace a0 := cell_on a0 hb
    replace a1 := cell_on a1 hb
    replace b0 := cell_on b0 hb
    replace b1 := cell_on b1 hb
    replace b2 := cell_on b2 hb
    replace HW : Hid (Below w.heap.size w w1) := hide (below_step HW.out hb)
    have e10 := HT1.out.2.1 0 _ rfl
    have e11 := HT1.out.2.1 1 _ rfl
    have HLe1 : Hid (w0.heap.size ≤ tb1 ∧ tb1 < w1.heap.size) := hide ⟨HN1.out.1, HT1.out.1⟩
    have HL1 : Hid (∀ q, (Value.slice A1 (adsL nd l (s0, s1, s2)).length k1).ownBlock = some q → w0.heap.size ≤ q ∧ q < w1.heap.size) := hide (fun q hq => ⟨(HO1.out.lt q hq).1, (HO1.out.lt q hq).2⟩)
    clear HBx HT1 hb
    go_wp2_with fail
    refine (toTown_ex nd A n c l _ Hn.out hm (HR.out.below HW.out)).mono ?_
    rintro e w2 ⟨⟨gx, rfl, hgl, hgu, hr⟩, hq⟩
    have hb : Below w1.heap.size w1 w2 := hq
    have HS2 := hide hb.size
    replace a0 := cell_on a0 hb
    replace a1 := cell_on a1 hb
    replace b0 := cell_on b0 hb
    replace b1 := cell_on b1 hb
    replace b2 := cell_on b2 hb
    replace e10 := cell_on e10 hb
    replace e11 := cell_on e11 hb
    replace HO1 := hide (own_below HO1.out hb)
    replace HW : Hid (Below w.heap.size w w2) := hide (below_step HW.out hb)
    have HX := hide hr
    have HLX : Hid (w1.heap.size ≤ gx ∧ gx < w2.heap.size) := hide ⟨hgl, hgu⟩
    clear hb hq hr hgl hgu
    go_upto_region 7 with fail
    have hb : Below w2.heap.size w2 (w2.alloc (.cells #[.int .i64 nd, .slice (some ⟨gx, 0, none⟩) n n] 30)) := below_alloc (Below.refl _ _) _
    have HS3 := hide hb.size
    replace a0 := cell_on a0 hb
    replace a1 := cell_on a1 hb
    replace b0 := cell_on b0 hb
    replace b1 := cell_on b1 hb
    replace b2 := cell_on b2 hb
    replace e10 := cell_on e10 hb
    replace e11 := cell_on e11 hb
    replace HX := hide (HX.out.below hb)
    replace HO1 := hide (own_below HO1.out hb)
    replace HW : Hid (Below w.heap.size w (w2.alloc (.cells #[.int .i64 nd, .slice (some ⟨gx, 0, none⟩) n n] 30))) := hide (below_step HW.out hb)
    obtain ⟨d0, d1⟩ := cell_new2 w2 (.int .i64 nd) (.slice (some ⟨gx, 0, none⟩) n n) 30
    have HLd : Hid (w2.heap.size < (w2.alloc (.cells #[.int .i64 nd, .slice (some ⟨gx, 0, none⟩) n n] 30)).heap.size) := hide (World.block_lt_of_cell? _ _ d0)
    clear hb
    generalize w2.alloc (.cells #[.int .i64 nd, .slice (some ⟨gx, 0, none⟩) n n] 30) = w3 at *
    go_upto_region 7 with fail
    go_cut [9, 10] (fun sa sb wx => ∃ (tb kk : Nat) (AA : Option Addr), sa = .pointer (some ⟨tb, 0, none⟩) ∧ sb = .bool (adsOk nd l (s0, s1, s2)) ∧ Hid (Row wx tb [.int .i64 (adsN nd l (s0, s1, s2)), .slice AA (adsL nd l (s0, s1, s2)).length kk]) ∧ Hid (wx.ownsRow w3.heap.size 34 3 (.slice AA (adsL nd l (s0, s1, s2)).length kk) (adsL nd l (s0, s1, s2)).length ((adsL nd l (s0, s1, s2)).flatMap tcells)) ∧ Hid (w3.heap.size ≤ tb ∧ ∀ q, (Value.slice AA (adsL nd l (s0, s1, s2)).length kk).ownBlock = some q → q ≠ tb) ∧ Hid (Below w3.heap.size w3 wx))
    case first => as_aux_lemma =>
      have z0 := World.block_lt_of_cell? w3 _ a0
      have z1 := World.block_lt_of_cell? w3 _ a1
      have z2 := World.block_lt_of_cell? w3 _ b0
      have z3 := World.block_lt_of_cell? w3 _ b1
      have z4 := World.block_lt_of_cell? w3 _ b2
      have z5 := World.block_lt_of_cell? w3 _ e10
      have z6 := World.block_lt_of_cell? w3 _ e11
      have z7 := World.block_lt_of_cell? w3 _ d0
      have z8 := World.block_lt_of_cell? w3 _ d1
      dsimp only at z0 z1 z2 z3 z4 z5 z6 z7 z8
      go_wp2_with fail
      refine wpAnyS_start (fun w' => ∃ n : Later w3, w' = n.w) (n := 10) (by kernel_rfl) rfl rfl ?_
      refine wpAnyS_take_all [0, 1] 8 rfl (by kernel_rfl) (by intro c a d v w h; cases d <;> exact h) (by kernel_rfl) (by simp; rfl) rfl (later_drew _) ?_
      repeat (go_big_quiet_step (fail))
      refine wpQuiet_nil ?_
      clear z0 z1 z2 z3 z4 z5 z6 z7 z8 a0 a1 b0 b1 b2 e10 e11 d0 d1
      have HL : Hid (Below w3.heap.size w3 w3.drew) := hide (Below.refl _ _).drew
      have HRI := hide (HX.out.rd.below HL.out)
      generalize w3.drew = V0 at *
      refine wpAnyS_two 2 7 (by kernel_rfl) (by simp; rfl) (by simp; rfl) rfl rfl rfl rfl (fun K hK => ?_) (fun K hK => ?_)
      · go_wp2_with fail
        refine (toStreet_any s0 s1 s2 _).mono ?_
        rintro e V1 ⟨rfl, hq⟩
        replace HRI := hide (HRI.out.below hq)
        replace HL := hide (below_step HL.out hq)
        clear hq
        go_wp2_with fail
        refine ⟨later_of HL.out, ?_⟩
        refine wpAnyS_two 3 7 (by kernel_rfl) (by simp; rfl) (by simp; rfl) rfl rfl rfl rfl (fun K hK => ?_) (fun K hK => ?_)
        · go_wp2_with fail
          refine (implAddStreet_any nd _ n n l s0 s1 s2 _ Hn.out (Nat.le_refl _) hnm HRI.out ⟨_, _, rfl⟩).mono ?_
          rintro e V2 ⟨⟨v, rfl, ho⟩, hq⟩
          have HLQ : Hid (∀ q, v.ownBlock = some q → V1.heap.size ≤ q ∧ q < V2.heap.size) := hide (fun q hq => ⟨(ho.lt q hq).1, (ho.lt q hq).2⟩)
          have HO : Hid (V2.ownsRow w3.heap.size 34 3 v (adsL nd l (s0, s1, s2)).length ((adsL nd l (s0, s1, s2)).flatMap tcells)) := hide (own_le ho HL.out.size)
          obtain ⟨AA, kk, hv, -⟩ := own_open HO.out
          subst hv
          clear ho HRI
          replace HL := hide (below_step HL.out hq)
          clear hq
          go_wp2_with fail
          refine ⟨later_of HL.out, ?_⟩
          refine wpAnyS_take_allE [4, 5, 6] 3 rfl (by kernel_rfl) (by intro c a d v w h; cases d <;> exact h) (by kernel_rfl) (by simp; rfl) rfl (later_of HL.out) ?_
          repeat (go_big_quiet_step (fail))
          refine wpQuiet_nil ?_
          refine wpAnyS_only 7 (by kernel_rfl) (by simp; rfl) rfl rfl (fun K hK => ?_)
          go_wp2_with fail
          have HL' : Hid (Below w3.heap.size w3 (V2.alloc (.cells #[.int .i64 0, .slice none 0 0] 30))) := hide (below_alloc HL.out _)
          have HT := hide (Row.new V2 #[.int .i64 0, .slice none 0 0] 30)
          have HTB : Hid (w3.heap.size ≤ V2.heap.size) := hide HL.out.size
          replace HO := hide (World.ownsRow.alloc HO.out (.cells #[.int .i64 0, .slice none 0 0] 30))
          have HNQ : Hid (∀ q, (Value.slice AA (adsL nd l (s0, s1, s2)).length kk).ownBlock = some q → q ≠ V2.heap.size) := hide (fun q hq => by have := HLQ.out q hq; omega)
          refine ⟨later_of HL'.out, ?_⟩
          clear HL
          have HL := hide HL'.out
          clear HL'
          have HTL : Hid (V2.heap.size < (V2.alloc (.cells #[.int .i64 0, .slice none 0 0] 30)).heap.size) := hide (by simp)
          generalize V2.alloc (.cells #[.int .i64 0, .slice none 0 0] 30) = V3 at *
          generalize V2.heap.size = tb at *
          refine wpAnyS_only 8 (by kernel_rfl) (by simp; rfl) rfl rfl (fun K hK => ?_)
          have t0 := HT.out.2.1 0 _ rfl
          have t1 := HT.out.2.1 1 _ rfl
          have u0 := HT.out.free 0
          have u1 := HT.out.free 1
          have tz := HT.out.1
          go_wp2_with fail
          have HL9 : Hid (Below w3.heap.size w3 ((V3.setCell ⟨tb, 0, none⟩ (.int .i64 (adsN nd l (s0, s1, s2)))).setCell ⟨tb, 1, none⟩ (.slice AA (adsL nd l (s0, s1, s2)).length kk))) := hide ((HL.out.setCell (by exact HTB.out) _).setCell (by exact HTB.out) _)
          have HNE := hide (fun (b : Nat) (hb : (Value.slice AA (adsL nd l (s0, s1, s2)).length kk).ownBlock = some b) (e : some b = some tb) => HNQ.out b hb (by injection e))
          have HT9 := hide ((HT.out.set (k := 0) (by simp) (.int .i64 (adsN nd l (s0, s1, s2)))).set (k := 1) (by simp) (.slice AA (adsL nd l (s0, s1, s2)).length kk))
          have HO9 := hide (own_kept (own_kept HO.out (grown_set (g := tb) (p := ⟨tb, 0, none⟩) (.int .i64 (adsN nd l (s0, s1, s2))) rfl) HNE.out) (grown_set (g := tb) (p := ⟨tb, 1, none⟩) (.slice AA (adsL nd l (s0, s1, s2)).length kk) rfl) HNE.out)
          clear t0 t1 u0 u1 tz
          refine ⟨later_of HL9.out, ?_⟩
          refine wpAnyS_take_allE [9] 0 rfl (by kernel_rfl) (by intro c a d v w h; cases d <;> exact h) (by kernel_rfl) (by simp; rfl) rfl (later_of HL9.out) ?_
          repeat (go_big_quiet_step (fail))
          refine wpQuiet_nil ?_
          refine wpAnyH_done (by kernel_rfl) ?_ _
          go_wp2_with fail
          go_meet
          exact ⟨tb, kk, AA, rfl, rfl, HT9, HO9, hide ⟨HTB.out, HNQ.out⟩, HL9⟩
        · go_wp2_with fail
          have HL' : Hid (Below w3.heap.size w3 (V1.alloc (.cells #[.int .i64 0, .slice none 0 0] 30))) := hide (below_alloc HL.out _)
          have HT := hide (Row.new V1 #[.int .i64 0, .slice none 0 0] 30)
          have HTB : Hid (w3.heap.size ≤ V1.heap.size) := hide HL.out.size
          replace HRI := hide (HRI.out.alloc (.cells #[.int .i64 0, .slice none 0 0] 30))
          refine ⟨later_of HL'.out, ?_⟩
          clear HL
          have HL := hide HL'.out
          clear HL'
          have HTL : Hid (V1.heap.size < (V1.alloc (.cells #[.int .i64 0, .slice none 0 0] 30)).heap.size) := hide (by simp)
          generalize V1.alloc (.cells #[.int .i64 0, .slice none 0 0] 30) = V2 at *
          generalize V1.heap.size = tb at *
          refine wpAnyS_only 3 (by kernel_rfl) (by simp; rfl) rfl rfl (fun K hK => ?_)
          go_wp2_with fail
          refine (implAddStreet_any nd _ n n l s0 s1 s2 _ Hn.out (Nat.le_refl _) hnm HRI.out ⟨_, _, rfl⟩).mono ?_
          rintro e V3 ⟨⟨v, rfl, ho⟩, hq⟩
          have HLQ : Hid (∀ q, v.ownBlock = some q → V2.heap.size ≤ q ∧ q < V3.heap.size) := hide (fun q hq => ⟨(ho.lt q hq).1, (ho.lt q hq).2⟩)
          have HNQ : Hid (∀ q, v.ownBlock = some q → q ≠ tb) := hide (fun q hq => by have := HLQ.out q hq; have := HTL.out; omega)
          have HO : Hid (V3.ownsRow w3.heap.size 34 3 v (adsL nd l (s0, s1, s2)).length ((adsL nd l (s0, s1, s2)).flatMap tcells)) := hide (own_le ho HL.out.size)
          obtain ⟨AA, kk, hv, -⟩ := own_open HO.out
          subst hv
          clear ho HRI
          replace HTL : Hid (tb < V3.heap.size) := hide (Nat.lt_of_lt_of_le HTL.out hq.size)
          replace HT := hide (HT.out.below hq)
          replace HL := hide (below_step HL.out hq)
          clear hq
          go_wp2_with fail
          refine ⟨later_of HL.out, ?_⟩
          refine wpAnyS_take_allE [4, 5, 6] 2 rfl (by kernel_rfl) (by intro c a d v w h; cases d <;> exact h) (by kernel_rfl) (by simp; rfl) rfl (later_of HL.out) ?_
          repeat (go_big_quiet_step (fail))
          refine wpQuiet_nil ?_
          refine wpAnyS_only 8 (by kernel_rfl) (by simp; rfl) rfl rfl (fun K hK => ?_)
          have t0 := HT.out.2.1 0 _ rfl
          have t1 := HT.out.2.1 1 _ rfl
          have u0 := HT.out.free 0
          have u1 := HT.out.free 1
          have tz := HT.out.1
          go_wp2_with fail
          have HL9 : Hid (Below w3.heap.size w3 ((V3.setCell ⟨tb, 0, none⟩ (.int .i64 (adsN nd l (s0, s1, s2)))).setCell ⟨tb, 1, none⟩ (.slice AA (adsL nd l (s0, s1, s2)).length kk))) := hide ((HL.out.setCell (by exact HTB.out) _).setCell (by exact HTB.out) _)
          have HNE := hide (fun (b : Nat) (hb : (Value.slice AA (adsL nd l (s0, s1, s2)).length kk).ownBlock = some b) (e : some b = some tb) => HNQ.out b hb (by injection e))
          have HT9 := hide ((HT.out.set (k := 0) (by simp) (.int .i64 (adsN nd l (s0, s1, s2)))).set (k := 1) (by simp) (.slice AA (adsL nd l (s0, s1, s2)).length kk))
          have HO9 := hide (own_kept (own_kept HO.out (grown_set (g := tb) (p := ⟨tb, 0, none⟩) (.int .i64 (adsN nd l (s0, s1, s2))) rfl) HNE.out) (grown_set (g := tb) (p := ⟨tb, 1, none⟩) (.slice AA (adsL nd l (s0, s1, s2)).length kk) rfl) HNE.out)
          clear t0 t1 u0 u1 tz
          refine ⟨later_of HL9.out, ?_⟩
          refine wpAnyS_take_allE [9] 0 rfl (by kernel_rfl) (by intro c a d v w h; cases d <;> exact h) (by kernel_rfl) (by simp; rfl) rfl (later_of HL9.out) ?_
          repeat (go_big_quiet_step (fail))
          refine wpQuiet_nil ?_
          refine wpAnyH_done (by kernel_rfl) ?_ _
          go_wp2_with fail
          go_meet
          exact ⟨tb, kk, AA, rfl, rfl, HT9, HO9, hide ⟨HTB.out, HNQ.out⟩, HL9⟩
      · go_wp2_with fail
        have HL' : Hid (Below w3.heap.size w3 (V0.alloc (.cells #[.int .i64 0, .slice none 0 0] 30))) := hide (below_alloc HL.out _)
        have HT := hide (Row.new V0 #[.int .i64 0, .slice none 0 0] 30)
        have HTB : Hid (w3.heap.size ≤ V0.heap.size) := hide HL.out.size
        replace HRI := hide (HRI.out.alloc (.cells #[.int .i64 0, .slice none 0 0] 30))
        refine ⟨later_of HL'.out, ?_⟩
        clear HL
        have HL := hide HL'.out
        clear HL'
        have HTL : Hid (V0.heap.size < (V0.alloc (.cells #[.int .i64 0, .slice none 0 0] 30)).heap.size) := hide (by simp)
        generalize V0.alloc (.cells #[.int .i64 0, .slice none 0 0] 30) = V1 at *
        generalize V0.heap.size = tb at *
        refine wpAnyS_only 2 (by kernel_rfl) (by simp; rfl) rfl rfl (fun K hK => ?_)
        go_wp2_with fail
        refine (toStreet_any s0 s1 s2 _).mono ?_
        rintro e V2 ⟨rfl, hq⟩
        replace HRI := hide (HRI.out.below hq)
        replace HTL : Hid (tb < V2.heap.size) := hide (Nat.lt_of_lt_of_le HTL.out hq.size)
        replace HT := hide (HT.out.below hq)
        replace HL := hide (below_step HL.out hq)
        clear hq
        go_wp2_with fail
        refine ⟨later_of HL.out, ?_⟩
        refine wpAnyS_only 3 (by kernel_rfl) (by simp; rfl) rfl rfl (fun K hK => ?_)
        go_wp2_with fail
        refine (implAddStreet_any nd _ n n l s0 s1 s2 _ Hn.out (Nat.le_refl _) hnm HRI.out ⟨_, _, rfl⟩).mono ?_
        rintro e V3 ⟨⟨v, rfl, ho⟩, hq⟩
        have HLQ : Hid (∀ q, v.ownBlock = some q → V2.heap.size ≤ q ∧ q < V3.heap.size) := hide (fun q hq => ⟨(ho.lt q hq).1, (ho.lt q hq).2⟩)
        have HNQ : Hid (∀ q, v.ownBlock = some q → q ≠ tb) := hide (fun q hq => by have := HLQ.out q hq; have := HTL.out; omega)
        have HO : Hid (V3.ownsRow w3.heap.size 34 3 v (adsL nd l (s0, s1, s2)).length ((adsL nd l (s0, s1, s2)).flatMap tcells)) := hide (own_le ho HL.out.size)
        obtain ⟨AA, kk, hv, -⟩ := own_open HO.out
        subst hv
        clear ho HRI
        replace HTL : Hid (tb < V3.heap.size) := hide (Nat.lt_of_lt_of_le HTL.out hq.size)
        replace HT := hide (HT.out.below hq)
        replace HL := hide (below_step HL.out hq)
        clear hq
        go_wp2_with fail
        refine ⟨later_of HL.out, ?_⟩
        refine wpAnyS_take_allE [4, 5, 6] 2 rfl (by kernel_rfl) (by intro c a d v w h; cases d <;> exact h) (by kernel_rfl) (by simp; rfl) rfl (later_of HL.out) ?_
        repeat (go_big_quiet_step (fail))
        refine wpQuiet_nil ?_
        refine wpAnyS_only 8 (by kernel_rfl) (by simp; rfl) rfl rfl (fun K hK => ?_)
        have t0 := HT.out.2.1 0 _ rfl
        have t1 := HT.out.2.1 1 _ rfl
        have u0 := HT.out.free 0
        have u1 := HT.out.free 1
        have tz := HT.out.1
        go_wp2_with fail
        have HL9 : Hid (Below w3.heap.size w3 ((V3.setCell ⟨tb, 0, none⟩ (.int .i64 (adsN nd l (s0, s1, s2)))).setCell ⟨tb, 1, none⟩ (.slice AA (adsL nd l (s0, s1, s2)).length kk))) := hide ((HL.out.setCell (by exact HTB.out) _).setCell (by exact HTB.out) _)
        have HNE := hide (fun (b : Nat) (hb : (Value.slice AA (adsL nd l (s0, s1, s2)).length kk).ownBlock = some b) (e : some b = some tb) => HNQ.out b hb (by injection e))
        have HT9 := hide ((HT.out.set (k := 0) (by simp) (.int .i64 (adsN nd l (s0, s1, s2)))).set (k := 1) (by simp) (.slice AA (adsL nd l (s0, s1, s2)).length kk))
        have HO9 := hide (own_kept (own_kept HO.out (grown_set (g := tb) (p := ⟨tb, 0, none⟩) (.int .i64 (adsN nd l (s0, s1, s2))) rfl) HNE.out) (grown_set (g := tb) (p := ⟨tb, 1, none⟩) (.slice AA (adsL nd l (s0, s1, s2)).length kk) rfl) HNE.out)
        clear t0 t1 u0 u1 tz
        refine ⟨later_of HL9.out, ?_⟩
        refine wpAnyS_take_allE [9] 0 rfl (by kernel_rfl) (by intro c a d v w h; cases d <;> exact h) (by kernel_rfl) (by simp; rfl) rfl (later_of HL9.out) ?_
        repeat (go_big_quiet_step (fail))
        refine wpQuiet_nil ?_
        refine wpAnyH_done (by kernel_rfl) ?_ _
        go_wp2_with fail
        go_meet
        exact ⟨tb, kk, AA, rfl, rfl, HT9, HO9, hide ⟨HTB.out, HNQ.out⟩, HL9⟩
    obtain ⟨tb2, k2, A2, rfl, rfl, HT2, HO2, HN2, HBx⟩ := hcut
    rename World => w4
    have hb : Below w3.heap.size w3 w4 := HBx.out
    have HS4 := hide hb.size
    replace a0 := cell_on a0 hb
    replace a1 := cell_on a1 hb
    replace b0 := cell_on b0 hb
    replace b1 := cell_on b1 hb
    replace b2 := cell_on b2 hb
    replace e10 := cell_on e10 hb
    replace e11 := cell_on e11 hb
    replace d0 := cell_on d0 hb
    replace d1 := cell_on d1 hb
    replace HX := hide (HX.out.below hb)
    replace HO1 := hide (own_below HO1.out hb)
    replace HW : Hid (Below w.heap.size w w4) := hide (below_step HW.out hb)
    have e20 := HT2.out.2.1 0 _ rfl
    have e21 := HT2.out.2.1 1 _ rfl
    have HLe2 : Hid (w3.heap.size ≤ tb2 ∧ tb2 < w4.heap.size) := hide ⟨HN2.out.1, HT2.out.1⟩
    have HL2 : Hid (∀ q, (Value.slice A2 (adsL nd l (s0, s1, s2)).length k2).ownBlock = some q → w3.heap.size ≤ q ∧ q < w4.heap.size) := hide (fun q hq => ⟨(HO2.out.lt q hq).1, (HO2.out.lt q hq).2⟩)
    clear HBx HT2 hb
    have zz0 := World.block_lt_of_cell? w4 _ a0
    have zz1 := World.block_lt_of_cell? w4 _ b0
    have zz2 := World.block_lt_of_cell? w4 _ e10
    have zz3 := World.block_lt_of_cell? w4 _ d0
    have zz4 := World.block_lt_of_cell? w4 _ e20
    dsimp only at zz0 zz1 zz2 zz3 zz4
    go_wp2_with fail
    clear zz0 zz1 zz2 zz3 zz4
    refine (eqTown_same (adsN nd l (s0, s1, s2)) A2 A1 _ k2 k1 (adsL nd l (s0, s1, s2)) _ rfl HRL.out (own_rd HO2.out) (own_rd HO1.out)).mono ?_
    rintro e w5 ⟨rfl, hq⟩
    have hb : Below w4.heap.size w4 w5 := hq
    have HS5 := hide hb.size
    replace a0 := cell_on a0 hb
    replace a1 := cell_on a1 hb
    replace b0 := cell_on b0 hb
    replace b1 := cell_on b1 hb
    replace b2 := cell_on b2 hb
    replace e10 := cell_on e10 hb
    replace e11 := cell_on e11 hb
    replace d0 := cell_on d0 hb
    replace d1 := cell_on d1 hb
    replace e20 := cell_on e20 hb
    replace e21 := cell_on e21 hb
    replace HX := hide (HX.out.below hb)
    replace HO1 := hide (own_below HO1.out hb)
    replace HO2 := hide (own_below HO2.out hb)
    replace HW : Hid (Below w.heap.size w w5) := hide (below_step HW.out hb)
    clear hb hq
    have HXd := hide HX.out.rd
    go_wp2_with fail
    have z0 := World.block_lt_of_cell? w5 _ a0
    have z1 := World.block_lt_of_cell? w5 _ a1
    have z2 := World.block_lt_of_cell? w5 _ b0
    have z3 := World.block_lt_of_cell? w5 _ b1
    have z4 := World.block_lt_of_cell? w5 _ b2
    have z5 := World.block_lt_of_cell? w5 _ e10
    have z6 := World.block_lt_of_cell? w5 _ e11
    have z7 := World.block_lt_of_cell? w5 _ d0
    have z8 := World.block_lt_of_cell? w5 _ d1
    have z9 := World.block_lt_of_cell? w5 _ e20
    have z10 := World.block_lt_of_cell? w5 _ e21
    dsimp only at z0 z1 z2 z3 z4 z5 z6 z7 z8 z9 z10
    refine wpAnyH_start (n := 5) (by kernel_rfl) rfl rfl ?_
    refine wpAnyH_take_all [0, 1] 3 rfl (by kernel_rfl) (by intro c a d v w h; cases d <;> exact h) (by kernel_rfl) (by simp; rfl) rfl (later_drew _) ?_
    repeat (go_big_quiet_step (fail))
    refine wpQuiet_nil ?_
    clear z0 z1 z2 z3 z4 z5 z6 z7 z8 z9 z10
    refine wpAnyH_only 2 (by kernel_rfl) (by simp; rfl) rfl rfl (later_drew _) (fun K hK => ?_)
    go_wp2_with fail
    refine (toTown_ex nd A n c l _ Hn.out hm (HR.out.below HW.out.drew)).mono ?_
    rintro e w6 ⟨⟨g2, rfl, hgl, hgu, hr⟩, hq⟩
    have hb : Below w5.heap.size w5 w6 := below_step ((Below.refl _ _).drew) hq
    have HS6 := hide hb.size
    replace a0 := cell_on a0 hb
    replace a1 := cell_on a1 hb
    replace b0 := cell_on b0 hb
    replace b1 := cell_on b1 hb
    replace b2 := cell_on b2 hb
    replace e10 := cell_on e10 hb
    replace e11 := cell_on e11 hb
    replace d0 := cell_on d0 hb
    replace d1 := cell_on d1 hb
    replace e20 := cell_on e20 hb
    replace e21 := cell_on e21 hb
    replace HX := hide (HX.out.below hb)
    replace HXd := hide (HXd.out.below hb)
    replace HO1 := hide (own_below HO1.out hb)
    replace HO2 := hide (own_below HO2.out hb)
    replace HW : Hid (Below w.heap.size w w6) := hide (below_step HW.out hb)
    have HT := hide hr.rd
    clear hgl hgu
    go_wp2_with fail
    refine ⟨hq, ?_⟩
    clear hb hq hr
    refine wpAnyH_only 3 (by kernel_rfl) (by simp; rfl) rfl rfl (later_refl _) (fun K hK => ?_)
    go_wp2_with fail
    refine (eqTown_same nd _ _ n n n l _ Hn.out hm HXd.out HT.out).mono ?_
    rintro e w7 ⟨rfl, hq⟩
    have hb : Below w6.heap.size w6 w7 := hq
    have HS7 := hide hb.size
    replace a0 := cell_on a0 hb
    replace a1 := cell_on a1 hb
    replace b0 := cell_on b0 hb
    replace b1 := cell_on b1 hb
    replace b2 := cell_on b2 hb
    replace e10 := cell_on e10 hb
    replace e11 := cell_on e11 hb
    replace d0 := cell_on d0 hb
    replace d1 := cell_on d1 hb
    replace e20 := cell_on e20 hb
    replace e21 := cell_on e21 hb
    replace HX := hide (HX.out.below hb)
    replace HXd := hide (HXd.out.below hb)
    replace HO1 := hide (own_below HO1.out hb)
    replace HO2 := hide (own_below HO2.out hb)
    replace HW : Hid (Below w.heap.size w w7) := hide (below_step HW.out hb)
    go_wp2_with fail
    refine ⟨hq, ?_⟩
    clear hb hq HT
    refine wpAnyH_only 4 (by kernel_rfl) (by simp; rfl) rfl rfl (later_refl _) (fun K hK => ?_)
    go_wp2_with fail
    refine ⟨Below.refl _ _, ?_⟩
    refine wpAnyH_done (by kernel_rfl) ?_ _
    clear HXd
    go_wp2_with fail
    refine (markTown_row nd gx n n _ 1 _ HX.out (by rw [flat_length tcells 3 (fun _ => rfl)]; have := Hn.out; omega) hm (by omega) (by omega)).mono ?_
    rintro e w8 ⟨rfl, hg⟩
    have HS8 := hide hg.size
    replace a0 := grown_cell hg a0 (fun e => by injection e with e; have := HLX.out; have := HLa.out; have := HS0.out; have := HS1.out; have := HS2.out; have := HS3.out; have := HS4.out; have := HS5.out; have := HS6.out; have := HS7.out; have := HS8.out; omega)
    replace a1 := grown_cell hg a1 (fun e => by injection e with e; have := HLX.out; have := HLa.out; have := HS0.out; have := HS1.out; have := HS2.out; have := HS3.out; have := HS4.out; have := HS5.out; have := HS6.out; have := HS7.out; have := HS8.out; omega)
    replace b0 := grown_cell hg b0 (fun e => by injection e with e; have := HLX.out; have := HLb.out; have := HS0.out; have := HS1.out; have := HS2.out; have := HS3.out; have := HS4.out; have := HS5.out; have := HS6.out; have := HS7.out; have := HS8.out; omega)
    replace b1 := grown_cell hg b1 (fun e => by injection e with e; have := HLX.out; have := HLb.out; have := HS0.out; have := HS1.out; have := HS2.out; have := HS3.out; have := HS4.out; have := HS5.out; have := HS6.out; have := HS7.out; have := HS8.out; omega)
    replace b2 := grown_cell hg b2 (fun e => by injection e with e; have := HLX.out; have := HLb.out; have := HS0.out; have := HS1.out; have := HS2.out; have := HS3.out; have := HS4.out; have := HS5.out; have := HS6.out; have := HS7.out; have := HS8.out; omega)
    replace e10 := grown_cell hg e10 (fun e => by injection e with e; have := HLX.out; have := HLe1.out; have := HS0.out; have := HS1.out; have := HS2.out; have := HS3.out; have := HS4.out; have := HS5.out; have := HS6.out; have := HS7.out; have := HS8.out; omega)
    replace e11 := grown_cell hg e11 (fun e => by injection e with e; have := HLX.out; have := HLe1.out; have := HS0.out; have := HS1.out; have := HS2.out; have := HS3.out; have := HS4.out; have := HS5.out; have := HS6.out; have := HS7.out; have := HS8.out; omega)
    replace d0 := grown_cell hg d0 (fun e => by injection e with e; have := HLX.out; have := HLd.out; have := HS0.out; have := HS1.out; have := HS2.out; have := HS3.out; have := HS4.out; have := HS5.out; have := HS6.out; have := HS7.out; have := HS8.out; omega)
    replace d1 := grown_cell hg d1 (fun e => by injection e with e; have := HLX.out; have := HLd.out; have := HS0.out; have := HS1.out; have := HS2.out; have := HS3.out; have := HS4.out; have := HS5.out; have := HS6.out; have := HS7.out; have := HS8.out; omega)
    replace e20 := grown_cell hg e20 (fun e => by injection e with e; have := HLX.out; have := HLe2.out; have := HS0.out; have := HS1.out; have := HS2.out; have := HS3.out; have := HS4.out; have := HS5.out; have := HS6.out; have := HS7.out; have := HS8.out; omega)
    replace e21 := grown_cell hg e21 (fun e => by injection e with e; have := HLX.out; have := HLe2.out; have := HS0.out; have := HS1.out; have := HS2.out; have := HS3.out; have := HS4.out; have := HS5.out; have := HS6.out; have := HS7.out; have := HS8.out; omega)
    replace HO1 := hide (own_kept HO1.out hg (fun q hq e => by injection e with e; have := HLX.out; have := HL1.out q hq; have := HS0.out; have := HS1.out; have := HS2.out; have := HS3.out; have := HS4.out; have := HS5.out; have := HS6.out; have := HS7.out; have := HS8.out; omega))
    replace HO2 := hide (own_kept HO2.out hg (fun q hq e => by injection e with e; have := HLX.out; have := HL2.out q hq; have := HS0.out; have := HS1.out; have := HS2.out; have := HS3.out; have := HS4.out; have := HS5.out; have := HS6.out; have := HS7.out; have := HS8.out; omega))
    replace HW : Hid (Below w.heap.size w w8) := hide (HW.out.grown hg HW.out.size (fun q e => by injection e with e; have := HLX.out; have := HS0.out; have := HS1.out; have := HS2.out; have := HS3.out; have := HS4.out; have := HS5.out; have := HS6.out; have := HS7.out; have := HS8.out; omega))
    clear hg HX
    have zz0 := World.block_lt_of_cell? w8 _ a0
    have zz1 := World.block_lt_of_cell? w8 _ b0
    have zz2 := World.block_lt_of_cell? w8 _ e10
    have zz3 := World.block_lt_of_cell? w8 _ d0
    have zz4 := World.block_lt_of_cell? w8 _ e20
    dsimp only at zz0 zz1 zz2 zz3 zz4
    go_wp2_with fail
    clear zz0 zz1 zz2 zz3 zz4
    refine (eqTown_same (adsN nd l (s0, s1, s2)) A2 A1 _ k2 k1 (adsL nd l (s0, s1, s2)) _ rfl HRL.out (own_rd HO2.out) (own_rd HO1.out)).mono ?_
    rintro e w9 ⟨rfl, hq⟩
    have hb : Below w8.heap.size w8 w9 := hq
    have HS9 := hide hb.size
    replace a0 := cell_on a0 hb
    replace a1 := cell_on a1 hb
    replace b0 := cell_on b0 hb
    replace b1 := cell_on b1 hb
    replace b2 := cell_on b2 hb
    replace e10 := cell_on e10 hb
    replace e11 := cell_on e11 hb
    replace d0 := cell_on d0 hb
    replace d1 := cell_on d1 hb
    replace e20 := cell_on e20 hb
    replace e21 := cell_on e21 hb
    replace HO1 := hide (own_below HO1.out hb)
    replace HO2 := hide (own_below HO2.out hb)
    replace HW : Hid (Below w.heap.size w w9) := hide (below_step HW.out hb)
    clear hb hq
    go_wp2_with fail
    refine (markTown_own (adsN nd l (s0, s1, s2)) _ _ _ _ 1 _ HO2.out HRL.out (by omega) (by omega)).mono ?_
    rintro e w10 ⟨rfl, ho, hg⟩
    have HS10 := hide hg.size
    replace a0 := grown_cell hg a0 (fun e => by have := HN2.out.2 _ e.symm; have := HL2.out _ e.symm; have := HLa.out; have := HS0.out; have := HS1.out; have := HS2.out; have := HS3.out; have := HS4.out; have := HS5.out; have := HS6.out; have := HS7.out; have := HS8.out; have := HS9.out; have := HS10.out; omega)
    replace a1 := grown_cell hg a1 (fun e => by have := HN2.out.2 _ e.symm; have := HL2.out _ e.symm; have := HLa.out; have := HS0.out; have := HS1.out; have := HS2.out; have := HS3.out; have := HS4.out; have := HS5.out; have := HS6.out; have := HS7.out; have := HS8.out; have := HS9.out; have := HS10.out; omega)
    replace b0 := grown_cell hg b0 (fun e => by have := HN2.out.2 _ e.symm; have := HL2.out _ e.symm; have := HLb.out; have := HS0.out; have := HS1.out; have := HS2.out; have := HS3.out; have := HS4.out; have := HS5.out; have := HS6.out; have := HS7.out; have := HS8.out; have := HS9.out; have := HS10.out; omega)
    replace b1 := grown_cell hg b1 (fun e => by have := HN2.out.2 _ e.symm; have := HL2.out _ e.symm; have := HLb.out; have := HS0.out; have := HS1.out; have := HS2.out; have := HS3.out; have := HS4.out; have := HS5.out; have := HS6.out; have := HS7.out; have := HS8.out; have := HS9.out; have := HS10.out; omega)
    replace b2 := grown_cell hg b2 (fun e => by have := HN2.out.2 _ e.symm; have := HL2.out _ e.symm; have := HLb.out; have := HS0.out; have := HS1.out; have := HS2.out; have := HS3.out; have := HS4.out; have := HS5.out; have := HS6.out; have := HS7.out; have := HS8.out; have := HS9.out; have := HS10.out; omega)
    replace e10 := grown_cell hg e10 (fun e => by have := HN2.out.2 _ e.symm; have := HL2.out _ e.symm; have := HLe1.out; have := HS0.out; have := HS1.out; have := HS2.out; have := HS3.out; have := HS4.out; have := HS5.out; have := HS6.out; have := HS7.out; have := HS8.out; have := HS9.out; have := HS10.out; omega)
    replace e11 := grown_cell hg e11 (fun e => by have := HN2.out.2 _ e.symm; have := HL2.out _ e.symm; have := HLe1.out; have := HS0.out; have := HS1.out; have := HS2.out; have := HS3.out; have := HS4.out; have := HS5.out; have := HS6.out; have := HS7.out; have := HS8.out; have := HS9.out; have := HS10.out; omega)
    replace d0 := grown_cell hg d0 (fun e => by have := HN2.out.2 _ e.symm; have := HL2.out _ e.symm; have := HLd.out; have := HS0.out; have := HS1.out; have := HS2.out; have := HS3.out; have := HS4.out; have := HS5.out; have := HS6.out; have := HS7.out; have := HS8.out; have := HS9.out; have := HS10.out; omega)
    replace d1 := grown_cell hg d1 (fun e => by have := HN2.out.2 _ e.symm; have := HL2.out _ e.symm; have := HLd.out; have := HS0.out; have := HS1.out; have := HS2.out; have := HS3.out; have := HS4.out; have := HS5.out; have := HS6.out; have := HS7.out; have := HS8.out; have := HS9.out; have := HS10.out; omega)
    replace e20 := grown_cell hg e20 (fun e => by have := HN2.out.2 _ e.symm; have := HL2.out _ e.symm; have := HLe2.out; have := HS0.out; have := HS1.out; have := HS2.out; have := HS3.out; have := HS4.out; have := HS5.out; have := HS6.out; have := HS7.out; have := HS8.out; have := HS9.out; have := HS10.out; omega)
    replace e21 := grown_cell hg e21 (fun e => by have := HN2.out.2 _ e.symm; have := HL2.out _ e.symm; have := HLe2.out; have := HS0.out; have := HS1.out; have := HS2.out; have := HS3.out; have := HS4.out; have := HS5.out; have := HS6.out; have := HS7.out; have := HS8.out; have := HS9.out; have := HS10.out; omega)
    replace HO1 := hide (own_kept HO1.out hg (fun q hq e => by have := HN2.out.2 _ e.symm; have := HL2.out _ e.symm; have := HL1.out q hq; have := HS0.out; have := HS1.out; have := HS2.out; have := HS3.out; have := HS4.out; have := HS5.out; have := HS6.out; have := HS7.out; have := HS8.out; have := HS9.out; have := HS10.out; omega))
    replace HW : Hid (Below w.heap.size w w10) := hide (HW.out.grown hg HW.out.size (fun q e => by have := HN2.out.2 _ e; have := HL2.out _ e; have := HS0.out; have := HS1.out; have := HS2.out; have := HS3.out; have := HS4.out; have := HS5.out; have := HS6.out; have := HS7.out; have := HS8.out; have := HS9.out; have := HS10.out; omega))
    replace HO2 := hide ho
    clear ho hg
    go_wp2_with fail
    refine (heldTown_any (adsN nd l (s0, s1, s2)) A2 _ k2 1 _ (own_rd HO2.out) HRL.out (by omega) (by omega)).mono ?_
    rintro e w11 ⟨rfl, hq⟩
    have hb : Below w10.heap.size w10 w11 := hq
    have HS11 := hide hb.size
    replace a0 := cell_on a0 hb
    replace a1 := cell_on a1 hb
    replace b0 := cell_on b0 hb
    replace b1 := cell_on b1 hb
    replace b2 := cell_on b2 hb
    replace e10 := cell_on e10 hb
    replace e11 := cell_on e11 hb
    replace d0 := cell_on d0 hb
    replace d1 := cell_on d1 hb
    replace e20 := cell_on e20 hb
    replace e21 := cell_on e21 hb
    replace HO1 := hide (own_below HO1.out hb)
    replace HO2 := hide (own_below HO2.out hb)
    replace HW : Hid (Below w.heap.size w w11) := hide (below_step HW.out hb)
    clear hb hq
    go_wp2_with fail
    go_upto_region 24 with fail
    go_cut [14, 15] (fun sa sb wx => ∃ (tb kk : Nat) (AA : Option Addr), sa = .pointer (some ⟨tb, 0, none⟩) ∧ sb = .bool (adsOk nd l (s0, s1, s2)) ∧ Hid (Row wx tb [.int .i64 (adsN nd l (s0, s1, s2)), .slice AA (adsL nd l (s0, s1, s2)).length kk]) ∧ Hid (wx.ownsRow w11.heap.size 34 3 (.slice AA (adsL nd l (s0, s1, s2)).length kk) (adsL nd l (s0, s1, s2)).length ((adsL nd l (s0, s1, s2)).flatMap tcells)) ∧ Hid (w11.heap.size ≤ tb ∧ ∀ q, (Value.slice AA (adsL nd l (s0, s1, s2)).length kk).ownBlock = some q → q ≠ tb) ∧ Hid (Below w11.heap.size w11 wx))
    case first => as_aux_lemma =>
      have z0 := World.block_lt_of_cell? w11 _ a0
      have z1 := World.block_lt_of_cell? w11 _ a1
      have z2 := World.block_lt_of_cell? w11 _ b0
      have z3 := World.block_lt_of_cell? w11 _ b1
      have z4 := World.block_lt_of_cell? w11 _ b2
      have z5 := World.block_lt_of_cell? w11 _ e10
      have z6 := World.block_lt_of_cell? w11 _ e11
      have z7 := World.block_lt_of_cell? w11 _ d0
      have z8 := World.block_lt_of_cell? w11 _ d1
      have z9 := World.block_lt_of_cell? w11 _ e20
      have z10 := World.block_lt_of_cell? w11 _ e21
      dsimp only at z0 z1 z2 z3 z4 z5 z6 z7 z8 z9 z10
      go_wp2_with fail
      refine wpAnyS_start (fun w' => ∃ n : Later w11, w' = n.w) (n := 11) (by kernel_rfl) rfl rfl ?_
      refine wpAnyS_take_all [0, 2] 9 rfl (by kernel_rfl) (by intro c a d v w h; cases d <;> exact h) (by kernel_rfl) (by simp; rfl) rfl (later_drew _) ?_
      repeat (go_big_quiet_step (fail))
      refine wpQuiet_nil ?_
      clear z0 z1 z2 z3 z4 z5 z6 z7 z8 z9 z10 a0 a1 b0 b1 b2 e10 e11 d0 d1 e20 e21
      have HL : Hid (Below w11.heap.size w11 w11.drew) := hide (Below.refl _ _).drew
      have HRI := hide (HR.out.below (below_step HW.out HL.out))
      generalize w11.drew = V0 at *
      refine wpAnyS_two 1 8 (by kernel_rfl) (by simp; rfl) (by simp; rfl) rfl rfl rfl rfl (fun K hK => ?_) (fun K hK => ?_)
      · go_wp2_with fail
        refine (toTown_ex nd A n c l _ Hn.out hm (HR.out.below (below_step HW.out HL.out))).mono ?_
        rintro e V1 ⟨⟨g1, rfl, -, -, hr⟩, hq⟩
        clear HRI
        have HRI := hide hr.rd
        replace HL := hide (below_step HL.out hq)
        clear hq
        go_wp2_with fail
        refine ⟨later_of HL.out, ?_⟩
        refine wpAnyS_two 3 8 (by kernel_rfl) (by simp; rfl) (by simp; rfl) rfl rfl rfl rfl (fun K hK => ?_) (fun K hK => ?_)
        · go_wp2_with fail
          refine (toStreet_any s0 s1 s2 _).mono ?_
          rintro e V2 ⟨rfl, hq⟩
          replace HRI := hide (HRI.out.below hq)
          replace HL := hide (below_step HL.out hq)
          clear hq
          go_wp2_with fail
          refine ⟨later_of HL.out, ?_⟩
          refine wpAnyS_two 4 8 (by kernel_rfl) (by simp; rfl) (by simp; rfl) rfl rfl rfl rfl (fun K hK => ?_) (fun K hK => ?_)
          · go_wp2_with fail
            refine (implAddStreet_any nd _ n n l s0 s1 s2 _ Hn.out (Nat.le_refl _) hnm HRI.out ⟨_, _, rfl⟩).mono ?_
            rintro e V3 ⟨⟨v, rfl, ho⟩, hq⟩
            have HLQ : Hid (∀ q, v.ownBlock = some q → V2.heap.size ≤ q ∧ q < V3.heap.size) := hide (fun q hq => ⟨(ho.lt q hq).1, (ho.lt q hq).2⟩)
            have HO : Hid (V3.ownsRow w11.heap.size 34 3 v (adsL nd l (s0, s1, s2)).length ((adsL nd l (s0, s1, s2)).flatMap tcells)) := hide (own_le ho HL.out.size)
            obtain ⟨AA, kk, hv, -⟩ := own_open HO.out
            subst hv
            clear ho HRI
            replace HL := hide (below_step HL.out hq)
            clear hq
            go_wp2_with fail
            refine ⟨later_of HL.out, ?_⟩
            refine wpAnyS_take_allE [5, 6, 7] 3 rfl (by kernel_rfl) (by intro c a d v w h; cases d <;> exact h) (by kernel_rfl) (by simp; rfl) rfl (later_of HL.out) ?_
            repeat (go_big_quiet_step (fail))
            refine wpQuiet_nil ?_
            refine wpAnyS_only 8 (by kernel_rfl) (by simp; rfl) rfl rfl (fun K hK => ?_)
            go_wp2_with fail
            have HL' : Hid (Below w11.heap.size w11 (V3.alloc (.cells #[.int .i64 0, .slice none 0 0] 30))) := hide (below_alloc HL.out _)
            have HT := hide (Row.new V3 #[.int .i64 0, .slice none 0 0] 30)
            have HTB : Hid (w11.heap.size ≤ V3.heap.size) := hide HL.out.size
            replace HO := hide (World.ownsRow.alloc HO.out (.cells #[.int .i64 0, .slice none 0 0] 30))
            have HNQ : Hid (∀ q, (Value.slice AA (adsL nd l (s0, s1, s2)).length kk).ownBlock = some q → q ≠ V3.heap.size) := hide (fun q hq => by have := HLQ.out q hq; omega)
            refine ⟨later_of HL'.out, ?_⟩
            clear HL
            have HL := hide HL'.out
            clear HL'
            have HTL : Hid (V3.heap.size < (V3.alloc (.cells #[.int .i64 0, .slice none 0 0] 30)).heap.size) := hide (by simp)
            generalize V3.alloc (.cells #[.int .i64 0, .slice none 0 0] 30) = V4 at *
            generalize V3.heap.size = tb at *
            refine wpAnyS_only 9 (by kernel_rfl) (by simp; rfl) rfl rfl (fun K hK => ?_)
            have t0 := HT.out.2.1 0 _ rfl
            have t1 := HT.out.2.1 1 _ rfl
            have u0 := HT.out.free 0
            have u1 := HT.out.free 1
            have tz := HT.out.1
            go_wp2_with fail
            have HL9 : Hid (Below w11.heap.size w11 ((V4.setCell ⟨tb, 0, none⟩ (.int .i64 (adsN nd l (s0, s1, s2)))).setCell ⟨tb, 1, none⟩ (.slice AA (adsL nd l (s0, s1, s2)).length kk))) := hide ((HL.out.setCell (by exact HTB.out) _).setCell (by exact HTB.out) _)
            have HNE := hide (fun (b : Nat) (hb : (Value.slice AA (adsL nd l (s0, s1, s2)).length kk).ownBlock = some b) (e : some b = some tb) => HNQ.out b hb (by injection e))
            have HT9 := hide ((HT.out.set (k := 0) (by simp) (.int .i64 (adsN nd l (s0, s1, s2)))).set (k := 1) (by simp) (.slice AA (adsL nd l (s0, s1, s2)).length kk))
            have HO9 := hide (own_kept (own_kept HO.out (grown_set (g := tb) (p := ⟨tb, 0, none⟩) (.int .i64 (adsN nd l (s0, s1, s2))) rfl) HNE.out) (grown_set (g := tb) (p := ⟨tb, 1, none⟩) (.slice AA (adsL nd l (s0, s1, s2)).length kk) rfl) HNE.out)
            clear t0 t1 u0 u1 tz
            refine ⟨later_of HL9.out, ?_⟩
            refine wpAnyS_take_allE [10] 0 rfl (by kernel_rfl) (by intro c a d v w h; cases d <;> exact h) (by kernel_rfl) (by simp; rfl) rfl (later_of HL9.out) ?_
            repeat (go_big_quiet_step (fail))
            refine wpQuiet_nil ?_
            refine wpAnyH_done (by kernel_rfl) ?_ _
            go_wp2_with fail
            go_meet
            exact ⟨tb, kk, AA, rfl, rfl, HT9, HO9, hide ⟨HTB.out, HNQ.out⟩, HL9⟩
          · go_wp2_with fail
            have HL' : Hid (Below w11.heap.size w11 (V2.alloc (.cells #[.int .i64 0, .slice none 0 0] 30))) := hide (below_alloc HL.out _)
            have HT := hide (Row.new V2 #[.int .i64 0, .slice none 0 0] 30)
            have HTB : Hid (w11.heap.size ≤ V2.heap.size) := hide HL.out.size
            replace HRI := hide (HRI.out.alloc (.cells #[.int .i64 0, .slice none 0 0] 30))
            refine ⟨later_of HL'.out, ?_⟩
            clear HL
            have HL := hide HL'.out
            clear HL'
            have HTL : Hid (V2.heap.size < (V2.alloc (.cells #[.int .i64 0, .slice none 0 0] 30)).heap.size) := hide (by simp)
            generalize V2.alloc (.cells #[.int .i64 0, .slice none 0 0] 30) = V3 at *
            generalize V2.heap.size = tb at *
            refine wpAnyS_only 4 (by kernel_rfl) (by simp; rfl) rfl rfl (fun K hK => ?_)
            go_wp2_with fail
            refine (implAddStreet_any nd _ n n l s0 s1 s2 _ Hn.out (Nat.le_refl _) hnm HRI.out ⟨_, _, rfl⟩).mono ?_
            rintro e V4 ⟨⟨v, rfl, ho⟩, hq⟩
            have HLQ : Hid (∀ q, v.ownBlock = some q → V3.heap.size ≤ q ∧ q < V4.heap.size) := hide (fun q hq => ⟨(ho.lt q hq).1, (ho.lt q hq).2⟩)
            have HNQ : Hid (∀ q, v.ownBlock = some q → q ≠ tb) := hide (fun q hq => by have := HLQ.out q hq; have := HTL.out; omega)
            have HO : Hid (V4.ownsRow w11.heap.size 34 3 v (adsL nd l (s0, s1, s2)).length ((adsL nd l (s0, s1, s2)).flatMap tcells)) := hide (own_le ho HL.out.size)
            obtain ⟨AA, kk, hv, -⟩ := own_open HO.out
            subst hv
            clear ho HRI
            replace HTL : Hid (tb < V4.heap.size) := hide (Nat.lt_of_lt_of_le HTL.out hq.size)
            replace HT := hide (HT.out.below hq)
            replace HL := hide (below_step HL.out hq)
            clear hq
            go_wp2_with fail
            refine ⟨later_of HL.out, ?_⟩
            refine wpAnyS_take_allE [5, 6, 7] 2 rfl (by kernel_rfl) (by intro c a d v w h; cases d <;> exact h) (by kernel_rfl) (by simp; rfl) rfl (later_of HL.out) ?_
            repeat (go_big_quiet_step (fail))
            refine wpQuiet_nil ?_
            refine wpAnyS_only 9 (by kernel_rfl) (by simp; rfl) rfl rfl (fun K hK => ?_)
            have t0 := HT.out.2.1 0 _ rfl
            have t1 := HT.out.2.1 1 _ rfl
            have u0 := HT.out.free 0
            have u1 := HT.out.free 1
            have tz := HT.out.1
            go_wp2_with fail
            have HL9 : Hid (Below w11.heap.size w11 ((V4.setCell ⟨tb, 0, none⟩ (.int .i64 (adsN nd l (s0, s1, s2)))).setCell ⟨tb, 1, none⟩ (.slice AA (adsL nd l (s0, s1, s2)).length kk))) := hide ((HL.out.setCell (by exact HTB.out) _).setCell (by exact HTB.out) _)
            have HNE := hide (fun (b : Nat) (hb : (Value.slice AA (adsL nd l (s0, s1, s2)).length kk).ownBlock = some b) (e : some b = some tb) => HNQ.out b hb (by injection e))
            have HT9 := hide ((HT.out.set (k := 0) (by simp) (.int .i64 (adsN nd l (s0, s1, s2)))).set (k := 1) (by simp) (.slice AA (adsL nd l (s0, s1, s2)).length kk))
            have HO9 := hide (own_kept (own_kept HO.out (grown_set (g := tb) (p := ⟨tb, 0, none⟩) (.int .i64 (adsN nd l (s0, s1, s2))) rfl) HNE.out) (grown_set (g := tb) (p := ⟨tb, 1, none⟩) (.slice AA (adsL nd l (s0, s1, s2)).length kk) rfl) HNE.out)
            clear t0 t1 u0 u1 tz
            refine ⟨later_of HL9.out, ?_⟩
            refine wpAnyS_take_allE [10] 0 rfl (by kernel_rfl) (by intro c a d v w h; cases d <;> exact h) (by kernel_rfl) (by simp; rfl) rfl (later_of HL9.out) ?_
            repeat (go_big_quiet_step (fail))
            refine wpQuiet_nil ?_
            refine wpAnyH_done (by kernel_rfl) ?_ _
            go_wp2_with fail
            go_meet
            exact ⟨tb, kk, AA, rfl, rfl, HT9, HO9, hide ⟨HTB.out, HNQ.out⟩, HL9⟩
        · go_wp2_with fail
          have HL' : Hid (Below w11.heap.size w11 (V1.alloc (.cells #[.int .i64 0, .slice none 0 0] 30))) := hide (below_alloc HL.out _)
          have HT := hide (Row.new V1 #[.int .i64 0, .slice none 0 0] 30)
          have HTB : Hid (w11.heap.size ≤ V1.heap.size) := hide HL.out.size
          replace HRI := hide (HRI.out.alloc (.cells #[.int .i64 0, .slice none 0 0] 30))
          refine ⟨later_of HL'.out, ?_⟩
          clear HL
          have HL := hide HL'.out
          clear HL'
          have HTL : Hid (V1.heap.size < (V1.alloc (.cells #[.int .i64 0, .slice none 0 0] 30)).heap.size) := hide (by simp)
          generalize V1.alloc (.cells #[.int .i64 0, .slice none 0 0] 30) = V2 at *
          generalize V1.heap.size = tb at *
          refine wpAnyS_only 3 (by kernel_rfl) (by simp; rfl) rfl rfl (fun K hK => ?_)
          go_wp2_with fail
          refine (toStreet_any s0 s1 s2 _).mono ?_
          rintro e V3 ⟨rfl, hq⟩
          replace HRI := hide (HRI.out.below hq)
          replace HTL : Hid (tb < V3.heap.size) := hide (Nat.lt_of_lt_of_le HTL.out hq.size)
          replace HT := hide (HT.out.below hq)
          replace HL := hide (below_step HL.out hq)
          clear hq
          go_wp2_with fail
          refine ⟨later_of HL.out, ?_⟩
          refine wpAnyS_only 4 (by kernel_rfl) (by simp; rfl) rfl rfl (fun K hK => ?_)
          go_wp2_with fail
          refine (implAddStreet_any nd _ n n l s0 s1 s2 _ Hn.out (Nat.le_refl _) hnm HRI.out ⟨_, _, rfl⟩).mono ?_
          rintro e V4 ⟨⟨v, rfl, ho⟩, hq⟩
          have HLQ : Hid (∀ q, v.ownBlock = some q → V3.heap.size ≤ q ∧ q < V4.heap.size) := hide (fun q hq => ⟨(ho.lt q hq).1, (ho.lt q hq).2⟩)
          have HNQ : Hid (∀ q, v.ownBlock = some q → q ≠ tb) := hide (fun q hq => by have := HLQ.out q hq; have := HTL.out; omega)
          have HO : Hid (V4.ownsRow w11.heap.size 34 3 v (adsL nd l (s0, s1, s2)).length ((adsL nd l (s0, s1, s2)).flatMap tcells)) := hide (own_le ho HL.out.size)
          obtain ⟨AA, kk, hv, -⟩ := own_open HO.out
          subst hv
          clear ho HRI
          replace HTL : Hid (tb < V4.heap.size) := hide (Nat.lt_of_lt_of_le HTL.out hq.size)
          replace HT := hide (HT.out.below hq)
          replace HL := hide (below_step HL.out hq)
          clear hq
          go_wp2_with fail
          refine ⟨later_of HL.out, ?_⟩
          refine wpAnyS_take_allE [5, 6, 7] 2 rfl (by kernel_rfl) (by intro c a d v w h; cases d <;> exact h) (by kernel_rfl) (by simp; rfl) rfl (later_of HL.out) ?_
          repeat (go_big_quiet_step (fail))
          refine wpQuiet_nil ?_
          refine wpAnyS_only 9 (by kernel_rfl) (by simp; rfl) rfl rfl (fun K hK => ?_)
          have t0 := HT.out.2.1 0 _ rfl
          have t1 := HT.out.2.1 1 _ rfl
          have u0 := HT.out.free 0
          have u1 := HT.out.free 1
          have tz := HT.out.1
          go_wp2_with fail
          have HL9 : Hid (Below w11.heap.size w11 ((V4.setCell ⟨tb, 0, none⟩ (.int .i64 (adsN nd l (s0, s1, s2)))).setCell ⟨tb, 1, none⟩ (.slice AA (adsL nd l (s0, s1, s2)).length kk))) := hide ((HL.out.setCell (by exact HTB.out) _).setCell (by exact HTB.out) _)
          have HNE := hide (fun (b : Nat) (hb : (Value.slice AA (adsL nd l (s0, s1, s2)).length kk).ownBlock = some b) (e : some b = some tb) => HNQ.out b hb (by injection e))
          have HT9 := hide ((HT.out.set (k := 0) (by simp) (.int .i64 (adsN nd l (s0, s1, s2)))).set (k := 1) (by simp) (.slice AA (adsL nd l (s0, s1, s2)).length kk))
          have HO9 := hide (own_kept (own_kept HO.out (grown_set (g := tb) (p := ⟨tb, 0, none⟩) (.int .i64 (adsN nd l (s0, s1, s2))) rfl) HNE.out) (grown_set (g := tb) (p := ⟨tb, 1, none⟩) (.slice AA (adsL nd l (s0, s1, s2)).length kk) rfl) HNE.out)
          clear t0 t1 u0 u1 tz
          refine ⟨later_of HL9.out, ?_⟩
          refine wpAnyS_take_allE [10] 0 rfl (by kernel_rfl) (by intro c a d v w h; cases d <;> exact h) (by kernel_rfl) (by simp; rfl) rfl (later_of HL9.out) ?_
          repeat (go_big_quiet_step (fail))
          refine wpQuiet_nil ?_
          refine wpAnyH_done (by kernel_rfl) ?_ _
          go_wp2_with fail
          go_meet
          exact ⟨tb, kk, AA, rfl, rfl, HT9, HO9, hide ⟨HTB.out, HNQ.out⟩, HL9⟩
      · go_wp2_with fail
        have HL' : Hid (Below w11.heap.size w11 (V0.alloc (.cells #[.int .i64 0, .slice none 0 0] 30))) := hide (below_alloc HL.out _)
        have HT := hide (Row.new V0 #[.int .i64 0, .slice none 0 0] 30)
        have HTB : Hid (w11.heap.size ≤ V0.heap.size) := hide HL.out.size
        replace HRI := hide (HRI.out.alloc (.cells #[.int .i64 0, .slice none 0 0] 30))
        refine ⟨later_of HL'.out, ?_⟩
        clear HL
        have HL := hide HL'.out
        clear HL'
        have HTL : Hid (V0.heap.size < (V0.alloc (.cells #[.int .i64 0, .slice none 0 0] 30)).heap.size) := hide (by simp)
        generalize V0.alloc (.cells #[.int .i64 0, .slice none 0 0] 30) = V1 at *
        generalize V0.heap.size = tb at *
        refine wpAnyS_only 1 (by kernel_rfl) (by simp; rfl) rfl rfl (fun K hK => ?_)
        go_wp2_with fail
        refine (toTown_ex nd A n c l _ Hn.out hm (HR.out.below (below_step HW.out HL.out))).mono ?_
        rintro e V2 ⟨⟨g1, rfl, -, -, hr⟩, hq⟩
        clear HRI
        have HRI := hide hr.rd
        replace HTL : Hid (tb < V2.heap.size) := hide (Nat.lt_of_lt_of_le HTL.out hq.size)
        replace HT := hide (HT.out.below hq)
        replace HL := hide (below_step HL.out hq)
        clear hq
        go_wp2_with fail
        refine ⟨later_of HL.out, ?_⟩
        refine wpAnyS_only 3 (by kernel_rfl) (by simp; rfl) rfl rfl (fun K hK => ?_)
        go_wp2_with fail
        refine (toStreet_any s0 s1 s2 _).mono ?_
        rintro e V3 ⟨rfl, hq⟩
        replace HRI := hide (HRI.out.below hq)
        replace HTL : Hid (tb < V3.heap.size) := hide (Nat.lt_of_lt_of_le HTL.out hq.size)
        replace HT := hide (HT.out.below hq)
        replace HL := hide (below_step HL.out hq)
        clear hq
        go_wp2_with fail
        refine ⟨later_of HL.out, ?_⟩
        refine wpAnyS_only 4 (by kernel_rfl) (by simp; rfl) rfl rfl (fun K hK => ?_)
        go_wp2_with fail
        refine (implAddStreet_any nd _ n n l s0 s1 s2 _ Hn.out (Nat.le_refl _) hnm HRI.out ⟨_, _, rfl⟩).mono ?_
        rintro e V4 ⟨⟨v, rfl, ho⟩, hq⟩
        have HLQ : Hid (∀ q, v.ownBlock = some q → V3.heap.size ≤ q ∧ q < V4.heap.size) := hide (fun q hq => ⟨(ho.lt q hq).1, (ho.lt q hq).2⟩)
        have HNQ : Hid (∀ q, v.ownBlock = some q → q ≠ tb) := hide (fun q hq => by have := HLQ.out q hq; have := HTL.out; omega)
        have HO : Hid (V4.ownsRow w11.heap.size 34 3 v (adsL nd l (s0, s1, s2)).length ((adsL nd l (s0, s1, s2)).flatMap tcells)) := hide (own_le ho HL.out.size)
        obtain ⟨AA, kk, hv, -⟩ := own_open HO.out
        subst hv
        clear ho HRI
        replace HTL : Hid (tb < V4.heap.size) := hide (Nat.lt_of_lt_of_le HTL.out hq.size)
        replace HT := hide (HT.out.below hq)
        replace HL := hide (below_step HL.out hq)
        clear hq
        go_wp2_with fail
        refine ⟨later_of HL.out, ?_⟩
        refine wpAnyS_take_allE [5, 6, 7] 2 rfl (by kernel_rfl) (by intro c a d v w h; cases d <;> exact h) (by kernel_rfl) (by simp; rfl) rfl (later_of HL.out) ?_
        repeat (go_big_quiet_step (fail))
        refine wpQuiet_nil ?_
        refine wpAnyS_only 9 (by kernel_rfl) (by simp; rfl) rfl rfl (fun K hK => ?_)
        have t0 := HT.out.2.1 0 _ rfl
        have t1 := HT.out.2.1 1 _ rfl
        have u0 := HT.out.free 0
        have u1 := HT.out.free 1
        have tz := HT.out.1
        go_wp2_with fail
        have HL9 : Hid (Below w11.heap.size w11 ((V4.setCell ⟨tb, 0, none⟩ (.int .i64 (adsN nd l (s0, s1, s2)))).setCell ⟨tb, 1, none⟩ (.slice AA (adsL nd l (s0, s1, s2)).length kk))) := hide ((HL.out.setCell (by exact HTB.out) _).setCell (by exact HTB.out) _)
        have HNE := hide (fun (b : Nat) (hb : (Value.slice AA (adsL nd l (s0, s1, s2)).length kk).ownBlock = some b) (e : some b = some tb) => HNQ.out b hb (by injection e))
        have HT9 := hide ((HT.out.set (k := 0) (by simp) (.int .i64 (adsN nd l (s0, s1, s2)))).set (k := 1) (by simp) (.slice AA (adsL nd l (s0, s1, s2)).length kk))
        have HO9 := hide (own_kept (own_kept HO.out (grown_set (g := tb) (p := ⟨tb, 0, none⟩) (.int .i64 (adsN nd l (s0, s1, s2))) rfl) HNE.out) (grown_set (g := tb) (p := ⟨tb, 1, none⟩) (.slice AA (adsL nd l (s0, s1, s2)).length kk) rfl) HNE.out)
        clear t0 t1 u0 u1 tz
        refine ⟨later_of HL9.out, ?_⟩
        refine wpAnyS_take_allE [10] 0 rfl (by kernel_rfl) (by intro c a d v w h; cases d <;> exact h) (by kernel_rfl) (by simp; rfl) rfl (later_of HL9.out) ?_
        repeat (go_big_quiet_step (fail))
        refine wpQuiet_nil ?_
        refine wpAnyH_done (by kernel_rfl) ?_ _
        go_wp2_with fail
        go_meet
        exact ⟨tb, kk, AA, rfl, rfl, HT9, HO9, hide ⟨HTB.out, HNQ.out⟩, HL9⟩
    obtain ⟨tb3, k3, A3, rfl, rfl, HT3, HO3, HN3, HBx⟩ := hcut
    rename World => w12
    have hb : Below w11.heap.size w11 w12 := HBx.out
    have HS12 := hide hb.size
    replace a0 := cell_on a0 hb
    replace a1 := cell_on a1 hb
    replace b0 := cell_on b0 hb
    replace b1 := cell_on b1 hb
    replace b2 := cell_on b2 hb
    replace e10 := cell_on e10 hb
    replace e11 := cell_on e11 hb
    replace d0 := cell_on d0 hb
    replace d1 := cell_on d1 hb
    replace e20 := cell_on e20 hb
    replace e21 := cell_on e21 hb
    replace HO1 := hide (own_below HO1.out hb)
    replace HO2 := hide (own_below HO2.out hb)
    replace HW : Hid (Below w.heap.size w w12) := hide (below_step HW.out hb)
    have e30 := HT3.out.2.1 0 _ rfl
    have e31 := HT3.out.2.1 1 _ rfl
    have HLe3 : Hid (w11.heap.size ≤ tb3 ∧ tb3 < w12.heap.size) := hide ⟨HN3.out.1, HT3.out.1⟩
    have HL3 : Hid (∀ q, (Value.slice A3 (adsL nd l (s0, s1, s2)).length k3).ownBlock = some q → w11.heap.size ≤ q ∧ q < w12.heap.size) := hide (fun q hq => ⟨(HO3.out.lt q hq).1, (HO3.out.lt q hq).2⟩)
    clear HBx HT3 hb
    have zz0 := World.block_lt_of_cell? w12 _ a0
    have zz1 := World.block_lt_of_cell? w12 _ b0
    have zz2 := World.block_lt_of_cell? w12 _ e10
    have zz3 := World.block_lt_of_cell? w12 _ d0
    have zz4 := World.block_lt_of_cell? w12 _ e20
    have zz5 := World.block_lt_of_cell? w12 _ e30
    dsimp only at zz0 zz1 zz2 zz3 zz4 zz5
    go_wp2_with fail
    clear zz0 zz1 zz2 zz3 zz4 zz5
    refine (eqTown_same (adsN nd l (s0, s1, s2)) A3 A1 _ k3 k1 (adsL nd l (s0, s1, s2)) _ rfl HRL.out (own_rd HO3.out) (own_rd HO1.out)).mono ?_
    rintro e w13 ⟨rfl, hq⟩
    have hb : Below w12.heap.size w12 w13 := hq
    have HS13 := hide hb.size
    replace a0 := cell_on a0 hb
    replace a1 := cell_on a1 hb
    replace b0 := cell_on b0 hb
    replace b1 := cell_on b1 hb
    replace b2 := cell_on b2 hb
    replace e10 := cell_on e10 hb
    replace e11 := cell_on e11 hb
    replace d0 := cell_on d0 hb
    replace d1 := cell_on d1 hb
    replace e20 := cell_on e20 hb
    replace e21 := cell_on e21 hb
    replace e30 := cell_on e30 hb
    replace e31 := cell_on e31 hb
    replace HO1 := hide (own_below HO1.out hb)
    replace HO2 := hide (own_below HO2.out hb)
    replace HO3 := hide (own_below HO3.out hb)
    replace HW : Hid (Below w.heap.size w w13) := hide (below_step HW.out hb)
    clear hb hq
    go_wp2_with fail
    refine (heldTown_any (adsN nd l (s0, s1, s2)) A2 _ k2 1 _ (own_rd HO2.out) HRL.out (by omega) (by omega)).mono ?_
    rintro e w14 ⟨rfl, hq⟩
    have hb : Below w13.heap.size w13 w14 := hq
    have HS14 := hide hb.size
    replace a0 := cell_on a0 hb
    replace a1 := cell_on a1 hb
    replace b0 := cell_on b0 hb
    replace b1 := cell_on b1 hb
    replace b2 := cell_on b2 hb
    replace e10 := cell_on e10 hb
    replace e11 := cell_on e11 hb
    replace d0 := cell_on d0 hb
    replace d1 := cell_on d1 hb
    replace e20 := cell_on e20 hb
    replace e21 := cell_on e21 hb
    replace e30 := cell_on e30 hb
    replace e31 := cell_on e31 hb
    replace HO1 := hide (own_below HO1.out hb)
    replace HO2 := hide (own_below HO2.out hb)
    replace HO3 := hide (own_below HO3.out hb)
    replace HW : Hid (Below w.heap.size w w14) := hide (below_step HW.out hb)
    clear hb hq
    go_wp2
    go_ret
    exact ⟨rfl, HW.out⟩
  · have sz := fun W => szTown_any nd A n c 1048576 W hnm (by omega) (by omega)
    rw [szStreet_neg (by omega)] at sz
    clear hnc hc
    go_enter Try.func3, Try.ntmps3
    go_wp2_with (go_at_call 5; ((with_reducible refine (sz _).mono ?_); rintro e w0 ⟨rfl, hb0⟩); obtain ⟨hc0, hf0⟩ := bcell hb0)
    go_ret
    exact ⟨rfl, (by repeat (first | exact Below.refl _ _ | refine below_step ?_ (by assumption) | refine below_step ?_ (Later.below _) | refine below_alloc ?_ _ | refine Below.drew ?_ | refine Below.setCell ?_ (by first | (simp; done) | (simp; omega)) _))⟩
end Go.Proofs.Ytbkhejkncmgdeaa

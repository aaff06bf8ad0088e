/- The law FnExactWithoutMain: what the law's call returns. -/
import Derived.Test.YtangiabihgohcaaNetWm
import Derived.Test.YtangiabihgohcaaNetWo
namespace Go.Proofs.Ytangiabihgohcaa
open Go.RowKit
set_option linter.unusedVariables false

set_option maxRecDepth 100000 in
set_option maxHeartbeats 4000000 in
theorem FnExactWithoutMain_walk (A : Option Addr) (n c : Nat) (M : List (Int × Int)) (B : Option Addr) (m d : Nat) (H : List (Int × Int)) (i : Int) (w : World) (hn : n = M.length) (hnc : n ≤ c) (hc : c ≤ maxLen) (hr : Rd w A (M.flatMap mcells)) (hm0 : m = H.length) (hmd : m ≤ d) (hd : d ≤ maxLen) (hr0 : Rd w B (H.flatMap mcells)) (_ : (Lit.int .i64 i).wf = true) :
    Calls Try.prog 11 #[.agg #[.slice A n c, .slice B m d], .int .i64 i] w fun e w' => e = .returned (.bool true) ∧ Below w.heap.size w w' := by
  have Hn := hide hn
  have Hm := hide hm0
  have HR : Hid (NetRd w A B M H) := hide ⟨hr, hr0⟩
  have hnm : n ≤ maxLen := Nat.le_trans hnc hc
  have hmm : m ≤ maxLen := Nat.le_trans hmd hd
  clear hn hr hm0 hr0
  have HRL : Hid ((woM M H i).length + (woH M H i).length ≤ 1048576) := hide (wo_length M H i)
  by_cases hm : n + m ≤ 1048576
  · have sz := fun W => szNet_any A B n c m d W hnm hmm
    rw [szNet_pos hm] at sz
    have SZ := hide sz
    clear hnc hc hmd hd sz
    go_enter Try.func11, Try.ntmps11
    go_wp2_with fail
    refine (SZ.out _).mono ?_
    rintro e w0 ⟨rfl, hq⟩
    have hb : Below w.heap.size w w0 := below_step (below_alloc (Below.refl _ _) _) hq
    have HS0 := hide hb.size
    have HW : Hid (Below w.heap.size w w0) := hide hb
    obtain ⟨a0, a1⟩ := cell_new2 w (.slice A n c) (.slice B m d) 25
    replace a0 := cell_on a0 hq
    replace a1 := cell_on a1 hq
    clear hb hq SZ
    have HLa : Hid (w.heap.size < w0.heap.size) := hide (World.block_lt_of_cell? w0 _ a0)
    go_wp2_with fail
    refine (toNet_ex A B n c m d M H _ Hn.out Hm.out hm (HR.out.below HW.out)).mono ?_
    rintro e w1 ⟨⟨g1, g1', rfl, hgl, hgu, hr⟩, hq⟩
    have hb : Below w0.heap.size w0 w1 := hq
    have HS1 := hide hb.size
    replace a0 := cell_on a0 hb
    replace a1 := cell_on a1 hb
    replace HW : Hid (Below w.heap.size w w1) := hide (below_step HW.out hb)
    have HR1 := hide hr.rd
    clear hb hq hr hgl hgu
    go_wp2_with fail
    refine (specWithoutMain_any _ _ _ _ n n m m i M H _ Hn.out Hm.out hnm hmm HR1.out).mono ?_
    rintro e w2 ⟨⟨v1, v11, rfl, ho⟩, hq⟩
    have hb : Below w1.heap.size w1 w2 := hq
    have HS2 := hide hb.size
    replace a0 := cell_on a0 hb
    replace a1 := cell_on a1 hb
    replace HW : Hid (Below w.heap.size w w2) := hide (below_step HW.out hb)
    obtain ⟨ho, ho2⟩ := ho
    have HO1 := hide ho
    have HL1 : Hid (∀ q, v1.ownBlock = some q → w1.heap.size ≤ q ∧ q < w2.heap.size) := hide (fun q hq => ⟨Nat.le_trans (by simp) (HO1.out.lt q hq).1, (HO1.out.lt q hq).2⟩)
    obtain ⟨A1, k1, hv1, -⟩ := own_open HO1.out
    subst hv1
    clear ho
    have ho := ho2
    clear ho2
    have HO11 := hide ho
    have HL11 : Hid (∀ q, v11.ownBlock = some q → w1.heap.size ≤ q ∧ q < w2.heap.size) := hide (fun q hq => ⟨Nat.le_trans (by simp) (HO11.out.lt q hq).1, (HO11.out.lt q hq).2⟩)
    obtain ⟨A11, k11, hv11, -⟩ := own_open HO11.out
    subst hv11
    clear ho
    clear hb hq HR1
    have zz0 := World.block_lt_of_cell? w2 _ a0
    dsimp only at zz0
    go_wp2_with fail
    clear zz0
    refine (toNet_ex A B n c m d M H _ Hn.out Hm.out hm (HR.out.below (below_alloc HW.out _))).mono ?_
    rintro e w3 ⟨⟨gx, gx', rfl, hgl, hgu, hr⟩, hq⟩
    have hb : Below w2.heap.size w2 w3 := below_step (below_alloc (Below.refl _ _) _) hq
    have HS3 := hide hb.size
    replace a0 := cell_on a0 hb
    replace a1 := cell_on a1 hb
    replace HO1 := hide (own_below HO1.out hb)
    replace HO11 := hide (own_below HO11.out hb)
    replace HW : Hid (Below w.heap.size w w3) := hide (below_step HW.out hb)
    obtain ⟨e0, e1⟩ := cell_new2 w2 (.slice A1 (woM M H i).length k1) (.slice A11 (woH M H i).length k11) 31
    replace e0 := cell_on e0 hq
    replace e1 := cell_on e1 hq
    have HLe : Hid (w2.heap.size < w3.heap.size) := hide (World.block_lt_of_cell? w3 _ e0)
    have HX := hide hr
    have HLX : Hid ((w2.heap.size + 1 ≤ gx ∧ gx < gx') ∧ gx' < w3.heap.size) := hide ⟨by simp at hgl; omega, hgu⟩
    clear hb hq hr hgl hgu
    go_wp2_with fail
    refine (implWithoutMain_any _ _ n n m m i M H _ Hn.out Hm.out hnm hmm (NetRd.alloc (NetRow.rd HX.out) _)).mono ?_
    rintro e w4 ⟨⟨v2, v22, rfl, ho⟩, hq⟩
    have hb : Below w3.heap.size w3 w4 := below_step (below_alloc (Below.refl _ _) _) hq
    have HS4 := hide hb.size
    replace a0 := cell_on a0 hb
    replace a1 := cell_on a1 hb
    replace e0 := cell_on e0 hb
    replace e1 := cell_on e1 hb
    replace HX := hide (HX.out.below hb)
    replace HO1 := hide (own_below HO1.out hb)
    replace HO11 := hide (own_below HO11.out hb)
    replace HW : Hid (Below w.heap.size w w4) := hide (below_step HW.out hb)
    obtain ⟨d0, d1⟩ := cell_new2 w3 (.slice (some ⟨gx, 0, none⟩) n n) (.slice (some ⟨gx', 0, none⟩) m m) 31
    replace d0 := cell_on d0 hq
    replace d1 := cell_on d1 hq
    obtain ⟨ho, ho2⟩ := ho
    have HO2 := hide ho
    have HL2 : Hid (∀ q, v2.ownBlock = some q → w3.heap.size + 1 ≤ q ∧ q < w4.heap.size) := hide (fun q hq => ⟨Nat.le_trans (by simp) (HO2.out.lt q hq).1, (HO2.out.lt q hq).2⟩)
    obtain ⟨A2, k2, hv2, -⟩ := own_open HO2.out
    subst hv2
    clear ho
    have ho := ho2
    clear ho2
    have HO22 := hide ho
    have HL22 : Hid (∀ q, v22.ownBlock = some q → w3.heap.size + 1 ≤ q ∧ q < w4.heap.size) := hide (fun q hq => ⟨Nat.le_trans (by simp) (HO22.out.lt q hq).1, (HO22.out.lt q hq).2⟩)
    obtain ⟨A22, k22, hv22, -⟩ := own_open HO22.out
    subst hv22
    clear ho
    clear hb hq
    have HLd : Hid (w3.heap.size < w4.heap.size) := hide (World.block_lt_of_cell? w4 _ d0)
    have zz0 := World.block_lt_of_cell? w4 _ a0
    have zz1 := World.block_lt_of_cell? w4 _ e0
    have zz2 := World.block_lt_of_cell? w4 _ d0
    dsimp only at zz0 zz1 zz2
    go_wp2_with fail
    clear zz0 zz1 zz2
    refine (eqNet_same A2 A22 A1 A11 _ k2 k1 _ k22 k11 (woM M H i) (woH M H i) _ rfl rfl HRL.out ⟨((own_rd HO2.out).alloc _), ((own_rd HO22.out).alloc _)⟩ ⟨((own_rd HO1.out).alloc _), ((own_rd HO11.out).alloc _)⟩).mono ?_
    rintro e w5 ⟨rfl, hq⟩
    have hb : Below w4.heap.size w4 w5 := below_step (below_alloc (Below.refl _ _) _) hq
    have HS5 := hide hb.size
    replace a0 := cell_on a0 hb
    replace a1 := cell_on a1 hb
    replace e0 := cell_on e0 hb
    replace e1 := cell_on e1 hb
    replace d0 := cell_on d0 hb
    replace d1 := cell_on d1 hb
    replace HX := hide (HX.out.below hb)
    replace HO1 := hide (own_below HO1.out hb)
    replace HO11 := hide (own_below HO11.out hb)
    replace HO2 := hide (own_below HO2.out hb)
    replace HO22 := hide (own_below HO22.out hb)
    replace HW : Hid (Below w.heap.size w w5) := hide (below_step HW.out hb)
    obtain ⟨f0, f1⟩ := cell_new2 w4 (.slice A2 (woM M H i).length k2) (.slice A22 (woH M H i).length k22) 31
    replace f0 := cell_on f0 hq
    replace f1 := cell_on f1 hq
    have HLf : Hid (w4.heap.size < w5.heap.size) := hide (World.block_lt_of_cell? w5 _ f0)
    clear hb hq
    have HXd := hide HX.out.rd
    go_wp2_with fail
    have z0 := World.block_lt_of_cell? w5 _ a0
    have z1 := World.block_lt_of_cell? w5 _ a1
    have z2 := World.block_lt_of_cell? w5 _ e0
    have z3 := World.block_lt_of_cell? w5 _ e1
    have z4 := World.block_lt_of_cell? w5 _ d0
    have z5 := World.block_lt_of_cell? w5 _ d1
    have z6 := World.block_lt_of_cell? w5 _ f0
    have z7 := World.block_lt_of_cell? w5 _ f1
    dsimp only at z0 z1 z2 z3 z4 z5 z6 z7
    refine wpAnyH_start (n := 5) (by kernel_rfl) rfl rfl ?_
    refine wpAnyH_take_all [0, 1] 3 rfl (by kernel_rfl) (by intro c a d v w h; cases d <;> exact h) (by kernel_rfl) (by simp; rfl) rfl (later_drew _) ?_
    repeat (go_big_quiet_step (fail))
    refine wpQuiet_nil ?_
    clear z0 z1 z2 z3 z4 z5 z6 z7
    refine wpAnyH_only 2 (by kernel_rfl) (by simp; rfl) rfl rfl (later_drew _) (fun K hK => ?_)
    go_wp2_with fail
    refine (toNet_ex A B n c m d M H _ Hn.out Hm.out hm (HR.out.below HW.out.drew)).mono ?_
    rintro e w6 ⟨⟨g2, g2', rfl, hgl, hgu, hr⟩, hq⟩
    have hb : Below w5.heap.size w5 w6 := below_step ((Below.refl _ _).drew) hq
    have HS6 := hide hb.size
    replace a0 := cell_on a0 hb
    replace a1 := cell_on a1 hb
    replace e0 := cell_on e0 hb
    replace e1 := cell_on e1 hb
    replace d0 := cell_on d0 hb
    replace d1 := cell_on d1 hb
    replace f0 := cell_on f0 hb
    replace f1 := cell_on f1 hb
    replace HX := hide (HX.out.below hb)
    replace HXd := hide (HXd.out.below hb)
    replace HO1 := hide (own_below HO1.out hb)
    replace HO11 := hide (own_below HO11.out hb)
    replace HO2 := hide (own_below HO2.out hb)
    replace HO22 := hide (own_below HO22.out hb)
    replace HW : Hid (Below w.heap.size w w6) := hide (below_step HW.out hb)
    have HT := hide hr.rd
    clear hgl hgu
    go_wp2_with fail
    refine ⟨hq, ?_⟩
    clear hb hq hr
    refine wpAnyH_only 3 (by kernel_rfl) (by simp; rfl) rfl rfl (later_refl _) (fun K hK => ?_)
    go_wp2_with fail
    refine (eqNet_same _ _ _ _ n n n m m m M H _ Hn.out Hm.out hm HXd.out HT.out).mono ?_
    rintro e w7 ⟨rfl, hq⟩
    have hb : Below w6.heap.size w6 w7 := hq
    have HS7 := hide hb.size
    replace a0 := cell_on a0 hb
    replace a1 := cell_on a1 hb
    replace e0 := cell_on e0 hb
    replace e1 := cell_on e1 hb
    replace d0 := cell_on d0 hb
    replace d1 := cell_on d1 hb
    replace f0 := cell_on f0 hb
    replace f1 := cell_on f1 hb
    replace HX := hide (HX.out.below hb)
    replace HXd := hide (HXd.out.below hb)
    replace HO1 := hide (own_below HO1.out hb)
    replace HO11 := hide (own_below HO11.out hb)
    replace HO2 := hide (own_below HO2.out hb)
    replace HO22 := hide (own_below HO22.out hb)
    replace HW : Hid (Below w.heap.size w w7) := hide (below_step HW.out hb)
    go_wp2_with fail
    refine ⟨hq, ?_⟩
    clear hb hq HT
    refine wpAnyH_only 4 (by kernel_rfl) (by simp; rfl) rfl rfl (later_refl _) (fun K hK => ?_)
    go_wp2_with fail
    refine ⟨Below.refl _ _, ?_⟩
    refine wpAnyH_done (by kernel_rfl) ?_ _
    clear HXd
    go_wp2_with fail
    refine (markNet_row gx gx' n n m m M H 1 _ HX.out Hn.out Hm.out hm HLX.out.1.2 (by omega) (by omega)).mono ?_
    rintro e w9 ⟨rfl, w8, hg1, hg2⟩
    have HS8 := hide hg1.size
    have HS9 := hide hg2.size
    replace a0 := grown_cell hg1 a0 (fun e => by injection e with e; have := HLX.out; have := HLd.out; have := HLa.out; have := HS0.out; have := HS1.out; have := HS2.out; have := HS3.out; have := HS4.out; have := HS5.out; have := HS6.out; have := HS7.out; have := HS8.out; have := HS9.out; omega)
    replace a1 := grown_cell hg1 a1 (fun e => by injection e with e; have := HLX.out; have := HLd.out; have := HLa.out; have := HS0.out; have := HS1.out; have := HS2.out; have := HS3.out; have := HS4.out; have := HS5.out; have := HS6.out; have := HS7.out; have := HS8.out; have := HS9.out; omega)
    replace d0 := grown_cell hg1 d0 (fun e => by injection e with e; have := HLX.out; have := HLd.out; have := HLd.out; have := HS0.out; have := HS1.out; have := HS2.out; have := HS3.out; have := HS4.out; have := HS5.out; have := HS6.out; have := HS7.out; have := HS8.out; have := HS9.out; omega)
    replace d1 := grown_cell hg1 d1 (fun e => by injection e with e; have := HLX.out; have := HLd.out; have := HLd.out; have := HS0.out; have := HS1.out; have := HS2.out; have := HS3.out; have := HS4.out; have := HS5.out; have := HS6.out; have := HS7.out; have := HS8.out; have := HS9.out; omega)
    replace e0 := grown_cell hg1 e0 (fun e => by injection e with e; have := HLX.out; have := HLd.out; have := HLe.out; have := HS0.out; have := HS1.out; have := HS2.out; have := HS3.out; have := HS4.out; have := HS5.out; have := HS6.out; have := HS7.out; have := HS8.out; have := HS9.out; omega)
    replace e1 := grown_cell hg1 e1 (fun e => by injection e with e; have := HLX.out; have := HLd.out; have := HLe.out; have := HS0.out; have := HS1.out; have := HS2.out; have := HS3.out; have := HS4.out; have := HS5.out; have := HS6.out; have := HS7.out; have := HS8.out; have := HS9.out; omega)
    replace f0 := grown_cell hg1 f0 (fun e => by injection e with e; have := HLX.out; have := HLd.out; have := HLf.out; have := HS0.out; have := HS1.out; have := HS2.out; have := HS3.out; have := HS4.out; have := HS5.out; have := HS6.out; have := HS7.out; have := HS8.out; have := HS9.out; omega)
    replace f1 := grown_cell hg1 f1 (fun e => by injection e with e; have := HLX.out; have := HLd.out; have := HLf.out; have := HS0.out; have := HS1.out; have := HS2.out; have := HS3.out; have := HS4.out; have := HS5.out; have := HS6.out; have := HS7.out; have := HS8.out; have := HS9.out; omega)
    replace HO1 := hide (own_kept HO1.out hg1 (fun q hq e => by injection e with e; have := HLX.out; have := HLd.out; have := HL1.out q hq; have := HS0.out; have := HS1.out; have := HS2.out; have := HS3.out; have := HS4.out; have := HS5.out; have := HS6.out; have := HS7.out; have := HS8.out; have := HS9.out; omega))
    replace HO11 := hide (own_kept HO11.out hg1 (fun q hq e => by injection e with e; have := HLX.out; have := HLd.out; have := HL11.out q hq; have := HS0.out; have := HS1.out; have := HS2.out; have := HS3.out; have := HS4.out; have := HS5.out; have := HS6.out; have := HS7.out; have := HS8.out; have := HS9.out; omega))
    replace HO2 := hide (own_kept HO2.out hg1 (fun q hq e => by injection e with e; have := HLX.out; have := HLd.out; have := HL2.out q hq; have := HS0.out; have := HS1.out; have := HS2.out; have := HS3.out; have := HS4.out; have := HS5.out; have := HS6.out; have := HS7.out; have := HS8.out; have := HS9.out; omega))
    replace HO22 := hide (own_kept HO22.out hg1 (fun q hq e => by injection e with e; have := HLX.out; have := HLd.out; have := HL22.out q hq; have := HS0.out; have := HS1.out; have := HS2.out; have := HS3.out; have := HS4.out; have := HS5.out; have := HS6.out; have := HS7.out; have := HS8.out; have := HS9.out; omega))
    replace HW : Hid (Below w.heap.size w w8) := hide (HW.out.grown hg1 HW.out.size (fun q e => by injection e with e; have := HLX.out; have := HLd.out; have := HS0.out; have := HS1.out; have := HS2.out; have := HS3.out; have := HS4.out; have := HS5.out; have := HS6.out; have := HS7.out; have := HS8.out; have := HS9.out; omega))
    replace a0 := grown_cell hg2 a0 (fun e => by injection e with e; have := HLX.out; have := HLd.out; have := HLa.out; have := HS0.out; have := HS1.out; have := HS2.out; have := HS3.out; have := HS4.out; have := HS5.out; have := HS6.out; have := HS7.out; have := HS8.out; have := HS9.out; omega)
    replace a1 := grown_cell hg2 a1 (fun e => by injection e with e; have := HLX.out; have := HLd.out; have := HLa.out; have := HS0.out; have := HS1.out; have := HS2.out; have := HS3.out; have := HS4.out; have := HS5.out; have := HS6.out; have := HS7.out; have := HS8.out; have := HS9.out; omega)
    replace d0 := grown_cell hg2 d0 (fun e => by injection e with e; have := HLX.out; have := HLd.out; have := HLd.out; have := HS0.out; have := HS1.out; have := HS2.out; have := HS3.out; have := HS4.out; have := HS5.out; have := HS6.out; have := HS7.out; have := HS8.out; have := HS9.out; omega)
    replace d1 := grown_cell hg2 d1 (fun e => by injection e with e; have := HLX.out; have := HLd.out; have := HLd.out; have := HS0.out; have := HS1.out; have := HS2.out; have := HS3.out; have := HS4.out; have := HS5.out; have := HS6.out; have := HS7.out; have := HS8.out; have := HS9.out; omega)
    replace e0 := grown_cell hg2 e0 (fun e => by injection e with e; have := HLX.out; have := HLd.out; have := HLe.out; have := HS0.out; have := HS1.out; have := HS2.out; have := HS3.out; have := HS4.out; have := HS5.out; have := HS6.out; have := HS7.out; have := HS8.out; have := HS9.out; omega)
    replace e1 := grown_cell hg2 e1 (fun e => by injection e with e; have := HLX.out; have := HLd.out; have := HLe.out; have := HS0.out; have := HS1.out; have := HS2.out; have := HS3.out; have := HS4.out; have := HS5.out; have := HS6.out; have := HS7.out; have := HS8.out; have := HS9.out; omega)
    replace f0 := grown_cell hg2 f0 (fun e => by injection e with e; have := HLX.out; have := HLd.out; have := HLf.out; have := HS0.out; have := HS1.out; have := HS2.out; have := HS3.out; have := HS4.out; have := HS5.out; have := HS6.out; have := HS7.out; have := HS8.out; have := HS9.out; omega)
    replace f1 := grown_cell hg2 f1 (fun e => by injection e with e; have := HLX.out; have := HLd.out; have := HLf.out; have := HS0.out; have := HS1.out; have := HS2.out; have := HS3.out; have := HS4.out; have := HS5.out; have := HS6.out; have := HS7.out; have := HS8.out; have := HS9.out; omega)
    replace HO1 := hide (own_kept HO1.out hg2 (fun q hq e => by injection e with e; have := HLX.out; have := HLd.out; have := HL1.out q hq; have := HS0.out; have := HS1.out; have := HS2.out; have := HS3.out; have := HS4.out; have := HS5.out; have := HS6.out; have := HS7.out; have := HS8.out; have := HS9.out; omega))
    replace HO11 := hide (own_kept HO11.out hg2 (fun q hq e => by injection e with e; have := HLX.out; have := HLd.out; have := HL11.out q hq; have := HS0.out; have := HS1.out; have := HS2.out; have := HS3.out; have := HS4.out; have := HS5.out; have := HS6.out; have := HS7.out; have := HS8.out; have := HS9.out; omega))
    replace HO2 := hide (own_kept HO2.out hg2 (fun q hq e => by injection e with e; have := HLX.out; have := HLd.out; have := HL2.out q hq; have := HS0.out; have := HS1.out; have := HS2.out; have := HS3.out; have := HS4.out; have := HS5.out; have := HS6.out; have := HS7.out; have := HS8.out; have := HS9.out; omega))
    replace HO22 := hide (own_kept HO22.out hg2 (fun q hq e => by injection e with e; have := HLX.out; have := HLd.out; have := HL22.out q hq; have := HS0.out; have := HS1.out; have := HS2.out; have := HS3.out; have := HS4.out; have := HS5.out; have := HS6.out; have := HS7.out; have := HS8.out; have := HS9.out; omega))
    replace HW : Hid (Below w.heap.size w w9) := hide (HW.out.grown hg2 HW.out.size (fun q e => by injection e with e; have := HLX.out; have := HLd.out; have := HS0.out; have := HS1.out; have := HS2.out; have := HS3.out; have := HS4.out; have := HS5.out; have := HS6.out; have := HS7.out; have := HS8.out; have := HS9.out; omega))
    clear hg1 hg2 HX
    have zz0 := World.block_lt_of_cell? w9 _ a0
    have zz1 := World.block_lt_of_cell? w9 _ e0
    have zz2 := World.block_lt_of_cell? w9 _ d0
    have zz3 := World.block_lt_of_cell? w9 _ f0
    dsimp only at zz0 zz1 zz2 zz3
    go_wp2_with fail
    clear zz0 zz1 zz2 zz3
    refine (eqNet_same A2 A22 A1 A11 _ k2 k1 _ k22 k11 (woM M H i) (woH M H i) _ rfl rfl HRL.out ⟨(own_rd HO2.out), (own_rd HO22.out)⟩ ⟨(own_rd HO1.out), (own_rd HO11.out)⟩).mono ?_
    rintro e w10 ⟨rfl, hq⟩
    have hb : Below w9.heap.size w9 w10 := hq
    have HS10 := hide hb.size
    replace a0 := cell_on a0 hb
    replace a1 := cell_on a1 hb
    replace e0 := cell_on e0 hb
    replace e1 := cell_on e1 hb
    replace d0 := cell_on d0 hb
    replace d1 := cell_on d1 hb
    replace f0 := cell_on f0 hb
    replace f1 := cell_on f1 hb
    replace HO1 := hide (own_below HO1.out hb)
    replace HO11 := hide (own_below HO11.out hb)
    replace HO2 := hide (own_below HO2.out hb)
    replace HO22 := hide (own_below HO22.out hb)
    replace HW : Hid (Below w.heap.size w w10) := hide (below_step HW.out hb)
    clear hb hq
    go_wp2_with fail
    refine (markNet_own _ _ _ _ _ _ _ 1 _ HO2.out HO22.out HRL.out (by omega) (by omega)).mono ?_
    rintro e w12 ⟨rfl, w11, ho, ho2, hg1, hg2⟩
    have HS11 := hide hg1.size
    have HS12 := hide hg2.size
    replace a0 := grown_cell hg1 a0 (fun e => by have := HL2.out _ e.symm; have := HLa.out; have := HS0.out; have := HS1.out; have := HS2.out; have := HS3.out; have := HS4.out; have := HS5.out; have := HS6.out; have := HS7.out; have := HS8.out; have := HS9.out; have := HS10.out; have := HS11.out; have := HS12.out; omega)
    replace a1 := grown_cell hg1 a1 (fun e => by have := HL2.out _ e.symm; have := HLa.out; have := HS0.out; have := HS1.out; have := HS2.out; have := HS3.out; have := HS4.out; have := HS5.out; have := HS6.out; have := HS7.out; have := HS8.out; have := HS9.out; have := HS10.out; have := HS11.out; have := HS12.out; omega)
    replace d0 := grown_cell hg1 d0 (fun e => by have := HL2.out _ e.symm; have := HLd.out; have := HS0.out; have := HS1.out; have := HS2.out; have := HS3.out; have := HS4.out; have := HS5.out; have := HS6.out; have := HS7.out; have := HS8.out; have := HS9.out; have := HS10.out; have := HS11.out; have := HS12.out; omega)
    replace d1 := grown_cell hg1 d1 (fun e => by have := HL2.out _ e.symm; have := HLd.out; have := HS0.out; have := HS1.out; have := HS2.out; have := HS3.out; have := HS4.out; have := HS5.out; have := HS6.out; have := HS7.out; have := HS8.out; have := HS9.out; have := HS10.out; have := HS11.out; have := HS12.out; omega)
    replace e0 := grown_cell hg1 e0 (fun e => by have := HL2.out _ e.symm; have := HLe.out; have := HS0.out; have := HS1.out; have := HS2.out; have := HS3.out; have := HS4.out; have := HS5.out; have := HS6.out; have := HS7.out; have := HS8.out; have := HS9.out; have := HS10.out; have := HS11.out; have := HS12.out; omega)
    replace e1 := grown_cell hg1 e1 (fun e => by have := HL2.out _ e.symm; have := HLe.out; have := HS0.out; have := HS1.out; have := HS2.out; have := HS3.out; have := HS4.out; have := HS5.out; have := HS6.out; have := HS7.out; have := HS8.out; have := HS9.out; have := HS10.out; have := HS11.out; have := HS12.out; omega)
    replace f0 := grown_cell hg1 f0 (fun e => by have := HL2.out _ e.symm; have := HLf.out; have := HS0.out; have := HS1.out; have := HS2.out; have := HS3.out; have := HS4.out; have := HS5.out; have := HS6.out; have := HS7.out; have := HS8.out; have := HS9.out; have := HS10.out; have := HS11.out; have := HS12.out; omega)
    replace f1 := grown_cell hg1 f1 (fun e => by have := HL2.out _ e.symm; have := HLf.out; have := HS0.out; have := HS1.out; have := HS2.out; have := HS3.out; have := HS4.out; have := HS5.out; have := HS6.out; have := HS7.out; have := HS8.out; have := HS9.out; have := HS10.out; have := HS11.out; have := HS12.out; omega)
    replace HO1 := hide (own_kept HO1.out hg1 (fun q hq e => by have := HL2.out _ e.symm; have := HL1.out q hq; have := HS0.out; have := HS1.out; have := HS2.out; have := HS3.out; have := HS4.out; have := HS5.out; have := HS6.out; have := HS7.out; have := HS8.out; have := HS9.out; have := HS10.out; have := HS11.out; have := HS12.out; omega))
    replace HO11 := hide (own_kept HO11.out hg1 (fun q hq e => by have := HL2.out _ e.symm; have := HL11.out q hq; have := HS0.out; have := HS1.out; have := HS2.out; have := HS3.out; have := HS4.out; have := HS5.out; have := HS6.out; have := HS7.out; have := HS8.out; have := HS9.out; have := HS10.out; have := HS11.out; have := HS12.out; omega))
    replace HW : Hid (Below w.heap.size w w11) := hide (HW.out.grown hg1 HW.out.size (fun q e => by have := HL2.out _ e; have := HS0.out; have := HS1.out; have := HS2.out; have := HS3.out; have := HS4.out; have := HS5.out; have := HS6.out; have := HS7.out; have := HS8.out; have := HS9.out; have := HS10.out; have := HS11.out; have := HS12.out; omega))
    replace a0 := grown_cell hg2 a0 (fun e => by have := HL22.out _ e.symm; have := HLa.out; have := HS0.out; have := HS1.out; have := HS2.out; have := HS3.out; have := HS4.out; have := HS5.out; have := HS6.out; have := HS7.out; have := HS8.out; have := HS9.out; have := HS10.out; have := HS11.out; have := HS12.out; omega)
    replace a1 := grown_cell hg2 a1 (fun e => by have := HL22.out _ e.symm; have := HLa.out; have := HS0.out; have := HS1.out; have := HS2.out; have := HS3.out; have := HS4.out; have := HS5.out; have := HS6.out; have := HS7.out; have := HS8.out; have := HS9.out; have := HS10.out; have := HS11.out; have := HS12.out; omega)
    replace d0 := grown_cell hg2 d0 (fun e => by have := HL22.out _ e.symm; have := HLd.out; have := HS0.out; have := HS1.out; have := HS2.out; have := HS3.out; have := HS4.out; have := HS5.out; have := HS6.out; have := HS7.out; have := HS8.out; have := HS9.out; have := HS10.out; have := HS11.out; have := HS12.out; omega)
    replace d1 := grown_cell hg2 d1 (fun e => by have := HL22.out _ e.symm; have := HLd.out; have := HS0.out; have := HS1.out; have := HS2.out; have := HS3.out; have := HS4.out; have := HS5.out; have := HS6.out; have := HS7.out; have := HS8.out; have := HS9.out; have := HS10.out; have := HS11.out; have := HS12.out; omega)
    replace e0 := grown_cell hg2 e0 (fun e => by have := HL22.out _ e.symm; have := HLe.out; have := HS0.out; have := HS1.out; have := HS2.out; have := HS3.out; have := HS4.out; have := HS5.out; have := HS6.out; have := HS7.out; have := HS8.out; have := HS9.out; have := HS10.out; have := HS11.out; have := HS12.out; omega)
    replace e1 := grown_cell hg2 e1 (fun e => by have := HL22.out _ e.symm; have := HLe.out; have := HS0.out; have := HS1.out; have := HS2.out; have := HS3.out; have := HS4.out; have := HS5.out; have := HS6.out; have := HS7.out; have := HS8.out; have := HS9.out; have := HS10.out; have := HS11.out; have := HS12.out; omega)
    replace f0 := grown_cell hg2 f0 (fun e => by have := HL22.out _ e.symm; have := HLf.out; have := HS0.out; have := HS1.out; have := HS2.out; have := HS3.out; have := HS4.out; have := HS5.out; have := HS6.out; have := HS7.out; have := HS8.out; have := HS9.out; have := HS10.out; have := HS11.out; have := HS12.out; omega)
    replace f1 := grown_cell hg2 f1 (fun e => by have := HL22.out _ e.symm; have := HLf.out; have := HS0.out; have := HS1.out; have := HS2.out; have := HS3.out; have := HS4.out; have := HS5.out; have := HS6.out; have := HS7.out; have := HS8.out; have := HS9.out; have := HS10.out; have := HS11.out; have := HS12.out; omega)
    replace HO1 := hide (own_kept HO1.out hg2 (fun q hq e => by have := HL22.out _ e.symm; have := HL1.out q hq; have := HS0.out; have := HS1.out; have := HS2.out; have := HS3.out; have := HS4.out; have := HS5.out; have := HS6.out; have := HS7.out; have := HS8.out; have := HS9.out; have := HS10.out; have := HS11.out; have := HS12.out; omega))
    replace HO11 := hide (own_kept HO11.out hg2 (fun q hq e => by have := HL22.out _ e.symm; have := HL11.out q hq; have := HS0.out; have := HS1.out; have := HS2.out; have := HS3.out; have := HS4.out; have := HS5.out; have := HS6.out; have := HS7.out; have := HS8.out; have := HS9.out; have := HS10.out; have := HS11.out; have := HS12.out; omega))
    replace HW : Hid (Below w.heap.size w w12) := hide (HW.out.grown hg2 HW.out.size (fun q e => by have := HL22.out _ e; have := HS0.out; have := HS1.out; have := HS2.out; have := HS3.out; have := HS4.out; have := HS5.out; have := HS6.out; have := HS7.out; have := HS8.out; have := HS9.out; have := HS10.out; have := HS11.out; have := HS12.out; omega))
    replace HO2 := hide ho
    replace HO22 := hide ho2
    clear ho ho2 hg1 hg2
    have zz0 := World.block_lt_of_cell? w12 _ a0
    have zz1 := World.block_lt_of_cell? w12 _ e0
    have zz2 := World.block_lt_of_cell? w12 _ d0
    have zz3 := World.block_lt_of_cell? w12 _ f0
    dsimp only at zz0 zz1 zz2 zz3
    go_wp2_with fail
    clear zz0 zz1 zz2 zz3
    refine (heldNet_any A2 A22 _ k2 _ k22 1 _ (own_rd HO2.out) (own_rd HO22.out) HRL.out (by omega) (by omega)).mono ?_
    rintro e w13 ⟨rfl, hq⟩
    have hb : Below w12.heap.size w12 w13 := hq
    have HS13 := hide hb.size
    replace a0 := cell_on a0 hb
    replace a1 := cell_on a1 hb
    replace e0 := cell_on e0 hb
    replace e1 := cell_on e1 hb
    replace d0 := cell_on d0 hb
    replace d1 := cell_on d1 hb
    replace f0 := cell_on f0 hb
    replace f1 := cell_on f1 hb
    replace HO1 := hide (own_below HO1.out hb)
    replace HO11 := hide (own_below HO11.out hb)
    replace HO2 := hide (own_below HO2.out hb)
    replace HO22 := hide (own_below HO22.out hb)
    replace HW : Hid (Below w.heap.size w w13) := hide (below_step HW.out hb)
    clear hb hq
    go_wp2_with fail
    refine (toNet_ex A B n c m d M H _ Hn.out Hm.out hm (HR.out.below HW.out)).mono ?_
    rintro e w14 ⟨⟨g3, g3', rfl, hgl, hgu, hr⟩, hq⟩
    have hb : Below w13.heap.size w13 w14 := hq
    have HS14 := hide hb.size
    replace a0 := cell_on a0 hb
    replace a1 := cell_on a1 hb
    replace e0 := cell_on e0 hb
    replace e1 := cell_on e1 hb
    replace d0 := cell_on d0 hb
    replace d1 := cell_on d1 hb
    replace f0 := cell_on f0 hb
    replace f1 := cell_on f1 hb
    replace HO1 := hide (own_below HO1.out hb)
    replace HO11 := hide (own_below HO11.out hb)
    replace HO2 := hide (own_below HO2.out hb)
    replace HO22 := hide (own_below HO22.out hb)
    replace HW : Hid (Below w.heap.size w w14) := hide (below_step HW.out hb)
    have HR3 := hide hr.rd
    clear hb hq hr hgl hgu
    go_wp2_with fail
    refine (implWithoutMain_any _ _ n n m m i M H _ Hn.out Hm.out hnm hmm HR3.out).mono ?_
    rintro e w15 ⟨⟨v3, v33, rfl, ho⟩, hq⟩
    have hb : Below w14.heap.size w14 w15 := hq
    have HS15 := hide hb.size
    replace a0 := cell_on a0 hb
    replace a1 := cell_on a1 hb
    replace e0 := cell_on e0 hb
    replace e1 := cell_on e1 hb
    replace d0 := cell_on d0 hb
    replace d1 := cell_on d1 hb
    replace f0 := cell_on f0 hb
    replace f1 := cell_on f1 hb
    replace HO1 := hide (own_below HO1.out hb)
    replace HO11 := hide (own_below HO11.out hb)
    replace HO2 := hide (own_below HO2.out hb)
    replace HO22 := hide (own_below HO22.out hb)
    replace HW : Hid (Below w.heap.size w w15) := hide (below_step HW.out hb)
    obtain ⟨ho, ho2⟩ := ho
    have HO3 := hide ho
    have HL3 : Hid (∀ q, v3.ownBlock = some q → w14.heap.size ≤ q ∧ q < w15.heap.size) := hide (fun q hq => ⟨Nat.le_trans (by simp) (HO3.out.lt q hq).1, (HO3.out.lt q hq).2⟩)
    obtain ⟨A3, k3, hv3, -⟩ := own_open HO3.out
    subst hv3
    clear ho
    have ho := ho2
    clear ho2
    have HO33 := hide ho
    have HL33 : Hid (∀ q, v33.ownBlock = some q → w14.heap.size ≤ q ∧ q < w15.heap.size) := hide (fun q hq => ⟨Nat.le_trans (by simp) (HO33.out.lt q hq).1, (HO33.out.lt q hq).2⟩)
    obtain ⟨A33, k33, hv33, -⟩ := own_open HO33.out
    subst hv33
    clear ho
    clear hb hq HR3
    have zz0 := World.block_lt_of_cell? w15 _ a0
    have zz1 := World.block_lt_of_cell? w15 _ e0
    have zz2 := World.block_lt_of_cell? w15 _ d0
    have zz3 := World.block_lt_of_cell? w15 _ f0
    dsimp only at zz0 zz1 zz2 zz3
    go_wp2_with fail
    clear zz0 zz1 zz2 zz3
    refine (eqNet_same A3 A33 A1 A11 _ k3 k1 _ k33 k11 (woM M H i) (woH M H i) _ rfl rfl HRL.out ⟨((own_rd HO3.out).alloc _), ((own_rd HO33.out).alloc _)⟩ ⟨((own_rd HO1.out).alloc _), ((own_rd HO11.out).alloc _)⟩).mono ?_
    rintro e w16 ⟨rfl, hq⟩
    have hb : Below w15.heap.size w15 w16 := below_step (below_alloc (Below.refl _ _) _) hq
    have HS16 := hide hb.size
    replace a0 := cell_on a0 hb
    replace a1 := cell_on a1 hb
    replace e0 := cell_on e0 hb
    replace e1 := cell_on e1 hb
    replace d0 := cell_on d0 hb
    replace d1 := cell_on d1 hb
    replace f0 := cell_on f0 hb
    replace f1 := cell_on f1 hb
    replace HO1 := hide (own_below HO1.out hb)
    replace HO11 := hide (own_below HO11.out hb)
    replace HO2 := hide (own_below HO2.out hb)
    replace HO22 := hide (own_below HO22.out hb)
    replace HO3 := hide (own_below HO3.out hb)
    replace HO33 := hide (own_below HO33.out hb)
    replace HW : Hid (Below w.heap.size w w16) := hide (below_step HW.out hb)
    clear hb hq
    have zz0 := World.block_lt_of_cell? w16 _ a0
    have zz1 := World.block_lt_of_cell? w16 _ e0
    have zz2 := World.block_lt_of_cell? w16 _ d0
    have zz3 := World.block_lt_of_cell? w16 _ f0
    dsimp only at zz0 zz1 zz2 zz3
    go_wp2_with fail
    clear zz0 zz1 zz2 zz3
    refine (heldNet_any A2 A22 _ k2 _ k22 1 _ (own_rd HO2.out) (own_rd HO22.out) HRL.out (by omega) (by omega)).mono ?_
    rintro e w17 ⟨rfl, hq⟩
    have hb : Below w16.heap.size w16 w17 := hq
    have HS17 := hide hb.size
    replace a0 := cell_on a0 hb
    replace a1 := cell_on a1 hb
    replace e0 := cell_on e0 hb
    replace e1 := cell_on e1 hb
    replace d0 := cell_on d0 hb
    replace d1 := cell_on d1 hb
    replace f0 := cell_on f0 hb
    replace f1 := cell_on f1 hb
    replace HO1 := hide (own_below HO1.out hb)
    replace HO11 := hide (own_below HO11.out hb)
    replace HO2 := hide (own_below HO2.out hb)
    replace HO22 := hide (own_below HO22.out hb)
    replace HO3 := hide (own_below HO3.out hb)
    replace HO33 := hide (own_below HO33.out hb)
    replace HW : Hid (Below w.heap.size w w17) := hide (below_step HW.out hb)
    clear hb hq
    go_wp2
    go_ret
    exact ⟨rfl, HW.out⟩
  · have sz := fun W => szNet_any A B n c m d W hnm hmm
    rw [szNet_neg (by omega)] at sz
    clear hnc hc hmd hd
    go_enter Try.func11, Try.ntmps11
    go_wp2_with (go_at_call 14; ((with_reducible refine (sz _).mono ?_); rintro e w0 ⟨rfl, hb0⟩); obtain ⟨hc0, hf0⟩ := bcell hb0)
    go_ret
    exact ⟨rfl, (by repeat (first | exact Below.refl _ _ | refine below_step ?_ (by assumption) | refine below_step ?_ (Later.below _) | refine below_alloc ?_ _ | refine Below.drew ?_ | refine Below.setCell ?_ (by first | (simp; done) | (simp; omega)) _))⟩
end Go.Proofs.Ytangiabihgohcaa

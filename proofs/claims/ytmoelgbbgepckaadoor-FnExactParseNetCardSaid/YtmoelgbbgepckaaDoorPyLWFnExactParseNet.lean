/- The law FnExactParseNet: what the law's call returns. -/
import Derived.Test.YtmoelgbbgepckaaDoorPyPnI
import Derived.Test.YtmoelgbbgepckaaDoorPyPnS
import Derived.Test.YtmoelgbbgepckaaDoorPyPnW
namespace Go.Proofs.YtmoelgbbgepckaaDoor
open Go.RowKit
set_option linter.unusedVariables false

set_option maxRecDepth 100000 in
set_option maxHeartbeats 4000000 in
theorem FnExactParseNet_walk (s : ByteArray) (w : World) (hs : s.size ≤ maxLen) (he : WrdEnv w) :
    Calls Tryd.prog 7 #[.string s] w fun e w' => e = .returned (.bool true) ∧ Below w.heap.size w w' := by
  unfold maxLen at hs
  by_cases hz : s.size ≤ 1048576
  · have Q1 := hide (specParseNet_any s w hz)
    have Q2 := hide (fun W (hb : Below w.heap.size w W) => implParseNet_any s W hz (he.below hb))
    rw [pn_same s] at Q2
    have HRL : Hid ((outM (pnS s)).length + (outY (pnS s)).length ≤ 1048576) := hide (outN_le s)
    have hz' : (s.size : Int) ≤ 1048576 := by omega
    clear he
    go_enter Tryd.func7, Tryd.ntmps7
    go_wp2_with fail
    refine (Q1.out).mono ?_
    rintro e w0 ⟨⟨v1, v11, rfl, ho⟩, hq⟩
    have hb : Below w.heap.size w w0 := hq
    have HS0 := hide hb.size
    have HW : Hid (Below w.heap.size w w0) := hide hb
    obtain ⟨ho, ho2⟩ := ho
    have HO1 := hide ho
    have HL1 : Hid (∀ q, v1.ownBlock = some q → w.heap.size ≤ q ∧ q < w0.heap.size) := hide (fun q hq => ⟨Nat.le_trans (by simp) (HO1.out.lt q hq).1, (HO1.out.lt q hq).2⟩)
    obtain ⟨A1, k1, hv1, -⟩ := own_open HO1.out
    subst hv1
    clear ho
    have ho := ho2
    clear ho2
    have HO11 := hide ho
    have HL11 : Hid (∀ q, v11.ownBlock = some q → w.heap.size ≤ q ∧ q < w0.heap.size) := hide (fun q hq => ⟨Nat.le_trans (by simp) (HO11.out.lt q hq).1, (HO11.out.lt q hq).2⟩)
    obtain ⟨A11, k11, hv11, -⟩ := own_open HO11.out
    subst hv11
    clear ho
    clear hb hq Q1
    go_wp2_with fail
    refine (Q2.out _ (below_alloc HW.out _)).mono ?_
    rintro e w1 ⟨⟨v2, v22, rfl, ho⟩, hq⟩
    have hb : Below w0.heap.size w0 w1 := below_step (below_alloc (Below.refl _ _) _) hq
    have HS1 := hide hb.size
    replace HO1 := hide (own_below HO1.out hb)
    replace HO11 := hide (own_below HO11.out hb)
    replace HW : Hid (Below w.heap.size w w1) := hide (below_step HW.out hb)
    obtain ⟨e0, e1⟩ := cell_new2 w0 (.slice A1 (outM (pnS s)).length k1) (.slice A11 (outY (pnS s)).length k11) 57
    replace e0 := cell_on e0 hq
    replace e1 := cell_on e1 hq
    have HLe : Hid (w0.heap.size < w1.heap.size) := hide (World.block_lt_of_cell? w1 _ e0)
    obtain ⟨ho, ho2⟩ := ho
    have HO2 := hide ho
    have HL2 : Hid (∀ q, v2.ownBlock = some q → w0.heap.size + 1 ≤ q ∧ q < w1.heap.size) := hide (fun q hq => ⟨Nat.le_trans (by simp) (HO2.out.lt q hq).1, (HO2.out.lt q hq).2⟩)
    obtain ⟨A2, k2, hv2, -⟩ := own_open HO2.out
    subst hv2
    clear ho
    have ho := ho2
    clear ho2
    have HO22 := hide ho
    have HL22 : Hid (∀ q, v22.ownBlock = some q → w0.heap.size + 1 ≤ q ∧ q < w1.heap.size) := hide (fun q hq => ⟨Nat.le_trans (by simp) (HO22.out.lt q hq).1, (HO22.out.lt q hq).2⟩)
    obtain ⟨A22, k22, hv22, -⟩ := own_open HO22.out
    subst hv22
    clear ho
    clear hb hq
    have zz0 := World.block_lt_of_cell? w1 _ e0
    dsimp only at zz0
    go_wp2_with fail
    clear zz0
    refine (eqNet_same A2 A22 A1 A11 _ k2 k1 _ k22 k11 (outM (pnS s)) (outY (pnS s)) _ rfl rfl HRL.out ⟨((own_rd HO2.out).alloc _), ((own_rd HO22.out).alloc _)⟩ ⟨((own_rd HO1.out).alloc _), ((own_rd HO11.out).alloc _)⟩).mono ?_
    rintro e w2 ⟨rfl, hq⟩
    have hb : Below w1.heap.size w1 w2 := below_step (below_alloc (Below.refl _ _) _) hq
    have HS2 := hide hb.size
    replace e0 := cell_on e0 hb
    replace e1 := cell_on e1 hb
    replace HO1 := hide (own_below HO1.out hb)
    replace HO11 := hide (own_below HO11.out hb)
    replace HO2 := hide (own_below HO2.out hb)
    replace HO22 := hide (own_below HO22.out hb)
    replace HW : Hid (Below w.heap.size w w2) := hide (below_step HW.out hb)
    obtain ⟨f0, f1⟩ := cell_new2 w1 (.slice A2 (outM (pnS s)).length k2) (.slice A22 (outY (pnS s)).length k22) 57
    replace f0 := cell_on f0 hq
    replace f1 := cell_on f1 hq
    have HLf : Hid (w1.heap.size < w2.heap.size) := hide (World.block_lt_of_cell? w2 _ f0)
    clear hb hq
    have zz0 := World.block_lt_of_cell? w2 _ e0
    have zz1 := World.block_lt_of_cell? w2 _ f0
    dsimp only at zz0 zz1
    go_wp2_with fail
    clear zz0 zz1
    refine (markNet_own _ _ _ _ _ _ _ 1 _ HO2.out HO22.out HRL.out (by omega) (by omega)).mono ?_
    rintro e w4 ⟨rfl, w3, ho, ho2, hg1, hg2⟩
    have HS3 := hide hg1.size
    have HS4 := hide hg2.size
    replace e0 := grown_cell hg1 e0 (fun e => by have := HL2.out _ e.symm; have := HLe.out; have := HS0.out; have := HS1.out; have := HS2.out; have := HS3.out; have := HS4.out; omega)
    replace e1 := grown_cell hg1 e1 (fun e => by have := HL2.out _ e.symm; have := HLe.out; have := HS0.out; have := HS1.out; have := HS2.out; have := HS3.out; have := HS4.out; omega)
    replace f0 := grown_cell hg1 f0 (fun e => by have := HL2.out _ e.symm; have := HLf.out; have := HS0.out; have := HS1.out; have := HS2.out; have := HS3.out; have := HS4.out; omega)
    replace f1 := grown_cell hg1 f1 (fun e => by have := HL2.out _ e.symm; have := HLf.out; have := HS0.out; have := HS1.out; have := HS2.out; have := HS3.out; have := HS4.out; omega)
    replace HO1 := hide (own_kept HO1.out hg1 (fun q hq e => by have := HL2.out _ e.symm; have := HL1.out q hq; have := HS0.out; have := HS1.out; have := HS2.out; have := HS3.out; have := HS4.out; omega))
    replace HO11 := hide (own_kept HO11.out hg1 (fun q hq e => by have := HL2.out _ e.symm; have := HL11.out q hq; have := HS0.out; have := HS1.out; have := HS2.out; have := HS3.out; have := HS4.out; omega))
    replace HW : Hid (Below w.heap.size w w3) := hide (HW.out.grown hg1 HW.out.size (fun q e => by have := HL2.out _ e; have := HS0.out; have := HS1.out; have := HS2.out; have := HS3.out; have := HS4.out; omega))
    replace e0 := grown_cell hg2 e0 (fun e => by have := HL22.out _ e.symm; have := HLe.out; have := HS0.out; have := HS1.out; have := HS2.out; have := HS3.out; have := HS4.out; omega)
    replace e1 := grown_cell hg2 e1 (fun e => by have := HL22.out _ e.symm; have := HLe.out; have := HS0.out; have := HS1.out; have := HS2.out; have := HS3.out; have := HS4.out; omega)
    replace f0 := grown_cell hg2 f0 (fun e => by have := HL22.out _ e.symm; have := HLf.out; have := HS0.out; have := HS1.out; have := HS2.out; have := HS3.out; have := HS4.out; omega)
    replace f1 := grown_cell hg2 f1 (fun e => by have := HL22.out _ e.symm; have := HLf.out; have := HS0.out; have := HS1.out; have := HS2.out; have := HS3.out; have := HS4.out; omega)
    replace HO1 := hide (own_kept HO1.out hg2 (fun q hq e => by have := HL22.out _ e.symm; have := HL1.out q hq; have := HS0.out; have := HS1.out; have := HS2.out; have := HS3.out; have := HS4.out; omega))
    replace HO11 := hide (own_kept HO11.out hg2 (fun q hq e => by have := HL22.out _ e.symm; have := HL11.out q hq; have := HS0.out; have := HS1.out; have := HS2.out; have := HS3.out; have := HS4.out; omega))
    replace HW : Hid (Below w.heap.size w w4) := hide (HW.out.grown hg2 HW.out.size (fun q e => by have := HL22.out _ e; have := HS0.out; have := HS1.out; have := HS2.out; have := HS3.out; have := HS4.out; omega))
    replace HO2 := hide ho
    replace HO22 := hide ho2
    clear ho ho2 hg1 hg2
    have zz0 := World.block_lt_of_cell? w4 _ e0
    have zz1 := World.block_lt_of_cell? w4 _ f0
    dsimp only at zz0 zz1
    go_wp2_with fail
    clear zz0 zz1
    refine (heldNet_any A2 A22 _ k2 _ k22 1 _ (own_rd HO2.out) (own_rd HO22.out) HRL.out (by omega) (by omega)).mono ?_
    rintro e w5 ⟨rfl, hq⟩
    have hb : Below w4.heap.size w4 w5 := hq
    have HS5 := hide hb.size
    replace e0 := cell_on e0 hb
    replace e1 := cell_on e1 hb
    replace f0 := cell_on f0 hb
    replace f1 := cell_on f1 hb
    replace HO1 := hide (own_below HO1.out hb)
    replace HO11 := hide (own_below HO11.out hb)
    replace HO2 := hide (own_below HO2.out hb)
    replace HO22 := hide (own_below HO22.out hb)
    replace HW : Hid (Below w.heap.size w w5) := hide (below_step HW.out hb)
    clear hb hq
    go_wp2_with fail
    refine (Q2.out _ HW.out).mono ?_
    rintro e w6 ⟨⟨v3, v33, rfl, ho⟩, hq⟩
    have hb : Below w5.heap.size w5 w6 := hq
    have HS6 := hide hb.size
    replace e0 := cell_on e0 hb
    replace e1 := cell_on e1 hb
    replace f0 := cell_on f0 hb
    replace f1 := cell_on f1 hb
    replace HO1 := hide (own_below HO1.out hb)
    replace HO11 := hide (own_below HO11.out hb)
    replace HO2 := hide (own_below HO2.out hb)
    replace HO22 := hide (own_below HO22.out hb)
    replace HW : Hid (Below w.heap.size w w6) := hide (below_step HW.out hb)
    obtain ⟨ho, ho2⟩ := ho
    have HO3 := hide ho
    have HL3 : Hid (∀ q, v3.ownBlock = some q → w5.heap.size ≤ q ∧ q < w6.heap.size) := hide (fun q hq => ⟨Nat.le_trans (by simp) (HO3.out.lt q hq).1, (HO3.out.lt q hq).2⟩)
    obtain ⟨A3, k3, hv3, -⟩ := own_open HO3.out
    subst hv3
    clear ho
    have ho := ho2
    clear ho2
    have HO33 := hide ho
    have HL33 : Hid (∀ q, v33.ownBlock = some q → w5.heap.size ≤ q ∧ q < w6.heap.size) := hide (fun q hq => ⟨Nat.le_trans (by simp) (HO33.out.lt q hq).1, (HO33.out.lt q hq).2⟩)
    obtain ⟨A33, k33, hv33, -⟩ := own_open HO33.out
    subst hv33
    clear ho
    clear hb hq
    have zz0 := World.block_lt_of_cell? w6 _ e0
    have zz1 := World.block_lt_of_cell? w6 _ f0
    dsimp only at zz0 zz1
    go_wp2_with fail
    clear zz0 zz1
    refine (eqNet_same A3 A33 A1 A11 _ k3 k1 _ k33 k11 (outM (pnS s)) (outY (pnS s)) _ rfl rfl HRL.out ⟨((own_rd HO3.out).alloc _), ((own_rd HO33.out).alloc _)⟩ ⟨((own_rd HO1.out).alloc _), ((own_rd HO11.out).alloc _)⟩).mono ?_
    rintro e w7 ⟨rfl, hq⟩
    have hb : Below w6.heap.size w6 w7 := below_step (below_alloc (Below.refl _ _) _) hq
    have HS7 := hide hb.size
    replace e0 := cell_on e0 hb
    replace e1 := cell_on e1 hb
    replace f0 := cell_on f0 hb
    replace f1 := cell_on f1 hb
    replace HO1 := hide (own_below HO1.out hb)
    replace HO11 := hide (own_below HO11.out hb)
    replace HO2 := hide (own_below HO2.out hb)
    replace HO22 := hide (own_below HO22.out hb)
    replace HO3 := hide (own_below HO3.out hb)
    replace HO33 := hide (own_below HO33.out hb)
    replace HW : Hid (Below w.heap.size w w7) := hide (below_step HW.out hb)
    clear hb hq
    have zz0 := World.block_lt_of_cell? w7 _ e0
    have zz1 := World.block_lt_of_cell? w7 _ f0
    dsimp only at zz0 zz1
    go_wp2_with fail
    clear zz0 zz1
    refine (heldNet_any A2 A22 _ k2 _ k22 1 _ (own_rd HO2.out) (own_rd HO22.out) HRL.out (by omega) (by omega)).mono ?_
    rintro e w8 ⟨rfl, hq⟩
    have hb : Below w7.heap.size w7 w8 := hq
    have HS8 := hide hb.size
    replace e0 := cell_on e0 hb
    replace e1 := cell_on e1 hb
    replace f0 := cell_on f0 hb
    replace f1 := cell_on f1 hb
    replace HO1 := hide (own_below HO1.out hb)
    replace HO11 := hide (own_below HO11.out hb)
    replace HO2 := hide (own_below HO2.out hb)
    replace HO22 := hide (own_below HO22.out hb)
    replace HO3 := hide (own_below HO3.out hb)
    replace HO33 := hide (own_below HO33.out hb)
    replace HW : Hid (Below w.heap.size w w8) := hide (below_step HW.out hb)
    clear hb hq
    go_wp2
    go_ret
    exact ⟨rfl, HW.out⟩
  · have hz' : (1048576 : Int) < (s.size : Int) := by omega
    clear he
    go_enter Tryd.func7, Tryd.ntmps7
    go_wp2
    go_ret
    exact ⟨rfl, Below.refl _ _⟩
end Go.Proofs.YtmoelgbbgepckaaDoor

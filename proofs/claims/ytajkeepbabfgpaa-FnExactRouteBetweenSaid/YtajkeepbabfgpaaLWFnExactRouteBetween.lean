/- The law FnExactRouteBetween: what the law's call returns. -/
import Derived.Test.YtajkeepbabfgpaaLawI
import Derived.Test.YtajkeepbabfgpaaTownRe
import Derived.Test.YtajkeepbabfgpaaIntS
import Derived.Test.YtajkeepbabfgpaaTownV
namespace Go.Proofs.Ytajkeepbabfgpaa
open Go.RowKit
set_option linter.unusedVariables false

set_option maxRecDepth 100000 in
set_option maxHeartbeats 4000000 in
theorem FnExactRouteBetween_walk (nd : Int) (A : Option Addr) (n c : Nat) (l : List (Int × Int × Int)) (i : Int) (j : Int) (w : World) (_ : (Lit.int .i64 nd).wf = true) (hn : n = l.length) (hnc : n ≤ c) (hc : c ≤ maxLen) (hr : Rd w A (l.flatMap tcells)) (_ : (Lit.int .i64 i).wf = true) (_ : (Lit.int .i64 j).wf = true) :
    Calls Try.prog 6 #[.agg #[.int .i64 nd, .slice A n c], .int .i64 i, .int .i64 j] w fun e w' => e = .returned (.bool true) ∧ Below w.heap.size w w' := by
  have Hn := hide hn
  have HR := hide hr
  have hnm : n ≤ maxLen := Nat.le_trans hnc hc
  clear hn hr
  have HRL : Hid ((rbL nd l i j).length ≤ 1048576) := hide (rbL_length nd l i j)
  by_cases hm : n ≤ 1048576
  · have sz := fun W => szTown_any nd A n c 1048576 W hnm (by omega) (by omega)
    rw [szStreet_pos hm] at sz
    have SZ := hide sz
    clear hnc hc sz
    go_enter Try.func6, Try.ntmps6
    go_wp2_with fail
    refine (SZ.out _).mono ?_
    rintro e w0 ⟨rfl, hq⟩
    have hb : Below w.heap.size w w0 := below_step (below_alloc (Below.refl _ _) _) hq
    have HS0 := hide hb.size
    have HW : Hid (Below w.heap.size w w0) := hide hb
    obtain ⟨a0, a1⟩ := cell_new2 w (.int .i64 nd) (.slice A n c) 24
    replace a0 := cell_on a0 hq
    replace a1 := cell_on a1 hq
    clear hb hq SZ
    have HLa : Hid (w.heap.size < w0.heap.size) := hide (World.block_lt_of_cell? w0 _ a0)
    go_wp2_with fail
    refine (toTown_ex nd A n c l _ Hn.out hm (HR.out.below HW.out)).mono ?_
    rintro e w1 ⟨⟨g1, rfl, hgl, hgu, hr⟩, hq⟩
    have hb : Below w0.heap.size w0 w1 := hq
    have HS1 := hide hb.size
    replace a0 := cell_on a0 hb
    replace a1 := cell_on a1 hb
    replace HW : Hid (Below w.heap.size w w1) := hide (below_step HW.out hb)
    have HR1 := hide hr.rd
    clear hb hq hr hgl hgu
    go_wp2_with fail
    refine (specRouteBetween_any nd i j _ n n l _ Hn.out (Nat.le_refl _) hnm HR1.out).mono ?_
    rintro e w2 ⟨⟨v1, rfl, ho⟩, hq⟩
    have hb : Below w1.heap.size w1 w2 := hq
    have HS2 := hide hb.size
    replace a0 := cell_on a0 hb
    replace a1 := cell_on a1 hb
    replace HW : Hid (Below w.heap.size w w2) := hide (below_step HW.out hb)
    have HO1 := hide ho
    have HL1 : Hid (∀ q, v1.ownBlock = some q → w1.heap.size ≤ q ∧ q < w2.heap.size) := hide (fun q hq => ⟨Nat.le_trans (by simp) (HO1.out.lt q hq).1, (HO1.out.lt q hq).2⟩)
    obtain ⟨A1, k1, hv1, -⟩ := own_open HO1.out
    subst hv1
    clear ho
    clear hb hq HR1
    go_wp2_with fail
    refine (toTown_ex nd A n c l _ Hn.out hm (HR.out.below HW.out)).mono ?_
    rintro e w3 ⟨⟨gx, rfl, hgl, hgu, hr⟩, hq⟩
    have hb : Below w2.heap.size w2 w3 := hq
    have HS3 := hide hb.size
    replace a0 := cell_on a0 hb
    replace a1 := cell_on a1 hb
    replace HO1 := hide (own_below HO1.out hb)
    replace HW : Hid (Below w.heap.size w w3) := hide (below_step HW.out hb)
    have HX := hide hr
    have HLX : Hid (w2.heap.size ≤ gx ∧ gx < w3.heap.size) := hide ⟨hgl, hgu⟩
    clear hb hq hr hgl hgu
    go_wp2_with fail
    refine (implRouteBetween_any nd i j _ n n l _ Hn.out (Nat.le_refl _) hnm (HX.out.rd.alloc _)).mono ?_
    rintro e w4 ⟨⟨v2, rfl, ho⟩, hq⟩
    have hb : Below w3.heap.size w3 w4 := below_step (below_alloc (Below.refl _ _) _) hq
    have HS4 := hide hb.size
    replace a0 := cell_on a0 hb
    replace a1 := cell_on a1 hb
    replace HX := hide (HX.out.below hb)
    replace HO1 := hide (own_below HO1.out hb)
    replace HW : Hid (Below w.heap.size w w4) := hide (below_step HW.out hb)
    obtain ⟨d0, d1⟩ := cell_new2 w3 (.int .i64 nd) (.slice (some ⟨gx, 0, none⟩) n n) 29
    replace d0 := cell_on d0 hq
    replace d1 := cell_on d1 hq
    have HO2 := hide ho
    have HL2 : Hid (∀ q, v2.ownBlock = some q → w3.heap.size + 1 ≤ q ∧ q < w4.heap.size) := hide (fun q hq => ⟨Nat.le_trans (by simp) (HO2.out.lt q hq).1, (HO2.out.lt q hq).2⟩)
    obtain ⟨A2, k2, hv2, -⟩ := own_open HO2.out
    subst hv2
    clear ho
    clear hb hq
    have HLd : Hid (w3.heap.size < w4.heap.size) := hide (World.block_lt_of_cell? w4 _ d0)
    go_wp2_with fail
    refine (eqIntS_same A2 A1 _ k2 k1 (rbL nd l i j) _ rfl HRL.out (own_rd HO2.out) (own_rd HO1.out)).mono ?_
    rintro e w5 ⟨rfl, hq⟩
    have hb : Below w4.heap.size w4 w5 := hq
    have HS5 := hide hb.size
    replace a0 := cell_on a0 hb
    replace a1 := cell_on a1 hb
    replace d0 := cell_on d0 hb
    replace d1 := cell_on d1 hb
    replace HX := hide (HX.out.below hb)
    replace HO1 := hide (own_below HO1.out hb)
    replace HO2 := hide (own_below HO2.out hb)
    replace HW : Hid (Below w.heap.size w w5) := hide (below_step HW.out hb)
    clear hb hq
    have HXd := hide HX.out.rd
    go_wp2_with fail
    have z0 := World.block_lt_of_cell? w5 _ a0
    have z1 := World.block_lt_of_cell? w5 _ a1
    have z2 := World.block_lt_of_cell? w5 _ d0
    have z3 := World.block_lt_of_cell? w5 _ d1
    dsimp only at z0 z1 z2 z3
    refine wpAnyH_start (n := 5) (by kernel_rfl) rfl rfl ?_
    refine wpAnyH_take_all [0, 1] 3 rfl (by kernel_rfl) (by intro c a d v w h; cases d <;> exact h) (by kernel_rfl) (by simp; rfl) rfl (later_drew _) ?_
    repeat (go_big_quiet_step (fail))
    refine wpQuiet_nil ?_
    clear z0 z1 z2 z3
    refine wpAnyH_only 2 (by kernel_rfl) (by simp; rfl) rfl rfl (later_drew _) (fun K hK => ?_)
    go_wp2_with fail
    refine (toTown_ex nd A n c l _ Hn.out hm (HR.out.below HW.out.drew)).mono ?_
    rintro e w6 ⟨⟨g2, rfl, hgl, hgu, hr⟩, hq⟩
    have hb : Below w5.heap.size w5 w6 := below_step ((Below.refl _ _).drew) hq
    have HS6 := hide hb.size
    replace a0 := cell_on a0 hb
    replace a1 := cell_on a1 hb
    replace d0 := cell_on d0 hb
    replace d1 := cell_on d1 hb
    replace HX := hide (HX.out.below hb)
    replace HXd := hide (HXd.out.below hb)
    replace HO1 := hide (own_below HO1.out hb)
    replace HO2 := hide (own_below HO2.out hb)
    replace HW : Hid (Below w.heap.size w w6) := hide (below_step HW.out hb)
    have HT := hide hr.rd
    clear hgl hgu
    go_wp2_with fail
    refine ⟨hq, ?_⟩
    clear hb hq hr
    refine wpAnyH_only 3 (by kernel_rfl) (by simp; rfl) rfl rfl (later_refl _) (fun K hK => ?_)
    go_wp2_with fail
    refine (eqTown_same nd _ _ n n n l _ Hn.out hm HXd.out HT.out).mono ?_
    rintro e w7 ⟨rfl, hq⟩
    have hb : Below w6.heap.size w6 w7 := hq
    have HS7 := hide hb.size
    replace a0 := cell_on a0 hb
    replace a1 := cell_on a1 hb
    replace d0 := cell_on d0 hb
    replace d1 := cell_on d1 hb
    replace HX := hide (HX.out.below hb)
    replace HXd := hide (HXd.out.below hb)
    replace HO1 := hide (own_below HO1.out hb)
    replace HO2 := hide (own_below HO2.out hb)
    replace HW : Hid (Below w.heap.size w w7) := hide (below_step HW.out hb)
    go_wp2_with fail
    refine ⟨hq, ?_⟩
    clear hb hq HT
    refine wpAnyH_only 4 (by kernel_rfl) (by simp; rfl) rfl rfl (later_refl _) (fun K hK => ?_)
    go_wp2_with fail
    refine ⟨Below.refl _ _, ?_⟩
    refine wpAnyH_done (by kernel_rfl) ?_ _
    clear HXd
    go_wp2_with fail
    refine (markTown_row nd gx n n _ 1 _ HX.out (by rw [flat_length tcells 3 (fun _ => rfl)]; have := Hn.out; omega) hm (by omega) (by omega)).mono ?_
    rintro e w8 ⟨rfl, hg⟩
    have HS8 := hide hg.size
    replace a0 := grown_cell hg a0 (fun e => by injection e with e; have := HLX.out; have := HLa.out; have := HS0.out; have := HS1.out; have := HS2.out; have := HS3.out; have := HS4.out; have := HS5.out; have := HS6.out; have := HS7.out; have := HS8.out; omega)
    replace a1 := grown_cell hg a1 (fun e => by injection e with e; have := HLX.out; have := HLa.out; have := HS0.out; have := HS1.out; have := HS2.out; have := HS3.out; have := HS4.out; have := HS5.out; have := HS6.out; have := HS7.out; have := HS8.out; omega)
    replace d0 := grown_cell hg d0 (fun e => by injection e with e; have := HLX.out; have := HLd.out; have := HS0.out; have := HS1.out; have := HS2.out; have := HS3.out; have := HS4.out; have := HS5.out; have := HS6.out; have := HS7.out; have := HS8.out; omega)
    replace d1 := grown_cell hg d1 (fun e => by injection e with e; have := HLX.out; have := HLd.out; have := HS0.out; have := HS1.out; have := HS2.out; have := HS3.out; have := HS4.out; have := HS5.out; have := HS6.out; have := HS7.out; have := HS8.out; omega)
    replace HO1 := hide (own_kept HO1.out hg (fun q hq e => by injection e with e; have := HLX.out; have := HL1.out q hq; have := HS0.out; have := HS1.out; have := HS2.out; have := HS3.out; have := HS4.out; have := HS5.out; have := HS6.out; have := HS7.out; have := HS8.out; omega))
    replace HO2 := hide (own_kept HO2.out hg (fun q hq e => by injection e with e; have := HLX.out; have := HL2.out q hq; have := HS0.out; have := HS1.out; have := HS2.out; have := HS3.out; have := HS4.out; have := HS5.out; have := HS6.out; have := HS7.out; have := HS8.out; omega))
    replace HW : Hid (Below w.heap.size w w8) := hide (HW.out.grown hg HW.out.size (fun q e => by injection e with e; have := HLX.out; have := HS0.out; have := HS1.out; have := HS2.out; have := HS3.out; have := HS4.out; have := HS5.out; have := HS6.out; have := HS7.out; have := HS8.out; omega))
    clear hg HX
    go_wp2_with fail
    refine (eqIntS_same A2 A1 _ k2 k1 (rbL nd l i j) _ rfl HRL.out (own_rd HO2.out) (own_rd HO1.out)).mono ?_
    rintro e w9 ⟨rfl, hq⟩
    have hb : Below w8.heap.size w8 w9 := hq
    have HS9 := hide hb.size
    replace a0 := cell_on a0 hb
    replace a1 := cell_on a1 hb
    replace d0 := cell_on d0 hb
    replace d1 := cell_on d1 hb
    replace HO1 := hide (own_below HO1.out hb)
    replace HO2 := hide (own_below HO2.out hb)
    replace HW : Hid (Below w.heap.size w w9) := hide (below_step HW.out hb)
    clear hb hq
    go_wp2_with fail
    refine (markIntS_any _ _ _ _ 1 _ HO2.out HRL.out (by omega) (by omega)).mono ?_
    rintro e w10 ⟨rfl, ho, hg⟩
    have HS10 := hide hg.size
    replace a0 := grown_cell hg a0 (fun e => by have := HL2.out _ e.symm; have := HLa.out; have := HS0.out; have := HS1.out; have := HS2.out; have := HS3.out; have := HS4.out; have := HS5.out; have := HS6.out; have := HS7.out; have := HS8.out; have := HS9.out; have := HS10.out; omega)
    replace a1 := grown_cell hg a1 (fun e => by have := HL2.out _ e.symm; have := HLa.out; have := HS0.out; have := HS1.out; have := HS2.out; have := HS3.out; have := HS4.out; have := HS5.out; have := HS6.out; have := HS7.out; have := HS8.out; have := HS9.out; have := HS10.out; omega)
    replace d0 := grown_cell hg d0 (fun e => by have := HL2.out _ e.symm; have := HLd.out; have := HS0.out; have := HS1.out; have := HS2.out; have := HS3.out; have := HS4.out; have := HS5.out; have := HS6.out; have := HS7.out; have := HS8.out; have := HS9.out; have := HS10.out; omega)
    replace d1 := grown_cell hg d1 (fun e => by have := HL2.out _ e.symm; have := HLd.out; have := HS0.out; have := HS1.out; have := HS2.out; have := HS3.out; have := HS4.out; have := HS5.out; have := HS6.out; have := HS7.out; have := HS8.out; have := HS9.out; have := HS10.out; omega)
    replace HO1 := hide (own_kept HO1.out hg (fun q hq e => by have := HL2.out _ e.symm; have := HL1.out q hq; have := HS0.out; have := HS1.out; have := HS2.out; have := HS3.out; have := HS4.out; have := HS5.out; have := HS6.out; have := HS7.out; have := HS8.out; have := HS9.out; have := HS10.out; omega))
    replace HW : Hid (Below w.heap.size w w10) := hide (HW.out.grown hg HW.out.size (fun q e => by have := HL2.out _ e; have := HS0.out; have := HS1.out; have := HS2.out; have := HS3.out; have := HS4.out; have := HS5.out; have := HS6.out; have := HS7.out; have := HS8.out; have := HS9.out; have := HS10.out; omega))
    replace HO2 := hide ho
    clear ho hg
    go_wp2_with fail
    refine (heldIntS_any A2 _ k2 1 _ (own_rd HO2.out) HRL.out (by omega) (by omega)).mono ?_
    rintro e w' ⟨rfl, rfl⟩
    go_wp2_with fail
    refine (toTown_ex nd A n c l _ Hn.out hm (HR.out.below HW.out)).mono ?_
    rintro e w11 ⟨⟨g3, rfl, hgl, hgu, hr⟩, hq⟩
    have hb : Below w10.heap.size w10 w11 := hq
    have HS11 := hide hb.size
    replace a0 := cell_on a0 hb
    replace a1 := cell_on a1 hb
    replace d0 := cell_on d0 hb
    replace d1 := cell_on d1 hb
    replace HO1 := hide (own_below HO1.out hb)
    replace HO2 := hide (own_below HO2.out hb)
    replace HW : Hid (Below w.heap.size w w11) := hide (below_step HW.out hb)
    have HR3 := hide hr.rd
    clear hb hq hr hgl hgu
    go_wp2_with fail
    refine (implRouteBetween_any nd i j _ n n l _ Hn.out (Nat.le_refl _) hnm HR3.out).mono ?_
    rintro e w12 ⟨⟨v3, rfl, ho⟩, hq⟩
    have hb : Below w11.heap.size w11 w12 := hq
    have HS12 := hide hb.size
    replace a0 := cell_on a0 hb
    replace a1 := cell_on a1 hb
    replace d0 := cell_on d0 hb
    replace d1 := cell_on d1 hb
    replace HO1 := hide (own_below HO1.out hb)
    replace HO2 := hide (own_below HO2.out hb)
    replace HW : Hid (Below w.heap.size w w12) := hide (below_step HW.out hb)
    have HO3 := hide ho
    have HL3 : Hid (∀ q, v3.ownBlock = some q → w11.heap.size ≤ q ∧ q < w12.heap.size) := hide (fun q hq => ⟨Nat.le_trans (by simp) (HO3.out.lt q hq).1, (HO3.out.lt q hq).2⟩)
    obtain ⟨A3, k3, hv3, -⟩ := own_open HO3.out
    subst hv3
    clear ho
    clear hb hq HR3
    go_wp2_with fail
    refine (eqIntS_same A3 A1 _ k3 k1 (rbL nd l i j) _ rfl HRL.out (own_rd HO3.out) (own_rd HO1.out)).mono ?_
    rintro e w13 ⟨rfl, hq⟩
    have hb : Below w12.heap.size w12 w13 := hq
    have HS13 := hide hb.size
    replace a0 := cell_on a0 hb
    replace a1 := cell_on a1 hb
    replace d0 := cell_on d0 hb
    replace d1 := cell_on d1 hb
    replace HO1 := hide (own_below HO1.out hb)
    replace HO2 := hide (own_below HO2.out hb)
    replace HO3 := hide (own_below HO3.out hb)
    replace HW : Hid (Below w.heap.size w w13) := hide (below_step HW.out hb)
    clear hb hq
    go_wp2_with fail
    refine (heldIntS_any A2 _ k2 1 _ (own_rd HO2.out) HRL.out (by omega) (by omega)).mono ?_
    rintro e w' ⟨rfl, rfl⟩
    go_wp2
    go_ret
    exact ⟨rfl, HW.out⟩
  · have sz := fun W => szTown_any nd A n c 1048576 W hnm (by omega) (by omega)
    rw [szStreet_neg (by omega)] at sz
    clear hnc hc
    go_enter Try.func6, Try.ntmps6
    go_wp2_with (go_at_call 15; ((with_reducible refine (sz _).mono ?_); rintro e w0 ⟨rfl, hb0⟩); obtain ⟨hc0, hf0⟩ := bcell hb0)
    go_ret
    exact ⟨rfl, (by repeat (first | exact Below.refl _ _ | refine below_step ?_ (by assumption) | refine below_step ?_ (Later.below _) | refine below_alloc ?_ _ | refine Below.drew ?_ | refine Below.setCell ?_ (by first | (simp; done) | (simp; omega)) _))⟩
end Go.Proofs.Ytajkeepbabfgpaa

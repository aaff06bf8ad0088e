/- The law FnExactParseHoses: what the law's call returns. -/
import Derived.Test.YtmoelgbbgepckaaDoorConvHose
import Derived.Test.YtmoelgbbgepckaaDoorRowHose
import Derived.Test.YtmoelgbbgepckaaDoorPhI
import Derived.Test.YtmoelgbbgepckaaDoorPhS
namespace Go.Proofs.YtmoelgbbgepckaaDoor
open Go.RowKit
set_option linter.unusedVariables false

set_option maxRecDepth 100000 in
set_option maxHeartbeats 4000000 in
theorem FnExactParseHoses_walk (s : ByteArray) (w : World) (hs : s.size ≤ maxLen) (he : TxtEnv w) :
    Calls Tryd.prog 4 #[.string s] w fun e w' => e = .returned (.bool true) ∧ Below w.heap.size w w' := by
  unfold maxLen at hs
  by_cases hz : s.size ≤ 1048576
  · have Q1 := hide (specParseHoses_any s w hz)
    have Q2 := hide (fun W (hb : Below w.heap.size w W) => implParseHoses_any s W hz (he.below hb))
    rw [ph_same s] at Q2
    have HRL : Hid ((outH (phS s)).length ≤ 1048576) := hide (outH_le s)
    have hz' : (s.size : Int) ≤ 1048576 := by omega
    clear he
    go_enter Tryd.func4, Tryd.ntmps4
    go_wp2_with fail
    refine (Q1.out).mono ?_
    rintro e w0 ⟨⟨v1, rfl, ho⟩, hq⟩
    have hb : Below w.heap.size w w0 := hq
    have HS0 := hide hb.size
    have HW : Hid (Below w.heap.size w w0) := hide hb
    have HO1 := hide ho
    have HL1 : Hid (∀ q, v1.ownBlock = some q → w.heap.size ≤ q ∧ q < w0.heap.size) := hide (fun q hq => ⟨Nat.le_trans (by simp) (HO1.out.lt q hq).1, (HO1.out.lt q hq).2⟩)
    obtain ⟨A1, k1, hv1, -⟩ := own_open HO1.out
    subst hv1
    clear ho
    clear hb hq Q1
    go_wp2_with fail
    refine (Q2.out _ HW.out).mono ?_
    rintro e w1 ⟨⟨v2, rfl, ho⟩, hq⟩
    have hb : Below w0.heap.size w0 w1 := hq
    have HS1 := hide hb.size
    replace HO1 := hide (own_below HO1.out hb)
    replace HW : Hid (Below w.heap.size w w1) := hide (below_step HW.out hb)
    have HO2 := hide ho
    have HL2 : Hid (∀ q, v2.ownBlock = some q → w0.heap.size ≤ q ∧ q < w1.heap.size) := hide (fun q hq => ⟨Nat.le_trans (by simp) (HO2.out.lt q hq).1, (HO2.out.lt q hq).2⟩)
    obtain ⟨A2, k2, hv2, -⟩ := own_open HO2.out
    subst hv2
    clear ho
    clear hb hq
    go_wp2_with fail
    refine (eqHoseS_same A2 A1 _ k2 k1 (outH (phS s)) _ rfl HRL.out (own_rd HO2.out) (own_rd HO1.out)).mono ?_
    rintro e w2 ⟨rfl, hq⟩
    have hb : Below w1.heap.size w1 w2 := hq
    have HS2 := hide hb.size
    replace HO1 := hide (own_below HO1.out hb)
    replace HO2 := hide (own_below HO2.out hb)
    replace HW : Hid (Below w.heap.size w w2) := hide (below_step HW.out hb)
    clear hb hq
    go_wp2_with fail
    refine (markHoseS_own _ _ _ _ 1 _ HO2.out HRL.out (by omega) (by omega)).mono ?_
    rintro e w3 ⟨rfl, ho, hg⟩
    have HS3 := hide hg.size
    replace HO1 := hide (own_kept HO1.out hg (fun q hq e => by have := HL2.out _ e.symm; have := HL1.out q hq; have := HS0.out; have := HS1.out; have := HS2.out; have := HS3.out; omega))
    replace HW : Hid (Below w.heap.size w w3) := hide (HW.out.grown hg HW.out.size (fun q e => by have := HL2.out _ e; have := HS0.out; have := HS1.out; have := HS2.out; have := HS3.out; omega))
    replace HO2 := hide ho
    clear ho hg
    go_wp2_with fail
    refine (heldHoseS_any A2 _ k2 1 _ (own_rd HO2.out) HRL.out (by omega) (by omega)).mono ?_
    rintro e w' ⟨rfl, rfl⟩
    go_wp2_with fail
    refine (Q2.out _ HW.out).mono ?_
    rintro e w4 ⟨⟨v3, rfl, ho⟩, hq⟩
    have hb : Below w3.heap.size w3 w4 := hq
    have HS4 := hide hb.size
    replace HO1 := hide (own_below HO1.out hb)
    replace HO2 := hide (own_below HO2.out hb)
    replace HW : Hid (Below w.heap.size w w4) := hide (below_step HW.out hb)
    have HO3 := hide ho
    have HL3 : Hid (∀ q, v3.ownBlock = some q → w3.heap.size ≤ q ∧ q < w4.heap.size) := hide (fun q hq => ⟨Nat.le_trans (by simp) (HO3.out.lt q hq).1, (HO3.out.lt q hq).2⟩)
    obtain ⟨A3, k3, hv3, -⟩ := own_open HO3.out
    subst hv3
    clear ho
    clear hb hq
    go_wp2_with fail
    refine (eqHoseS_same A3 A1 _ k3 k1 (outH (phS s)) _ rfl HRL.out (own_rd HO3.out) (own_rd HO1.out)).mono ?_
    rintro e w5 ⟨rfl, hq⟩
    have hb : Below w4.heap.size w4 w5 := hq
    have HS5 := hide hb.size
    replace HO1 := hide (own_below HO1.out hb)
    replace HO2 := hide (own_below HO2.out hb)
    replace HO3 := hide (own_below HO3.out hb)
    replace HW : Hid (Below w.heap.size w w5) := hide (below_step HW.out hb)
    clear hb hq
    go_wp2_with fail
    refine (heldHoseS_any A2 _ k2 1 _ (own_rd HO2.out) HRL.out (by omega) (by omega)).mono ?_
    rintro e w' ⟨rfl, rfl⟩
    go_wp2
    go_ret
    exact ⟨rfl, HW.out⟩
  · have hz' : (1048576 : Int) < (s.size : Int) := by omega
    clear he
    go_enter Tryd.func4, Tryd.ntmps4
    go_wp2
    go_ret
    exact ⟨rfl, Below.refl _ _⟩
end Go.Proofs.YtmoelgbbgepckaaDoor

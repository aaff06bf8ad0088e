/- The law FnHoses: what the law's call returns. -/
import Derived.Test.YtmoelgbbgepckaaDoorFnHoM
import Derived.Test.YtmoelgbbgepckaaDoorQHo
import Derived.Test.YtmoelgbbgepckaaDoorDrawHP
import Derived.Test.YtmoelgbbgepckaaDoorPhI
import Derived.Test.YtmoelgbbgepckaaDoorPhS
import Derived.Deep.DeepCutAuto
import Derived.Deep.CutBlock
import Derived.Deep.LoopGhost
namespace Go.Proofs.YtmoelgbbgepckaaDoor
open Go.RowKit
set_option linter.unusedVariables false

theorem byte_bd {l : List Int} (h : ∀ x ∈ l, (Lit.int .u8 x).wf = true) : ∀ x ∈ l, 0 ≤ x ∧ x ≤ 255 := fun x hx => by
  have := h x hx
  simp [Lit.wf] at this
  have e1 : IntKind.u8.min = 0 := rfl
  have e2 : IntKind.u8.max = 255 := rfl
  omega

/-- What is kept in memory. -/
def HoF (w W : World) (tb : Nat) (x y : Int) (B1 : Option Addr) (ls : List (Int × Int)) (B2 : Option Addr) (us : List (Int × Int)) : Prop :=
  Below w.heap.size w W ∧ Row W tb [.int .i64 x, .int .i64 y] ∧ Rd W B1 (ls.flatMap hcells) ∧ Rd W B2 (us.flatMap hcells)
theorem HoF.below {w W W' : World} {tb : Nat} {x y : Int} {B1 B2 : Option Addr} {ls us : List (Int × Int)} (h : HoF w W tb x y B1 ls B2 us) (hb : Below W.heap.size W W') : HoF w W' tb x y B1 ls B2 us := ⟨below_step h.1 hb, h.2.1.below hb, h.2.2.1.below hb, h.2.2.2.below hb⟩

set_option maxRecDepth 100000 in
set_option maxHeartbeats 16000000 in
theorem FnHoses_walk (A : Option Addr) (n c : Nat) (code : List Int) (B : Option Addr) (m k : Nat) (more : List Int) (w : World) (hn : n = code.length) (hnc : n ≤ c) (hc : c ≤ maxLen) (hr : Rd w A (code.map (Value.int .u8))) (hs : ∀ x ∈ code, (Lit.int .u8 x).wf = true)
    (hn2 : m = more.length) (hnc2 : m ≤ k) (hc2 : k ≤ maxLen) (hr2 : Rd w B (more.map (Value.int .u8))) (hs2 : ∀ x ∈ more, (Lit.int .u8 x).wf = true) (he : TxtEnv w) :
    Calls Tryd.prog 5 #[.slice A n c, .slice B m k] w fun e w' => e = .returned (.bool true) ∧ Below w.heap.size w w' := by
  have H1 := hide (And.intro hn (And.intro (Nat.le_trans hnc hc) (And.intro (byte_bd hs) hr)))
  have H2 := hide (And.intro hn2 (And.intro (Nat.le_trans hnc2 hc2) (And.intro (byte_bd hs2) hr2)))
  have HE := hide (fun W (h : Below w.heap.size w W) => he.below h)
  have hb1 : n ≤ 9223372036854775807 := by unfold maxLen at hc; omega
  have hb2 : m ≤ 9223372036854775807 := by unfold maxLen at hc2; omega
  obtain ⟨sv, hsv⟩ : ∃ sv, IntKind.i64.wrap ((n : Int) + (m : Int)) = sv := ⟨_, rfl⟩
  clear hn hr hs hn2 hr2 hs2 hnc hc hnc2 hc2 he
  by_cases hbig : 1048576 < sv
  · go_enter Tryd.func5, Tryd.ntmps5
    go_wp2
    go_ret
    exact ⟨rfl, Below.refl _ _⟩
  go_enter Tryd.func5, Tryd.ntmps5
  go_wp2_with fail
  refine (DrawGreatestFlow_any A n c code _ H1.out.1 H1.out.2.1 H1.out.2.2.1 H1.out.2.2.2).mono ?_
  rintro e w1 ⟨⟨B1, m1, k1, ls, p, rfl, hm1, hmm, hrd, -⟩, hb⟩
  have HW := hide hb
  have HM1 := hide hm1
  have HMM1 : Hid (m1 ≤ 1048576) := hide (by omega)
  have HR1 := hide hrd
  clear hb hm1 hmm hrd
  go_wp2_with fail
  refine (implGreatestFlow_any B1 m1 k1 p ls _ HM1.out HMM1.out HR1.out).mono ?_
  rintro e w2 ⟨rfl, hb⟩
  replace HW := hide (below_step HW.out hb)
  replace HR1 := hide (HR1.out.below hb)
  clear hb
  go_wp2_with fail
  refine (specGreatestFlow_any B1 m1 k1 p ls _ HM1.out HMM1.out HR1.out).mono ?_
  rintro e w3 ⟨rfl, hb⟩
  replace HW := hide (below_step HW.out hb)
  replace HR1 := hide (HR1.out.below hb)
  clear hb
  obtain ⟨gv, hgv⟩ : ∃ gv, gv = gfR ls p := ⟨_, rfl⟩
  obtain ⟨go, hgo⟩ : ∃ go, go = gfOk ls p := ⟨_, rfl⟩
  have G1 := ho1 (hs := ls) (p := p)
  rw [← hgv, ← hgo] at G1
  replace G1 := hide G1
  rw [← hgv, ← hgo]
  clear hgv hgo
  go_wp2_with fail
  refine (DrawLineLoss_any B m k more _ H2.out.1 H2.out.2.1 H2.out.2.2.1 (H2.out.2.2.2.below HW.out)).mono ?_
  rintro e w4 ⟨⟨B2, m2, k2, us, f, rfl, hm1, hmm, hrd, -⟩, hb⟩
  replace HW := hide (below_step HW.out hb)
  replace HR1 := hide (HR1.out.below hb)
  have HM2 := hide hm1
  have HMM2 : Hid (m2 ≤ 1048576) := hide (by omega)
  have HR2 := hide hrd
  clear hb hm1 hmm hrd
  go_wp2_with fail
  refine (implLineLoss_any B2 m2 k2 f us _ HM2.out HMM2.out HR2.out).mono ?_
  rintro e w5 ⟨rfl, hb⟩
  replace HW := hide (below_step HW.out hb)
  replace HR1 := hide (HR1.out.below hb)
  replace HR2 := hide (HR2.out.below hb)
  clear hb
  go_wp2_with fail
  refine (specLineLoss_any B2 m2 k2 f us _ HM2.out HMM2.out HR2.out).mono ?_
  rintro e w6 ⟨rfl, hb⟩
  replace HW := hide (below_step HW.out hb)
  replace HR1 := hide (HR1.out.below hb)
  replace HR2 := hide (HR2.out.below hb)
  clear hb
  obtain ⟨lv, hlv⟩ : ∃ lv, lv = lineR us f := ⟨_, rfl⟩
  obtain ⟨lo, hlo⟩ : ∃ lo, lo = lineOk us f := ⟨_, rfl⟩
  rw [← hlv, ← hlo]
  have HLV := hide hlv
  have HLO := hide hlo
  clear hlv hlo
  go_wp2_with fail
  refine (DrawHoseLoss_any B m k more _ H2.out.1 H2.out.2.1 H2.out.2.2.1 (H2.out.2.2.2.below HW.out)).mono ?_
  rintro e w7 ⟨⟨kx, lx, g, rfl, -, -, -⟩, hb⟩
  replace HW := hide (below_step HW.out hb)
  replace HR1 := hide (HR1.out.below hb)
  replace HR2 := hide (HR2.out.below hb)
  clear hb
  have HF : Hid (HoF w (w7.alloc (.cells #[.int .i64 kx, .int .i64 lx] 40)) w7.heap.size kx lx B1 ls B2 us) := hide ⟨below_alloc HW.out _, Row.new _ _ _, HR1.out.alloc _, HR2.out.alloc _⟩
  clear HW HR1 HR2
  go_upto_region 10 with fail
  generalize w7.alloc (.cells #[.int .i64 kx, .int .i64 lx] 40) = w8 at *
  generalize w7.heap.size = tb at *
  have b0 := HF.out.2.1.2.1 0 _ rfl
  have b1 := HF.out.2.1.2.1 1 _ rfl
  have bz := HF.out.2.1.1
  go_wp2_with fail
  refine (implHoseLoss_any kx lx g _).mono ?_
  rintro e w9 ⟨rfl, hq⟩
  replace HF := hide (HF.out.below hq)
  clear b0 b1 bz hq
  have b0 := HF.out.2.1.2.1 0 _ rfl
  have b1 := HF.out.2.1.2.1 1 _ rfl
  have bz := HF.out.2.1.1
  go_wp2_with fail
  refine (specHoseLoss_any kx lx g _).mono ?_
  rintro e w10 ⟨rfl, hq⟩
  replace HF := hide (HF.out.below hq)
  clear b0 b1 bz hq
  obtain ⟨xv, hxv⟩ : ∃ xv, xv = lossV kx lx g := ⟨_, rfl⟩
  obtain ⟨xo, hxo⟩ : ∃ xo, xo = lossOk kx lx g := ⟨_, rfl⟩
  rw [← hxv, ← hxo]
  have HX : Hid (xo = true → hoseB kx lx = true) := hide (fun h => loss_hose (hxo.symm.trans h))
  clear hxv hxo
  go_wp2_with fail
  refine (DrawHoseText_any B m k more _ H2.out.1 H2.out.2.1 H2.out.2.2.1 (H2.out.2.2.2.below HF.out.1)).mono ?_
  rintro e w11 ⟨⟨B3, m3, k3, vs, rfl, hm1, hmm, hrd⟩, hb⟩
  replace HF := hide (HF.out.below hb)
  have HM3 := hide hm1
  have HMM3 : Hid (m3 ≤ 1048576) := hide (by omega)
  have HR3 := hide hrd
  clear hb hm1 hmm hrd
  go_wp2_with fail
  refine (implHoseText_any B3 m3 k3 vs _ HM3.out HMM3.out (HE.out _ HF.out.1).num.tab HR3.out).mono ?_
  rintro e w12 ⟨rfl, hb⟩
  replace HF := hide (HF.out.below hb)
  replace HR3 := hide (HR3.out.below hb)
  clear hb
  go_wp2_with fail
  refine (specHoseText_any B3 m3 k3 vs _ HM3.out HMM3.out HR3.out).mono ?_
  rintro e w13 ⟨rfl, hb⟩
  replace HF := hide (HF.out.below hb)
  replace HR3 := hide (HR3.out.below hb)
  clear hb
  obtain ⟨tv, htv⟩ : ∃ tv, tv = txH vs := ⟨_, rfl⟩
  obtain ⟨vo, hvo⟩ : ∃ vo, vo = lineB vs := ⟨_, rfl⟩
  rw [← htv, ← hvo]
  have HTV := hide htv
  have HVO := hide hvo
  clear htv hvo
  go_wp2_with fail
  refine (DrawParseHoses_any B m k more _ H2.out.1 H2.out.2.1 H2.out.2.2.1 (H2.out.2.2.2.below HF.out.1)).mono ?_
  rintro e w14 ⟨⟨s, rfl, hsz⟩, hb⟩
  replace HF := hide (HF.out.below hb)
  replace HR3 := hide (HR3.out.below hb)
  have HSZ : Hid (s.size ≤ 1048576) := hide (by omega)
  clear hb hsz
  have P1 := hide (fun W (hb : Below w.heap.size w W) => implParseHoses_any s W HSZ.out (HE.out W hb))
  have P2 := hide (fun W => specParseHoses_any s W HSZ.out)
  rw [ph_same s] at P1
  have HRL : Hid ((outH (phS s)).length ≤ 1048576) := hide (outH_le s)
  obtain ⟨o, ho⟩ : ∃ o, o = phS s := ⟨_, rfl⟩
  rw [← ho] at P1 P2 HRL
  clear ho
  go_wp2_with fail
  refine (P1.out _ HF.out.1).mono ?_
  rintro e w15 ⟨⟨v1, rfl, ho⟩, hb⟩
  obtain ⟨C1, c1, hv1, -⟩ := own_open ho
  subst hv1
  have HO1 := hide (own_rd ho)
  replace HF := hide (HF.out.below hb)
  replace HR3 := hide (HR3.out.below hb)
  clear hb ho
  go_wp2_with fail
  refine (P2.out _).mono ?_
  rintro e w16 ⟨⟨v2, rfl, ho⟩, hb⟩
  obtain ⟨C2, c2, hv2, -⟩ := own_open ho
  subst hv2
  have HO2 := hide (own_rd ho)
  replace HO1 := hide (HO1.out.below hb)
  replace HF := hide (HF.out.below hb)
  replace HR3 := hide (HR3.out.below hb)
  clear hb ho P1 P2
  generalize o.isSome = ob
  have HRS : Hid (∀ W, Below w16.heap.size w16 W → (Rd W C1 ((outH o).flatMap hcells) ∧ Rd W C2 ((outH o).flatMap hcells) ∧ Rd W B3 (vs.flatMap hcells)) ∧ HoF w W tb kx lx B1 ls B2 us) := hide (fun W hb => ⟨⟨HO1.out.below hb, HO2.out.below hb, HR3.out.below hb⟩, HF.out.below hb⟩)
  clear HF HO1 HO2 HR3
  obtain ⟨W8, hW8⟩ : ∃ W, W = w16 := ⟨_, rfl⟩
  have HBW : Hid (Below W8.heap.size W8 w16) := hide (by rw [hW8]; exact Below.refl _ _)
  rw [← hW8] at HRS
  clear hW8
  go_upto_region 18 with fail
  go_cut [185] (fun s wx => s = .bool false ∧ Hid (Below W8.heap.size W8 wx))
  case first => as_aux_lemma =>
    have QS := hide (fun W hb => qHoses_same C1 C2 _ c1 c2 (outH o) W rfl HRL.out (HRS.out W hb).1.1 (HRS.out W hb).1.2.1)
    go_wp2_with fail
    refine (QS.out _ HBW.out).mono ?_
    rintro e w17 ⟨rfl, hq⟩
    replace HBW := hide (below_step HBW.out hq)
    clear hq QS
    have b0 := (HRS.out _ HBW.out).2.2.1.2.1 0 _ rfl
    have b1 := (HRS.out _ HBW.out).2.2.1.2.1 1 _ rfl
    have bz := (HRS.out _ HBW.out).2.2.1.1
    cases xo with
    | false =>
      clear b0 b1 bz
      go_wp2_with fail
      go_meet
      exact ⟨rfl, HBW⟩
    | true =>
      have QI := hide (fun W => implIsHose_any kx lx W)
      rw [HX.out rfl] at QI
      go_wp2_with fail
      refine (QI.out _).mono ?_
      rintro e w18 ⟨rfl, hq⟩
      replace HBW := hide (below_step HBW.out hq)
      clear hq QI b0 b1 bz
      go_wp2_with fail
      go_meet
      exact ⟨rfl, HBW⟩
  clear HBW
  obtain ⟨rfl, HBW⟩ := hcut
  go_upto_if 186 with fail
  go_cut [] (fun wx => Hid (Below W8.heap.size W8 wx))
  case first => as_aux_lemma =>
    cases go with
    | false =>
      go_wp2_with fail
      go_meet
      exact HBW
    | true =>
      obtain ⟨⟨a0, a1⟩, a2, a3, a4⟩ := G1.out rfl
      have Q1 := hide (fun W hb => implLineLoss_any B1 m1 k1 gv ls W HM1.out HMM1.out (HRS.out W hb).2.2.2.1)
      rw [a2] at Q1
      have HA4 := hide a4
      clear a2 a4
      go_wp2_with fail
      refine (Q1.out _ HBW.out).mono ?_
      rintro e w17 ⟨rfl, hq⟩
      replace HBW := hide (below_step HBW.out hq)
      clear hq Q1
      by_cases h5 : gv < 3000
      · obtain ⟨a5, a6⟩ := HA4.out h5
        have Q2 := hide (fun W hb => implLineLoss_any B1 m1 k1 (gv + 1) ls W HM1.out HMM1.out (HRS.out W hb).2.2.2.1)
        rw [a5] at Q2
        clear a5
        go_wp2_with fail
        refine (Q2.out _ HBW.out).mono ?_
        rintro e w18 ⟨rfl, hq⟩
        replace HBW := hide (below_step HBW.out hq)
        clear hq Q2
        go_wp2_with fail
        go_meet
        exact HBW
      · go_wp2_with fail
        go_meet
        exact HBW
  clear HBW
  replace HBW := hide hcut.out
  clear hcut
  go_upto_if 216 with fail
  go_cut [] (fun wx => Hid (Below W8.heap.size W8 wx))
  case first => as_aux_lemma =>
    cases lo with
    | false =>
      go_wp2_with fail
      go_meet
      exact HBW
    | true =>
      have hok := HLO.out.symm
      obtain ⟨u1, u2, u3, u4, u5, u6, u7⟩ := ho2 hok
      have HU1 := hide u1
      have HLV2 : Hid (lv = lineSum us f) := hide (HLV.out.trans u2)
      have Q3 := hide (fun W hb => implLineLoss_any B2 m2 k2 0 us W HM2.out HMM2.out (HRS.out W hb).2.2.2.2)
      rw [u3, u4] at Q3
      have HBD := hide (fun j hj => sum_bd hok j hj)
      have HOK := hide hok
      obtain ⟨f0, f1⟩ := u6
      have HU5 := hide u5
      clear u1 u2 u3 u4 u5 u7 hok
      go_wp2_with fail
      go_loopg [37, 219] m2 (fun gg s t wr => ∃ j : Nat, t = .int .i64 (j : Int) ∧ j ≤ m2 ∧ Hid (m2 ≤ gg + j) ∧ s = .int .i64 (lineSum (us.take j) f) ∧ Hid (Below W8.heap.size W8 wr))
      case atStart => exact ⟨0, rfl, by omega, hide (by omega), by simp [lineSum], HBW⟩
      case round =>
        clear HBW
        obtain ⟨j, rfl, hj, HGK, rfl, HBW⟩ := hrel
        obtain ⟨s0, s1⟩ := HBD.out j (by have := HM2.out; omega)
        by_cases hlt : j < m2
        · obtain ⟨⟨x, y⟩, hh⟩ : ∃ h, us[j]? = some h := ⟨_, List.getElem?_eq_getElem (by rw [← HM2.out]; exact hlt)⟩
          have hlo := HU1.out (x, y) (List.mem_of_getElem? hh)
          dsimp only at hlo
          have hlv : lossV x y f = lossOf x y f := by rw [lossV, if_pos hlo]
          obtain ⟨s2, s3⟩ := HBD.out (j + 1) (by have := HM2.out; omega)
          have hsum := lineSum_succ hh f
          rw [hsum] at s2 s3
          dsimp only at s2 s3 hsum
          have QA := hide (fun W => implHoseLoss_any x y f W)
          have QB := hide (fun W => specHoseLoss_any x y f W)
          rw [hlo, hlv] at QA QB
          obtain ⟨b, off, rfl, hbs, c0, c1⟩ := (HRS.out _ HBW.out).2.2.2.2.get2 (fun _ => rfl) hh rfl
          dsimp only at c0 c1
          have HSUM := hide hsum
          generalize lineSum (us.take j) f = sj at *
          generalize lossOf x y f = lj at *
          have hj0 : (0 : Int) ≤ (j : Int) := by omega
          have hj1 : (j : Int) < (m2 : Int) := by omega
          have hmm := HMM2.out
          clear hsum hlo hlv hh
          go_upto_region 33 with fail
          have HF0 : Hid (Row (wr.alloc (.cells #[.int .i64 x, .int .i64 y] 40)) wr.heap.size [.int .i64 x, .int .i64 y]) := hide (Row.new _ _ _)
          have HB0 : Hid (Below W8.heap.size W8 (wr.alloc (.cells #[.int .i64 x, .int .i64 y] 40))) := hide (below_alloc HBW.out _)
          clear HBW c0 c1 hbs
          generalize wr.alloc (.cells #[.int .i64 x, .int .i64 y] 40) = w20 at *
          generalize wr.heap.size = xb at *
          have b0 := HF0.out.2.1 0 _ rfl
          have b1 := HF0.out.2.1 1 _ rfl
          have bz := HF0.out.1
          go_wp2_with fail
          refine (QA.out _).mono ?_
          rintro e w21 ⟨rfl, hq⟩
          replace HB0 := hide (below_step HB0.out hq)
          replace HF0 := hide (HF0.out.below hq)
          clear hq b0 b1 bz
          have b0 := HF0.out.2.1 0 _ rfl
          have b1 := HF0.out.2.1 1 _ rfl
          have bz := HF0.out.1
          go_wp2_with fail
          refine (QB.out _).mono ?_
          rintro e w22 ⟨rfl, hq⟩
          replace HB0 := hide (below_step HB0.out hq)
          clear hq b0 b1 bz HF0
          go_wp2_with fail
          go_roundg (gk - 1)
          case measure => have := HGK.out; omega
          case rel => exact ⟨j + 1, by go_num, by omega, hide (by have := HGK.out; omega), by rw [HSUM.out], HB0⟩
        · have hjm : j = m2 := by omega
          have hfull : lineSum (us.take j) f = lv := by rw [HLV2.out, List.take_of_length_le (by have := HM2.out; omega)]
          rw [hfull]
          clear hfull s0 s1
          have hjf : ((j : Int) < (m2 : Int)) = False := by simp; omega
          go_wp2_with fail
          refine (Q3.out _ HBW.out).mono ?_
          rintro e w18 ⟨rfl, hq⟩
          replace HBW := hide (below_step HBW.out hq)
          clear hq Q3
          go_wp2_with fail
          go_meet
          exact HBW
  clear HBW
  replace HBW := hide hcut.out
  clear hcut
  as_aux_lemma =>
    have HWW := hide (fun W (hb : Below W8.heap.size W8 W) => (HRS.out W hb).2.1)
    cases vo with
    | false =>
      go_wp2_with fail
      go_ret
      exact ⟨rfl, HWW.out _ HBW.out⟩
    | true =>
      have hvt := HVO.out.symm
      have htx : lineText vs = tv := by rw [HTV.out, txH_yes hvt, lineText]
      have hbk := back_I hvt htx
      have htz : tv.size ≤ 3000 := by rw [HTV.out, txH_yes hvt]; exact Nat.le_trans (thN_size hvt _) (by have := (lineB_iff hvt).2.2; omega)
      have P1 := hide (fun W (hb : Below w.heap.size w W) => implParseHoses_any tv W (by omega) (HE.out W hb))
      rw [hbk] at P1
      clear hvt htx hbk htz
      go_wp2_with fail
      refine (P1.out _ (HWW.out _ HBW.out)).mono ?_
      rintro e w17 ⟨⟨v1, rfl, ho⟩, hb⟩
      obtain ⟨D1, d1, hv1, -⟩ := own_open ho
      subst hv1
      have hrd : Rd w17 D1 (vs.flatMap hcells) := own_rd ho
      have HRD := hide hrd
      replace HBW := hide (below_step HBW.out hb)
      clear hb ho hrd P1
      have HLE : Hid ((outH (some vs)).length = m3) := hide HM3.out.symm
      have QS := hide (fun W h1 h2 => qHoses_same D1 B3 m3 d1 k3 vs W HM3.out HMM3.out h1 h2)
      rw [HLE.out]
      simp only [Option.isSome_some]
      go_wp2_with fail
      refine (QS.out _ HRD.out (HRS.out _ HBW.out).1.2.2).mono ?_
      rintro e w18 ⟨rfl, hq⟩
      replace HBW := hide (below_step HBW.out hq)
      clear hq QS
      go_wp2_with fail
      go_ret
      exact ⟨rfl, HWW.out _ HBW.out⟩
end Go.Proofs.YtmoelgbbgepckaaDoor

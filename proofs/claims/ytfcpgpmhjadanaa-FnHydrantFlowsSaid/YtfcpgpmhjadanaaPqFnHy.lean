/- The law FnHydrantFlows: what the law's call returns. -/
import Derived.Test.YtfcpgpmhjadanaaPqB
import Derived.Test.YtfcpgpmhjadanaaPqA
import Derived.Test.YtfcpgpmhjadanaaNetCo
import Derived.Test.YtfcpgpmhjadanaaPqC
import Derived.Test.YtfcpgpmhjadanaaPqE
import Derived.Deep.DeepCutAuto
import Derived.Deep.CutBlock
import Derived.Deep.LoopGhost
namespace Go.Proofs.Ytfcpgpmhjadanaa
open Go.RowKit
set_option linter.unusedVariables false

theorem hy_byte {l : List Int} (h : ∀ x ∈ l, (Lit.int .u8 x).wf = true) : ∀ x ∈ l, 0 ≤ x ∧ x ≤ 255 := fun x hx => by
  have := h x hx
  simp [Lit.wf] at this
  have e1 : IntKind.u8.min = 0 := rfl
  have e2 : IntKind.u8.max = 255 := rfl
  omega
theorem own_someN {w : World} {B sz n c : Nat} {e : TypeId} {A : Option Addr} {xs : List Value} (h : w.ownsRow B e sz (.slice A n c) n xs) : (A = none ∧ n = 0) ∨ ∃ b o, A = some ⟨b, o, none⟩ := by
  obtain ⟨A', cap, hv, hr, hn, hc, h0, h1⟩ := own_open h
  simp only [Value.slice.injEq, true_and] at hv
  obtain ⟨rfl, rfl⟩ := hv
  cases A with
  | none => exact .inl ⟨rfl, (h0 rfl).1⟩
  | some ad =>
    obtain ⟨b, off, sp⟩ := ad
    obtain ⟨rfl, rfl, -⟩ := h1 b off sp rfl
    exact .inr ⟨b, 0, rfl⟩
/-- What is kept in memory. -/
def HyF (w : World) (bx : Nat) (xs : List Value) (A B C F1 F2 : Option Addr) (M H : List (Int × Int)) (O FL : List Int) (W : World) : Prop :=
  Below w.heap.size w W ∧ Row W bx xs ∧ NetRd W A B M H ∧ Rd W C (O.map (Value.int .i64)) ∧ Rd W F1 (FL.map (Value.int .i64)) ∧ Rd W F2 (FL.map (Value.int .i64))
section
variable {w W : World} {bx : Nat} {xs : List Value} {A B C F1 F2 : Option Addr} {M H : List (Int × Int)} {O FL : List Int}
theorem HyF.bel (h : HyF w bx xs A B C F1 F2 M H O FL W) : Below w.heap.size w W := h.1
theorem HyF.box (h : HyF w bx xs A B C F1 F2 M H O FL W) : Row W bx xs := h.2.1
theorem HyF.net (h : HyF w bx xs A B C F1 F2 M H O FL W) : NetRd W A B M H := h.2.2.1
theorem HyF.opn (h : HyF w bx xs A B C F1 F2 M H O FL W) : Rd W C (O.map (Value.int .i64)) := h.2.2.2.1
theorem HyF.f1 (h : HyF w bx xs A B C F1 F2 M H O FL W) : Rd W F1 (FL.map (Value.int .i64)) := h.2.2.2.2.1
theorem HyF.f2 (h : HyF w bx xs A B C F1 F2 M H O FL W) : Rd W F2 (FL.map (Value.int .i64)) := h.2.2.2.2.2
theorem HyF.below {W' : World} (h : HyF w bx xs A B C F1 F2 M H O FL W) (hb : Below W.heap.size W W') : HyF w bx xs A B C F1 F2 M H O FL W' :=
  ⟨below_step h.1 hb, h.2.1.below hb, h.2.2.1.below hb, h.2.2.2.1.below hb, h.2.2.2.2.1.below hb, h.2.2.2.2.2.below hb⟩
end

set_option maxRecDepth 100000 in
set_option maxHeartbeats 16000000 in
theorem FnHydrantFlows_walk (A : Option Addr) (n c : Nat) (code : List Int) (B : Option Addr) (m k : Nat) (more : List Int) (w : World) (hn : n = code.length) (hnc : n ≤ c) (hc : c ≤ maxLen) (hr : Rd w A (code.map (Value.int .u8))) (hs : ∀ x ∈ code, (Lit.int .u8 x).wf = true)
    (hn2 : m = more.length) (hnc2 : m ≤ k) (hc2 : k ≤ maxLen) (hr2 : Rd w B (more.map (Value.int .u8))) (hs2 : ∀ x ∈ more, (Lit.int .u8 x).wf = true) :
    Calls Try.prog 3 #[.slice A n c, .slice B m k] w fun e w' => e = .returned (.bool true) ∧ Below w.heap.size w w' := by
  have H1 := hide (And.intro hn (And.intro (Nat.le_trans hnc hc) (And.intro (hy_byte hs) hr)))
  have H2 := hide (And.intro hn2 (And.intro (Nat.le_trans hnc2 hc2) (And.intro (hy_byte hs2) hr2)))
  have HB1 : Hid (n ≤ 9223372036854775807 ∧ m ≤ 9223372036854775807) := hide (by unfold maxLen at hc hc2; omega)
  have HMX : Hid ((1000 : Nat) ≤ maxLen) := hide (by unfold maxLen; omega)
  clear hn hr hs hn2 hr2 hs2 hnc hc hnc2 hc2
  go_enter Try.func3, Try.ntmps3
  go_wp2_with fail
  refine (big_any A B n c m k _ HB1.out.1 HB1.out.2).mono ?_
  rintro e w0 ⟨⟨b, rfl⟩, rfl⟩
  cases b with
  | true =>
    go_wp2
    go_ret
    exact ⟨rfl, Below.refl _ _⟩
  | false =>
  as_aux_lemma =>
  go_wp2_with fail
  refine (DrawFilledFlows_any A n c code _ H1.out.1 H1.out.2.1 H1.out.2.2.1 H1.out.2.2.2).mono ?_
  rintro e w1 ⟨⟨A1, c1, M, B1, k1, H, C, q, O, rfl, ⟨hl, hoM, hoH⟩, hO, hoC⟩, hb⟩
  have HNL := hide (And.intro (own_someN hoM) (own_someN hoH))
  have HLE : Hid (M.length ≤ 11 ∧ H.length ≤ 11 ∧ O.length ≤ 12) := hide ⟨hl.1.1, hl.1.2, hO⟩
  have HF0 : Hid (HyF w w1.heap.size [.slice A1 M.length c1, .slice B1 H.length k1] A1 B1 C none none M H O [] (w1.alloc (.cells #[.slice A1 M.length c1, .slice B1 H.length k1] 27))) := hide ⟨below_alloc hb _, Row.new _ _ _, NetRd.alloc ⟨own_rd hoM, own_rd hoH⟩ _, (own_rd hoC).alloc _, .inl (by simp), .inl (by simp)⟩
  clear hl hoM hoH hO hoC hb
  obtain ⟨nm, hnm⟩ : ∃ nm, nm = M.length := ⟨_, rfl⟩
  obtain ⟨nh, hnh⟩ : ∃ nh, nh = H.length := ⟨_, rfl⟩
  obtain ⟨no, hno⟩ : ∃ no, no = O.length := ⟨_, rfl⟩
  rw [← hnm, ← hnh] at HF0
  rw [← hnm, ← hnh, ← hno] at HLE
  rw [← hnm, ← hnh] at HNL
  rw [← hnm, ← hnh, ← hno]
  have HN := hide (And.intro hnm (And.intro hnh hno))
  clear hnm hnh hno
  have HML : Hid (nm ≤ maxLen ∧ nh ≤ maxLen ∧ no ≤ maxLen) := hide (by have := HMX.out; have := HLE.out; omega)
  go_upto_region 4 with fail
  generalize w1.alloc (.cells #[.slice A1 nm c1, .slice B1 nh k1] 27) = W1 at *
  generalize w1.heap.size = bx at *
  as_aux_lemma =>
  obtain ⟨ob, hob⟩ : ∃ ob, ob = openB M H O := ⟨_, rfl⟩
  have HOB := hide hob
  clear hob
  obtain ⟨FL, hfl⟩ : ∃ FL, FL = fiL M H O := ⟨_, rfl⟩
  have HFL := hide hfl
  clear hfl
  obtain ⟨nf, hnf⟩ : ∃ nf, nf = FL.length := ⟨_, rfl⟩
  have HNF := hide hnf
  clear hnf
  have b0 := HF0.out.box.2.1 0 _ rfl
  have b1 := HF0.out.box.2.1 1 _ rfl
  have bz := HF0.out.box.1
  go_wp2_with fail
  refine (implFilledFlows_any A1 B1 C nm c1 nh k1 no q M H O _ HN.out.1 HN.out.2.1 HML.out.1 HML.out.2.1 HN.out.2.2 HML.out.2.2 HF0.out.net HF0.out.opn).mono ?_
  rintro e w2 ⟨⟨v1, rfl, ho⟩, hb⟩
  rw [← HFL.out] at ho
  rw [← HOB.out]
  obtain ⟨F1, s1, hv1, hrd, -⟩ := own_open ho
  rw [← HNF.out] at hv1
  subst hv1
  have HGF1 := hide hrd
  replace HF0 := hide (HF0.out.below hb)
  have HBF1 := hide hb
  clear hb ho hrd b0 b1 bz
  have b0 := HF0.out.box.2.1 0 _ rfl
  have b1 := HF0.out.box.2.1 1 _ rfl
  have bz := HF0.out.box.1
  go_wp2_with fail
  refine (specFilledFlows_any A1 B1 C nm c1 nh k1 no q M H O _ HN.out.1 HN.out.2.1 HML.out.1 HML.out.2.1 HN.out.2.2 HML.out.2.2 HF0.out.net HF0.out.opn).mono ?_
  rintro e w3 ⟨⟨v1, rfl, ho⟩, hb⟩
  rw [← HFL.out] at ho
  rw [← HOB.out]
  obtain ⟨F2, s2, hv1, hrd, -⟩ := own_open ho
  rw [← HNF.out] at hv1
  subst hv1
  have HGF2 := hide hrd
  replace HF0 := hide (HF0.out.below hb)
  have HBF2 := hide hb
  clear hb ho hrd b0 b1 bz
  replace HGF1 := hide (HGF1.out.below HBF2.out)
  clear HBF1 HBF2
  have HF1 : Hid (HyF w bx [.slice A1 nm c1, .slice B1 nh k1] A1 B1 C F1 F2 M H O FL w3) := hide ⟨HF0.out.bel, HF0.out.box, HF0.out.net, HF0.out.opn, HGF1.out, HGF2.out⟩
  clear HF0 HGF1 HGF2
  have HF := HF1
  clear HF1
  as_aux_lemma =>
  obtain ⟨gv, hgv⟩ : ∃ gv, gv = grV M H O := ⟨_, rfl⟩
  have HGV := hide hgv
  clear hgv
  obtain ⟨fv, hfv⟩ : ∃ fv, fv = faV M H O := ⟨_, rfl⟩
  have HFV := hide hfv
  clear hfv
  obtain ⟨fb, hfb⟩ : ∃ fb, fb = fairOk M H O := ⟨_, rfl⟩
  have HFB := hide hfb
  clear hfb
  obtain ⟨sc, hsc⟩ : ∃ sc, sc = scV M H O := ⟨_, rfl⟩
  have HSC := hide hsc
  clear hsc
  have b0 := HF.out.box.2.1 0 _ rfl
  have b1 := HF.out.box.2.1 1 _ rfl
  have bz := HF.out.box.1
  go_wp2_with fail
  refine (implGreatestSum_any A1 B1 C nm c1 nh k1 no q M H O _ HN.out.1 HN.out.2.1 HML.out.1 HML.out.2.1 HN.out.2.2 HML.out.2.2 HF.out.net HF.out.opn).mono ?_
  rintro e w4 ⟨rfl, hb⟩
  rw [← HOB.out, ← HGV.out]
  replace HF := hide (HF.out.below hb)
  clear hb b0 b1 bz
  have b0 := HF.out.box.2.1 0 _ rfl
  have b1 := HF.out.box.2.1 1 _ rfl
  have bz := HF.out.box.1
  go_wp2_with fail
  refine (specGreatestSum_any A1 B1 C nm c1 nh k1 no q M H O _ HN.out.1 HN.out.2.1 HML.out.1 HML.out.2.1 HN.out.2.2 HML.out.2.2 HF.out.net HF.out.opn).mono ?_
  rintro e w5 ⟨rfl, hb⟩
  rw [← HOB.out, ← HGV.out]
  replace HF := hide (HF.out.below hb)
  clear hb b0 b1 bz
  have b0 := HF.out.box.2.1 0 _ rfl
  have b1 := HF.out.box.2.1 1 _ rfl
  have bz := HF.out.box.1
  go_wp2_with fail
  refine (implFairFlow_any A1 B1 C nm c1 nh k1 no q M H O _ HN.out.1 HN.out.2.1 HML.out.1 HML.out.2.1 HN.out.2.2 HML.out.2.2 HF.out.net HF.out.opn).mono ?_
  rintro e w6 ⟨rfl, hb⟩
  rw [← HFB.out, ← HFV.out]
  replace HF := hide (HF.out.below hb)
  clear hb b0 b1 bz
  have b0 := HF.out.box.2.1 0 _ rfl
  have b1 := HF.out.box.2.1 1 _ rfl
  have bz := HF.out.box.1
  go_wp2_with fail
  refine (specFairFlow_any A1 B1 C nm c1 nh k1 no q M H O _ HN.out.1 HN.out.2.1 HML.out.1 HML.out.2.1 HN.out.2.2 HML.out.2.2 HF.out.net HF.out.opn).mono ?_
  rintro e w7 ⟨rfl, hb⟩
  rw [← HFB.out, ← HFV.out]
  replace HF := hide (HF.out.below hb)
  clear hb b0 b1 bz
  have b0 := HF.out.box.2.1 0 _ rfl
  have b1 := HF.out.box.2.1 1 _ rfl
  have bz := HF.out.box.1
  go_wp2_with fail
  refine (implScarceMain_any A1 B1 C nm c1 nh k1 no q M H O _ HN.out.1 HN.out.2.1 HML.out.1 HML.out.2.1 HN.out.2.2 HML.out.2.2 HF.out.net HF.out.opn).mono ?_
  rintro e w8 ⟨rfl, hb⟩
  rw [← HOB.out, ← HSC.out]
  replace HF := hide (HF.out.below hb)
  clear hb b0 b1 bz
  have b0 := HF.out.box.2.1 0 _ rfl
  have b1 := HF.out.box.2.1 1 _ rfl
  have bz := HF.out.box.1
  go_wp2_with fail
  refine (specScarceMain_all A1 B1 C nm c1 nh k1 no q M H O _ HN.out.1 HN.out.2.1 HML.out.1 HML.out.2.1 HN.out.2.2 HML.out.2.2 HF.out.net HF.out.opn HNL.out.1 HNL.out.2).mono ?_
  rintro e w9 ⟨rfl, hb⟩
  rw [← HOB.out, ← HSC.out]
  replace HF := hide (HF.out.below hb)
  clear hb b0 b1 bz
  obtain ⟨W8, hW8⟩ : ∃ W, W = w9 := ⟨_, rfl⟩
  have HBW : Hid (Below W8.heap.size W8 w9) := hide (by rw [hW8]; exact Below.refl _ _)
  have HFF : Hid (∀ W, Below W8.heap.size W8 W → HyF w bx [.slice A1 nm c1, .slice B1 nh k1] A1 B1 C F1 F2 M H O FL W) := hide (fun W h => by rw [hW8] at h; exact HF.out.below h)
  clear HF hW8
  as_aux_lemma =>
  go_upto_region 12 with fail
  go_cut [161] (fun s wx => s = .bool false ∧ Hid (Below W8.heap.size W8 wx))
  case first => as_aux_lemma =>
    have QS := hide (fun W hb => sameInts_same F1 F2 nf s1 s2 FL W HNF.out (by rw [HNF.out, HFL.out]; exact fiL_length M H O) (HFF.out W hb).f1 (HFF.out W hb).f2)
    have hfb : fb = (ob && decide (0 < no)) := by rw [HFB.out, fairOk, HOB.out, HN.out.2.2]
    cases ob with
    | false =>
      obtain rfl : fb = false := hfb
      go_wp2_with fail
      refine (QS.out _ HBW.out).mono ?_
      rintro e w17 ⟨rfl, hq⟩
      replace HBW := hide (below_step HBW.out hq)
      clear hq QS
      go_wp2_with fail
      go_meet
      exact ⟨rfl, HBW⟩
    | true =>
      by_cases hz : 0 < no
      · obtain rfl : fb = true := by rw [hfb]; simp [hz]
        have hz' : (0 : Int) < (no : Int) := by omega
        clear hfb
        go_wp2_with fail
        refine (QS.out _ HBW.out).mono ?_
        rintro e w17 ⟨rfl, hq⟩
        replace HBW := hide (below_step HBW.out hq)
        clear hq QS
        go_wp2_with fail
        go_meet
        exact ⟨rfl, HBW⟩
      · obtain rfl : fb = false := by rw [hfb]; simp [hz]
        have hz' : ((0 : Int) < (no : Int)) = False := eq_false (by omega)
        clear hfb
        go_wp2_with fail
        refine (QS.out _ HBW.out).mono ?_
        rintro e w17 ⟨rfl, hq⟩
        replace HBW := hide (below_step HBW.out hq)
        clear hq QS
        go_wp2_with fail
        go_meet
        exact ⟨rfl, HBW⟩
  clear HBW
  obtain ⟨rfl, HBW⟩ := hcut
  as_aux_lemma =>
  go_upto_if 162 with fail
  go_cut [] (fun wx => Hid (Below W8.heap.size W8 wx))
  case first => as_aux_lemma =>
    cases ob with
    | false =>
      go_wp2_with fail
      go_meet
      exact HBW
    | true =>
      have hop : openB M H O = true := HOB.out.symm
      obtain ⟨y1, y2, y3, y4, y5, y6, y7⟩ := hy1 hop
      rw [← HFL.out] at y1 y2 y3 y4 y5 y6 y7
      rw [← HGV.out] at y5
      rw [← HNF.out] at y6
      have HY := hide (And.intro y5 (And.intro y6 y7))
      have Q1 := hide (fun W hb => implOverloadedMains_any A1 B1 F1 nm c1 nh k1 nf s1 M H FL W HN.out.1 HN.out.2.1 HML.out.1 HML.out.2.1 HNF.out (by have := HMX.out; omega) (HFF.out W hb).net (HFF.out W hb).f1)
      have Q2 := hide (fun W hb => implIsGreatest_any A1 B1 C F1 nm c1 nh k1 no q nf s1 M H O FL W HN.out.1 HN.out.2.1 HML.out.1 HML.out.2.1 HN.out.2.2 (by have := HLE.out; omega) HNF.out (by omega) (HFF.out W hb).net (HFF.out W hb).opn (HFF.out W hb).f1)
      have Q3 := hide (fun W hb => pSum_any F2 nf s2 FL W HNF.out (by omega) y7 (HFF.out W hb).f2)
      rw [y1, y2] at Q1
      rw [y3, y4] at Q2
      rw [y5] at Q3
      have HOP := hide hop
      clear y1 y2 y3 y4 y5 y6 y7 hop
      have b0 := (HFF.out _ HBW.out).box.2.1 0 _ rfl
      have b1 := (HFF.out _ HBW.out).box.2.1 1 _ rfl
      have bz := (HFF.out _ HBW.out).box.1
      go_wp2_with fail
      refine (Q1.out _ HBW.out).mono ?_
      rintro e w10 ⟨⟨v1, rfl, ho⟩, hq⟩
      obtain ⟨X1, x1, hv1, -⟩ := own_open ho
      have hv2 : v1 = .slice X1 0 x1 := hv1
      subst hv2
      replace HBW := hide (below_step HBW.out hq)
      clear hq Q1 b0 b1 bz ho hv1
      have b0 := (HFF.out _ HBW.out).box.2.1 0 _ rfl
      have b1 := (HFF.out _ HBW.out).box.2.1 1 _ rfl
      have bz := (HFF.out _ HBW.out).box.1
      go_wp2_with fail
      refine (Q2.out _ HBW.out).mono ?_
      rintro e w11 ⟨rfl, hq⟩
      replace HBW := hide (below_step HBW.out hq)
      clear hq Q2 b0 b1 bz
      go_wp2_with fail
      refine (Q3.out _ HBW.out).mono ?_
      rintro e w12 ⟨rfl, hq⟩
      replace HBW := hide (below_step HBW.out hq)
      clear hq Q3
      as_aux_lemma =>
      go_upto_region 19 with fail
      go_cut [205] (fun s wx => s = .bool false ∧ Hid (Below W8.heap.size W8 wx))
      case first => as_aux_lemma =>
        cases fb with
        | false =>
          go_wp2_with fail
          go_meet
          exact ⟨rfl, HBW⟩
        | true =>
          have h2 := hy2 HFB.out.symm
          rw [← HGV.out, ← HFV.out, ← HN.out.2.2] at h2
          have hgb := gr_bd M H O
          rw [← HGV.out] at hgb
          obtain ⟨z, hz⟩ : ∃ z, fv * (no : Int) = z := ⟨_, rfl⟩
          rw [hz] at h2
          have hw : IntKind.i64.wrap (fv * (no : Int)) = z := by rw [hz]; exact IntWalk.i64_in _ (by omega)
          have hgz : (gv < z) = False := eq_false (by omega)
          clear h2 hgb hz
          go_wp2_with fail
          go_meet
          exact ⟨rfl, HBW⟩
      clear HBW
      obtain ⟨rfl, HBW⟩ := hcut
      as_aux_lemma =>
      obtain ⟨i0, hi0, hi1, hi2, hi3⟩ := hy3 HOP.out
      rw [← HSC.out] at hi0
      subst hi0
      have HI1 : Hid (i0 < M.length) := hide hi1
      obtain ⟨lv, hlv⟩ : ∃ lv, lv = grV (closeM M i0) H O := ⟨_, rfl⟩
      rw [← hlv, ← HGV.out] at hi2
      rw [← hlv] at hi3
      have HLV := hide (And.intro hlv (And.intro hi2 hi3))
      clear hlv hi1 hi2 hi3
      obtain ⟨w1', w2', w3'⟩ := wo_nat HOP.out HI1.out
      have Q4 := hide (fun W hb => implWithoutMain_any A1 B1 nm c1 nh k1 (i0 : Int) M H W HN.out.1 HN.out.2.1 HML.out.1 HML.out.2.1 (HFF.out W hb).net)
      have Q5 := hide (fun W hb => specWithoutMain_all A1 B1 nm c1 nh k1 (i0 : Int) M H W HN.out.1 HN.out.2.1 HML.out.1 HML.out.2.1 (HFF.out W hb).net HNL.out.1 HNL.out.2)
      have Q6 := hide (fun (W : World) (X Y : Option Addr) (x y : Nat) hb (hr : NetRd W X Y (closeM M i0) H) => implGreatestSum_any X Y C nm x nh y no q (closeM M i0) H O W (by rw [closeM_length]; exact HN.out.1) HN.out.2.1 HML.out.1 HML.out.2.1 HN.out.2.2 HML.out.2.2 hr (HFF.out W hb).opn)
      rw [← HLV.out.1, open_close HOP.out HI1.out] at Q6
      have HW0 := hide (And.intro w1' (And.intro w2' w3'))
      clear w1' w2' w3'
      have HHL := hide (show (closeM M i0).length = nm by rw [closeM_length]; exact HN.out.1.symm)
      have b0 := (HFF.out _ HBW.out).box.2.1 0 _ rfl
      have b1 := (HFF.out _ HBW.out).box.2.1 1 _ rfl
      have bz := (HFF.out _ HBW.out).box.1
      go_wp2_with fail
      refine (Q4.out _ HBW.out).mono ?_
      rintro e w13 ⟨⟨v1, v2, rfl, ho⟩, hq⟩
      rw [HW0.out.2.1, HW0.out.2.2] at ho
      rw [HW0.out.1]
      obtain ⟨X1, x1, hv1, hrd1, -⟩ := own_open ho.1
      obtain ⟨Y1, y1, hv2, hrd2, -⟩ := own_open ho.2
      rw [HHL.out] at hv1
      rw [← HN.out.2.1] at hv2
      subst hv1
      subst hv2
      
      replace HBW := hide (below_alloc (below_step HBW.out hq) (.cells #[.slice X1 nm x1, .slice Y1 nh y1] 27))
      have HE1 : Hid (Row (w13.alloc (.cells #[.slice X1 nm x1, .slice Y1 nh y1] 27)) w13.heap.size [.slice X1 nm x1, .slice Y1 nh y1] ∧ NetRd (w13.alloc (.cells #[.slice X1 nm x1, .slice Y1 nh y1] 27)) X1 Y1 (closeM M i0) H) := hide ⟨Row.new _ _ _, NetRd.alloc ⟨hrd1, hrd2⟩ _⟩
      clear hq b0 b1 bz ho hrd1 hrd2
      have b0 := (HFF.out _ HBW.out).box.2.1 0 _ rfl
      have b1 := (HFF.out _ HBW.out).box.2.1 1 _ rfl
      have bz := (HFF.out _ HBW.out).box.1
      go_wp2_with fail
      refine (Q5.out _ HBW.out).mono ?_
      rintro e w14 ⟨⟨v1, v2, rfl, ho⟩, hq⟩
      rw [HW0.out.2.1, HW0.out.2.2] at ho
      rw [HW0.out.1]
      obtain ⟨X2, x2, hv1, hrd1, -⟩ := own_open ho.1
      obtain ⟨Y2, y2, hv2, hrd2, -⟩ := own_open ho.2
      rw [HHL.out] at hv1
      rw [← HN.out.2.1] at hv2
      subst hv1
      subst hv2
      replace HE1 := hide (And.intro (HE1.out.1.below hq) (HE1.out.2.below hq))
      replace HBW := hide (below_alloc (below_step HBW.out hq) (.cells #[.slice X2 nm x2, .slice Y2 nh y2] 27))
      have HE2 : Hid (Row (w14.alloc (.cells #[.slice X2 nm x2, .slice Y2 nh y2] 27)) w14.heap.size [.slice X2 nm x2, .slice Y2 nh y2] ∧ NetRd (w14.alloc (.cells #[.slice X2 nm x2, .slice Y2 nh y2] 27)) X2 Y2 (closeM M i0) H) := hide ⟨Row.new _ _ _, NetRd.alloc ⟨hrd1, hrd2⟩ _⟩
      clear hq b0 b1 bz ho hrd1 hrd2
      as_aux_lemma =>
      go_upto_region 23 with fail
      replace HE1 := hide (And.intro (HE1.out.1.alloc (.cells #[.slice X2 nm x2, .slice Y2 nh y2] 27)) (NetRd.alloc HE1.out.2 (.cells #[.slice X2 nm x2, .slice Y2 nh y2] 27)))
      generalize w14.alloc (.cells #[.slice X2 nm x2, .slice Y2 nh y2] 27) = w15 at *
      generalize w14.heap.size = bk at *
      generalize w13.heap.size = bb at *
      have b0 := HE1.out.1.2.1 0 _ rfl
      have b1 := HE1.out.1.2.1 1 _ rfl
      have bz := HE1.out.1.1
      go_wp2_with fail
      refine (Q6.out _ X1 Y1 x1 y1 HBW.out HE1.out.2).mono ?_
      rintro e w16 ⟨rfl, hq⟩
      replace HE1 := hide (And.intro (HE1.out.1.below hq) (HE1.out.2.below hq))
      replace HE2 := hide (And.intro (HE2.out.1.below hq) (HE2.out.2.below hq))
      replace HBW := hide (below_step HBW.out hq)
      clear hq b0 b1 bz
      have QN := hide (pSameNet_same X1 Y1 X2 Y2 nm nh x1 y1 x2 y2 (closeM M i0) H w16 HHL.out.symm HN.out.2.1 (by have := HLE.out; omega) (by have := HLE.out; omega) HE1.out.2 HE2.out.2)
      have b0 := HE1.out.1.2.1 0 _ rfl
      have b1 := HE1.out.1.2.1 1 _ rfl
      have bz := HE1.out.1.1
      have d0 := HE2.out.1.2.1 0 _ rfl
      have d1 := HE2.out.1.2.1 1 _ rfl
      have dz := HE2.out.1.1
      have hlg : (gv < lv) = False := eq_false (by have := HLV.out.2.1; omega)
      go_wp2_with fail
      refine QN.out.mono ?_
      rintro e w17 ⟨rfl, hq⟩
      replace HBW := hide (below_step HBW.out hq)
      clear hq b0 b1 bz d0 d1 dz QN HE1 HE2
      have b0 := (HFF.out _ HBW.out).box.2.1 0 _ rfl
      have b1 := (HFF.out _ HBW.out).box.2.1 1 _ rfl
      have bz := (HFF.out _ HBW.out).box.1
      go_upto_region 27 with fail
      clear b0 b1 bz hlg
      as_aux_lemma =>
      have hnm11 : nm ≤ 11 := HLE.out.1
      go_loopg [248] nm (fun g t wr => ∃ j : Nat, t = .int .i64 (j : Int) ∧ j ≤ nm ∧ Hid (nm ≤ g + j) ∧ Hid (Below W8.heap.size W8 wr))
      case atStart => exact ⟨0, rfl, by omega, hide (by omega), HBW⟩
      case round =>
        clear HBW
        obtain ⟨j, rfl, hj, HGK, HBW⟩ := hrel
        by_cases hlt : j < nm
        · have hjM : j < M.length := by rw [← HN.out.1]; exact hlt
          obtain ⟨v1', v2', v3'⟩ := wo_nat HOP.out hjM
          have HV0 := hide (And.intro v1' (And.intro v2' v3'))
          have Q7 := hide (fun W hb => specWithoutMain_all A1 B1 nm c1 nh k1 (j : Int) M H W HN.out.1 HN.out.2.1 HML.out.1 HML.out.2.1 (HFF.out W hb).net HNL.out.1 HNL.out.2)
          have Q8 := hide (fun (W : World) (X Y : Option Addr) (x y : Nat) hb (hr : NetRd W X Y (closeM M j) H) => specGreatestSum_any X Y C nm x nh y no q (closeM M j) H O W (by rw [closeM_length]; exact HN.out.1) HN.out.2.1 HML.out.1 HML.out.2.1 HN.out.2.2 HML.out.2.2 hr (HFF.out W hb).opn)
          rw [open_close HOP.out hjM] at Q8
          have hge := HLV.out.2.2 j hjM
          generalize grV (closeM M j) H O = rv at *
          have hrl : (rv < lv) = False := eq_false (by omega)
          have HJL := hide (show (closeM M j).length = nm by rw [closeM_length]; exact HN.out.1.symm)
          have hjn : (j : Int) < (nm : Int) := by omega
          clear v1' v2' v3' hge
          have b0 := (HFF.out _ HBW.out).box.2.1 0 _ rfl
          have b1 := (HFF.out _ HBW.out).box.2.1 1 _ rfl
          have bz := (HFF.out _ HBW.out).box.1
          go_wp2_with fail
          refine (Q7.out _ HBW.out).mono ?_
          rintro e w20 ⟨⟨v1, v2, rfl, ho⟩, hq⟩
          rw [HV0.out.2.1, HV0.out.2.2] at ho
          rw [HV0.out.1]
          obtain ⟨X3, x3, hv1, hrd1, -⟩ := own_open ho.1
          obtain ⟨Y3, y3, hv2, hrd2, -⟩ := own_open ho.2
          rw [HJL.out] at hv1
          rw [← HN.out.2.1] at hv2
          subst hv1
          subst hv2
          replace HBW := hide (below_alloc (below_step HBW.out hq) (.cells #[.slice X3 nm x3, .slice Y3 nh y3] 27))
          have HE3 : Hid (Row (w20.alloc (.cells #[.slice X3 nm x3, .slice Y3 nh y3] 27)) w20.heap.size [.slice X3 nm x3, .slice Y3 nh y3] ∧ NetRd (w20.alloc (.cells #[.slice X3 nm x3, .slice Y3 nh y3] 27)) X3 Y3 (closeM M j) H) := hide ⟨Row.new _ _ _, NetRd.alloc ⟨hrd1, hrd2⟩ _⟩
          clear hq b0 b1 bz ho hrd1 hrd2
          go_upto_region 30 with fail
          generalize w20.alloc (.cells #[.slice X3 nm x3, .slice Y3 nh y3] 27) = w21 at *
          generalize w20.heap.size = b3 at *
          have b0 := HE3.out.1.2.1 0 _ rfl
          have b1 := HE3.out.1.2.1 1 _ rfl
          have bz := HE3.out.1.1
          go_wp2_with fail
          refine (Q8.out _ X3 Y3 x3 y3 HBW.out HE3.out.2).mono ?_
          rintro e w22 ⟨rfl, hq⟩
          replace HBW := hide (below_step HBW.out hq)
          clear hq b0 b1 bz
          go_wp2_with fail
          go_roundg (gk - 1)
          case measure => have := HGK.out; omega
          case rel => exact ⟨j + 1, by go_num, by omega, hide (by have := HGK.out; omega), HBW⟩
        · have hjf : ((j : Int) < (nm : Int)) = False := eq_false (by omega)
          go_wp2_with fail
          go_meet
          exact HBW
  clear HBW
  replace HBW := hide hcut.out
  clear hcut
  replace HBW : Hid (Below w.heap.size w _) := hide (HFF.out _ HBW.out).bel
  clear HFF HNL HLE HML HN HOB HFL HNF HGV HFV HFB HSC
  as_aux_lemma =>
  go_wp2_with fail
  refine (DrawIsGreatest_any B m k more _ H2.out.1 H2.out.2.1 H2.out.2.2.1 (H2.out.2.2.2.below HBW.out)).mono ?_
  rintro e w30 ⟨⟨A2, c2, M2, B2, k2, H3, C2, q2, O2, E2, r2, G2, rfl, ⟨hl, hoM, hoH⟩, ⟨hO, hoC⟩, hG, hoE⟩, hb⟩
  have HLE : Hid (M2.length ≤ 11 ∧ H3.length ≤ 11 ∧ O2.length ≤ 12 ∧ G2.length ≤ 12) := hide ⟨hl.1.1, hl.1.2, hO, hG⟩
  have HF0 : Hid (HyF w w30.heap.size [.slice A2 M2.length c2, .slice B2 H3.length k2] A2 B2 C2 E2 E2 M2 H3 O2 G2 (w30.alloc (.cells #[.slice A2 M2.length c2, .slice B2 H3.length k2] 27))) := hide ⟨below_alloc (below_step HBW.out hb) _, Row.new _ _ _, NetRd.alloc ⟨own_rd hoM, own_rd hoH⟩ _, (own_rd hoC).alloc _, (own_rd hoE).alloc _, (own_rd hoE).alloc _⟩
  clear hl hoM hoH hO hoC hG hoE hb HBW
  obtain ⟨nm2, hnm⟩ : ∃ nm, nm = M2.length := ⟨_, rfl⟩
  obtain ⟨nh2, hnh⟩ : ∃ nh, nh = H3.length := ⟨_, rfl⟩
  obtain ⟨no2, hno⟩ : ∃ no, no = O2.length := ⟨_, rfl⟩
  obtain ⟨ng2, hng⟩ : ∃ ng, ng = G2.length := ⟨_, rfl⟩
  rw [← hnm, ← hnh] at HF0
  rw [← hnm, ← hnh, ← hno, ← hng] at HLE
  rw [← hnm, ← hnh, ← hno, ← hng]
  have HN := hide (And.intro hnm (And.intro hnh (And.intro hno hng)))
  clear hnm hnh hno hng
  have HML : Hid (nm2 ≤ maxLen ∧ nh2 ≤ maxLen ∧ no2 ≤ maxLen) := hide (by have := HMX.out; have := HLE.out; omega)
  go_upto_region 35 with fail
  generalize w30.alloc (.cells #[.slice A2 nm2 c2, .slice B2 nh2 k2] 27) = w31 at *
  generalize w30.heap.size = b2 at *
  obtain ⟨io, hio⟩ : ∃ io, io = igOk M2 H3 O2 G2 := ⟨_, rfl⟩
  obtain ⟨iv, hiv⟩ : ∃ iv, iv = igV M2 H3 O2 G2 := ⟨_, rfl⟩
  have HIO := hide (And.intro hio hiv)
  clear hio hiv
  have b0 := HF0.out.box.2.1 0 _ rfl
  have b1 := HF0.out.box.2.1 1 _ rfl
  have bz := HF0.out.box.1
  go_wp2_with fail
  refine (implIsGreatest_any A2 B2 C2 E2 nm2 c2 nh2 k2 no2 q2 ng2 r2 M2 H3 O2 G2 _ HN.out.1 HN.out.2.1 HML.out.1 HML.out.2.1 HN.out.2.2.1 (by have := HLE.out; omega) HN.out.2.2.2 (by have := HLE.out; omega) HF0.out.net HF0.out.opn HF0.out.f1).mono ?_
  rintro e w32 ⟨rfl, hb⟩
  rw [← HIO.out.1, ← HIO.out.2]
  replace HF0 := hide (HF0.out.below hb)
  clear hb b0 b1 bz
  have b0 := HF0.out.box.2.1 0 _ rfl
  have b1 := HF0.out.box.2.1 1 _ rfl
  have bz := HF0.out.box.1
  go_wp2_with fail
  refine (specIsGreatest_any A2 B2 C2 E2 nm2 c2 nh2 k2 no2 q2 ng2 r2 M2 H3 O2 G2 _ HN.out.1 HN.out.2.1 HML.out.1 HML.out.2.1 HN.out.2.2.1 (by have := HLE.out; omega) HN.out.2.2.2 (by have := HLE.out; omega) HF0.out.net HF0.out.opn HF0.out.f1).mono ?_
  rintro e w33 ⟨rfl, hb⟩
  rw [← HIO.out.1, ← HIO.out.2]
  replace HF0 := hide (HF0.out.below hb)
  clear hb b0 b1 bz
  as_aux_lemma =>
  cases io with
  | false => as_aux_lemma =>
    go_wp2_with fail
    go_ret
    exact ⟨rfl, HF0.out.bel⟩
  | true =>
    cases iv with
    | false => as_aux_lemma =>
      go_wp2_with fail
      go_ret
      exact ⟨rfl, HF0.out.bel⟩
    | true => as_aux_lemma =>
      obtain ⟨z1, z2, z3, z4⟩ := hy4 HIO.out.1.symm HIO.out.2.symm
      have Q1 := hide (fun (W : World) (h : HyF w b2 [.slice A2 nm2 c2, .slice B2 nh2 k2] A2 B2 C2 E2 E2 M2 H3 O2 G2 W) => implGreatestSum_any A2 B2 C2 nm2 c2 nh2 k2 no2 q2 M2 H3 O2 W HN.out.1 HN.out.2.1 HML.out.1 HML.out.2.1 HN.out.2.2.1 HML.out.2.2 h.net h.opn)
      have Q2 := hide (fun (W : World) (h : HyF w b2 [.slice A2 nm2 c2, .slice B2 nh2 k2] A2 B2 C2 E2 E2 M2 H3 O2 G2 W) => pSum_any E2 ng2 r2 G2 W HN.out.2.2.2 (by have := HLE.out; omega) z4 h.f1)
      rw [z1] at Q1
      rw [z2] at Q2
      generalize grV M2 H3 O2 = gz at *
      clear z1 z2 z3 z4
      have b0 := HF0.out.box.2.1 0 _ rfl
      have b1 := HF0.out.box.2.1 1 _ rfl
      have bz := HF0.out.box.1
      go_wp2_with fail
      refine (Q1.out _ HF0.out).mono ?_
      rintro e w34 ⟨rfl, hb⟩
      replace HF0 := hide (HF0.out.below hb)
      clear hb b0 b1 bz
      go_wp2_with fail
      refine (Q2.out _ HF0.out).mono ?_
      rintro e w35 ⟨rfl, hb⟩
      replace HF0 := hide (HF0.out.below hb)
      clear hb
      go_wp2_with fail
      go_ret
      exact ⟨rfl, HF0.out.bel⟩
end Go.Proofs.Ytfcpgpmhjadanaa

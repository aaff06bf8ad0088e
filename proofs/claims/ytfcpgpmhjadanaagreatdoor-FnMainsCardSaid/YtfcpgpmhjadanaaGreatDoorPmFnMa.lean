/- The law FnMains: what the law's call returns. -/
import Derived.Test.YtfcpgpmhjadanaaGreatDoorPmH
import Derived.Test.YtfcpgpmhjadanaaGreatDoorPmDrawNP
import Derived.Test.YtfcpgpmhjadanaaGreatDoorNetCo
import Derived.Test.YtfcpgpmhjadanaaGreatDoorNetW
import Derived.Test.YtfcpgpmhjadanaaGreatDoorPmM
import Derived.Deep.DeepCutAuto
import Derived.Deep.CutBlock
import Derived.Deep.LoopGhost
namespace Go.Proofs.YtfcpgpmhjadanaaGreatDoor
open Go.RowKit
set_option linter.unusedVariables false

theorem ma_byte {l : List Int} (h : ∀ x ∈ l, (Lit.int .u8 x).wf = true) : ∀ x ∈ l, 0 ≤ x ∧ x ≤ 255 := fun x hx => by
  have := h x hx
  simp [Lit.wf] at this
  have e1 : IntKind.u8.min = 0 := rfl
  have e2 : IntKind.u8.max = 255 := rfl
  omega
theorem own_someM {w : World} {B sz n c : Nat} {e : TypeId} {A : Option Addr} {xs : List Value} (h : w.ownsRow B e sz (.slice A n c) n xs) : (A = none ∧ n = 0) ∨ ∃ b o, A = some ⟨b, o, none⟩ := by
  obtain ⟨A', cap, hv, hr, hn, hc, h0, h1⟩ := own_open h
  simp only [Value.slice.injEq, true_and] at hv
  obtain ⟨rfl, rfl⟩ := hv
  cases A with
  | none => exact .inl ⟨rfl, (h0 rfl).1⟩
  | some ad =>
    obtain ⟨b, off, sp⟩ := ad
    obtain ⟨rfl, rfl, -⟩ := h1 b off sp rfl
    exact .inr ⟨b, 0, rfl⟩
/-- What is kept in memory. -/
def MaF (w : World) (bx : Nat) (xs : List Value) (A B C : Option Addr) (M H : List (Int × Int)) (F LL OL TL : List Int) (L1 L2 O1 O2 T1 T2 : Option Addr) (W : World) : Prop :=
  (Below w.heap.size w W ∧ Row W bx xs ∧ NetRd W A B M H ∧ Rd W C (F.map (Value.int .i64))) ∧ (Rd W L1 (LL.map (Value.int .i64)) ∧ Rd W L2 (LL.map (Value.int .i64))) ∧ (Rd W O1 (OL.map (Value.int .i64)) ∧ Rd W O2 (OL.map (Value.int .i64))) ∧ Rd W T1 (TL.map (Value.int .i64)) ∧ Rd W T2 (TL.map (Value.int .i64))
theorem MaF.below {w : World} {bx : Nat} {xs : List Value} {A B C : Option Addr} {M H : List (Int × Int)} {F LL OL TL : List Int} {L1 L2 O1 O2 T1 T2 : Option Addr} {W W' : World} (h : MaF w bx xs A B C M H F LL OL TL L1 L2 O1 O2 T1 T2 W) (hb : Below W.heap.size W W') : MaF w bx xs A B C M H F LL OL TL L1 L2 O1 O2 T1 T2 W' := by
  obtain ⟨⟨a1, a2, a3, a4⟩, ⟨b1, b2⟩, ⟨c1, c2⟩, d1, d2⟩ := h
  exact ⟨⟨below_step a1 hb, a2.below hb, a3.below hb, a4.below hb⟩, ⟨b1.below hb, b2.below hb⟩, ⟨c1.below hb, c2.below hb⟩, d1.below hb, d2.below hb⟩
theorem rd_nil (w : World) : Rd w none (([] : List Int).map (Value.int .i64)) := .inl (by simp)
theorem out_len (s : ByteArray) : (outM (pnS s)).length ≤ 1048576 ∧ (outY (pnS s)).length ≤ 1048576 := by
  rw [← pn_same]
  cases h : pnI s with
  | none => exact ⟨by simp [outM], by simp [outY]⟩
  | some x =>
    obtain ⟨M, H⟩ := x
    have hk := netB_ok (pnI_some h).1
    have h1 := hk.m10
    have h2 := hk.h10
    exact ⟨by show M.length ≤ _; omega, by show H.length ≤ _; omega⟩
theorem net_outS (s : ByteArray) : pnI s = pnS s := pn_same s
theorem ovL_len (p : Int → Int → Bool) (M H : List (Int × Int)) (F : List Int) : (ovL p M H F).length ≤ 1048576 := ovL_length p M H F

set_option maxRecDepth 100000 in
set_option maxHeartbeats 16000000 in
theorem FnMains_walk (A : Option Addr) (n c : Nat) (code : List Int) (B : Option Addr) (m k : Nat) (more : List Int) (w : World) (hn : n = code.length) (hnc : n ≤ c) (hc : c ≤ maxLen) (hr : Rd w A (code.map (Value.int .u8))) (hs : ∀ x ∈ code, (Lit.int .u8 x).wf = true)
    (hn2 : m = more.length) (hnc2 : m ≤ k) (hc2 : k ≤ maxLen) (hr2 : Rd w B (more.map (Value.int .u8))) (hs2 : ∀ x ∈ more, (Lit.int .u8 x).wf = true) (he : WrdEnv w) :
    Calls Tryz.prog 3 #[.slice A n c, .slice B m k] w fun e w' => e = .returned (.bool true) ∧ Below w.heap.size w w' := by
  have H1 := hide (And.intro hn (And.intro (Nat.le_trans hnc hc) (And.intro (ma_byte hs) hr)))
  have H2 := hide (And.intro hn2 (And.intro (Nat.le_trans hnc2 hc2) (And.intro (ma_byte hs2) hr2)))
  have HE := hide (fun W (h : Below w.heap.size w W) => he.below h)
  have HB1 : Hid (n ≤ 9223372036854775807 ∧ m ≤ 9223372036854775807) := hide (by unfold maxLen at hc hc2; omega)
  have HMX : Hid ((1000 : Nat) ≤ maxLen) := hide (by unfold maxLen; omega)
  clear hn hr hs hn2 hr2 hs2 hnc hc hnc2 hc2 he
  go_enter Tryz.func3, Tryz.ntmps3
  go_wp2_with fail
  refine (big_any A B n c m k _ HB1.out.1 HB1.out.2).mono ?_
  rintro e w0 ⟨⟨b, rfl⟩, rfl⟩
  cases b with
  | true =>
    go_wp2
    go_ret
    exact ⟨rfl, Below.refl _ _⟩
  | false =>
  as_aux_lemma =>
  go_wp2_with fail
  refine (DrawLoadsOf_any A n c code _ H1.out.1 H1.out.2.1 H1.out.2.2.1 H1.out.2.2.2).mono ?_
  rintro e w1 ⟨⟨A1, c1, M, B1, k1, H, C, q, F, rfl, ⟨hl, hoM, hoH⟩, hO, hoC⟩, hb⟩
  have HLE : Hid (M.length ≤ 11 ∧ H.length ≤ 11 ∧ F.length ≤ 12) := hide ⟨hl.1.1, hl.1.2, hO⟩
  have HF : Hid (MaF w w1.heap.size [.slice A1 M.length c1, .slice B1 H.length k1] A1 B1 C M H F [] [] [] none none none none none none (w1.alloc (.cells #[.slice A1 M.length c1, .slice B1 H.length k1] 27))) := hide ⟨⟨below_alloc hb _, Row.new _ _ _, NetRd.alloc ⟨own_rd hoM, own_rd hoH⟩ _, (own_rd hoC).alloc _⟩, ⟨rd_nil _, rd_nil _⟩, ⟨rd_nil _, rd_nil _⟩, rd_nil _, rd_nil _⟩
  clear hl hoM hoH hO hoC hb
  obtain ⟨nm, hnm⟩ : ∃ nm, nm = M.length := ⟨_, rfl⟩
  obtain ⟨nh, hnh⟩ : ∃ nh, nh = H.length := ⟨_, rfl⟩
  obtain ⟨nf, hnf⟩ : ∃ nf, nf = F.length := ⟨_, rfl⟩
  rw [← hnm, ← hnh] at HF
  rw [← hnm, ← hnh, ← hnf] at HLE
  rw [← hnm, ← hnh, ← hnf]
  have HN := hide (And.intro hnm (And.intro hnh hnf))
  clear hnm hnh hnf
  have HML : Hid (nm ≤ maxLen ∧ nh ≤ maxLen ∧ nf ≤ maxLen) := hide (by have := HMX.out; have := HLE.out; omega)
  go_upto_region 4 with fail
  generalize w1.alloc (.cells #[.slice A1 nm c1, .slice B1 nh k1] 27) = W1 at *
  generalize w1.heap.size = bx at *
  as_aux_lemma =>
  obtain ⟨ab, hab⟩ : ∃ ab, ab = askB M H F := ⟨_, rfl⟩
  have HAB := hide hab
  clear hab
  obtain ⟨LL, hll⟩ : ∃ LL, LL = loL M H F := ⟨_, rfl⟩
  obtain ⟨OL, hol⟩ : ∃ OL, OL = ovL overP M H F := ⟨_, rfl⟩
  obtain ⟨TL, htl⟩ : ∃ TL, TL = ovL tightP M H F := ⟨_, rfl⟩
  have HLL := hide hll
  have HOL := hide hol
  have HTL := hide htl
  have HBD : Hid (LL.length ≤ 1048576 ∧ OL.length ≤ 1048576 ∧ TL.length ≤ 1048576) := hide ⟨by rw [hll]; exact loL_length M H F, by rw [hol]; exact ovL_length _ M H F, by rw [htl]; exact ovL_length _ M H F⟩
  clear hll hol htl
  obtain ⟨nl, hnl⟩ : ∃ nl, nl = LL.length := ⟨_, rfl⟩
  obtain ⟨no, hno⟩ : ∃ no, no = OL.length := ⟨_, rfl⟩
  obtain ⟨nt, hnt⟩ : ∃ nt, nt = TL.length := ⟨_, rfl⟩
  rw [← hnl, ← hno, ← hnt] at HBD
  have HNL := hide (And.intro hnl (And.intro hno hnt))
  clear hnl hno hnt
  have b0 := HF.out.1.2.1.2.1 0 _ rfl
  have b1 := HF.out.1.2.1.2.1 1 _ rfl
  have bz := HF.out.1.2.1.1
  go_wp2_with fail
  refine (implLoadsOf_any A1 B1 C nm c1 nh k1 nf q M H F _ HN.out.1 HN.out.2.1 HML.out.1 HML.out.2.1 HN.out.2.2 HML.out.2.2 HF.out.1.2.2.1 HF.out.1.2.2.2).mono ?_
  rintro e w2 ⟨⟨v1, rfl, ho⟩, hb⟩
  rw [← HLL.out] at ho
  rw [← HAB.out]
  obtain ⟨L1, s1, hv1, hrd, -⟩ := own_open ho
  rw [← HNL.out.1] at hv1
  subst hv1
  replace HF := hide (HF.out.below hb)
  have HXL1 := hide hrd
  have HYL1 := hide hb
  clear hb ho hrd b0 b1 bz
  have b0 := HF.out.1.2.1.2.1 0 _ rfl
  have b1 := HF.out.1.2.1.2.1 1 _ rfl
  have bz := HF.out.1.2.1.1
  go_wp2_with fail
  refine (specLoadsOf_any A1 B1 C nm c1 nh k1 nf q M H F _ HN.out.1 HN.out.2.1 HML.out.1 HML.out.2.1 HN.out.2.2 HML.out.2.2 HF.out.1.2.2.1 HF.out.1.2.2.2).mono ?_
  rintro e w3 ⟨⟨v1, rfl, ho⟩, hb⟩
  rw [← HLL.out] at ho
  rw [← HAB.out]
  obtain ⟨L2, s2, hv1, hrd, -⟩ := own_open ho
  rw [← HNL.out.1] at hv1
  subst hv1
  replace HF := hide (HF.out.below hb)
  have HXL2 := hide hrd
  have HYL2 := hide hb
  clear hb ho hrd b0 b1 bz
  have b0 := HF.out.1.2.1.2.1 0 _ rfl
  have b1 := HF.out.1.2.1.2.1 1 _ rfl
  have bz := HF.out.1.2.1.1
  go_wp2_with fail
  refine (implOverloadedMains_any A1 B1 C nm c1 nh k1 nf q M H F _ HN.out.1 HN.out.2.1 HML.out.1 HML.out.2.1 HN.out.2.2 HML.out.2.2 HF.out.1.2.2.1 HF.out.1.2.2.2).mono ?_
  rintro e w4 ⟨⟨v1, rfl, ho⟩, hb⟩
  rw [← HOL.out] at ho
  rw [← HAB.out]
  obtain ⟨O1, s3, hv1, hrd, -⟩ := own_open ho
  rw [← HNL.out.2.1] at hv1
  subst hv1
  replace HF := hide (HF.out.below hb)
  have HXO1 := hide hrd
  have HYO1 := hide hb
  clear hb ho hrd b0 b1 bz
  have b0 := HF.out.1.2.1.2.1 0 _ rfl
  have b1 := HF.out.1.2.1.2.1 1 _ rfl
  have bz := HF.out.1.2.1.1
  go_wp2_with fail
  refine (specOverloadedMains_any A1 B1 C nm c1 nh k1 nf q M H F _ HN.out.1 HN.out.2.1 HML.out.1 HML.out.2.1 HN.out.2.2 HML.out.2.2 HF.out.1.2.2.1 HF.out.1.2.2.2).mono ?_
  rintro e w5 ⟨⟨v1, rfl, ho⟩, hb⟩
  rw [← HOL.out] at ho
  rw [← HAB.out]
  obtain ⟨O2, s4, hv1, hrd, -⟩ := own_open ho
  rw [← HNL.out.2.1] at hv1
  subst hv1
  replace HF := hide (HF.out.below hb)
  have HXO2 := hide hrd
  have HYO2 := hide hb
  clear hb ho hrd b0 b1 bz
  have b0 := HF.out.1.2.1.2.1 0 _ rfl
  have b1 := HF.out.1.2.1.2.1 1 _ rfl
  have bz := HF.out.1.2.1.1
  go_wp2_with fail
  refine (implTightMains_any A1 B1 C nm c1 nh k1 nf q M H F _ HN.out.1 HN.out.2.1 HML.out.1 HML.out.2.1 HN.out.2.2 HML.out.2.2 HF.out.1.2.2.1 HF.out.1.2.2.2).mono ?_
  rintro e w6 ⟨⟨v1, rfl, ho⟩, hb⟩
  rw [← HTL.out] at ho
  rw [← HAB.out]
  obtain ⟨T1, s5, hv1, hrd, -⟩ := own_open ho
  rw [← HNL.out.2.2] at hv1
  subst hv1
  replace HF := hide (HF.out.below hb)
  have HXT1 := hide hrd
  have HYT1 := hide hb
  clear hb ho hrd b0 b1 bz
  have b0 := HF.out.1.2.1.2.1 0 _ rfl
  have b1 := HF.out.1.2.1.2.1 1 _ rfl
  have bz := HF.out.1.2.1.1
  go_wp2_with fail
  refine (specTightMains_any A1 B1 C nm c1 nh k1 nf q M H F _ HN.out.1 HN.out.2.1 HML.out.1 HML.out.2.1 HN.out.2.2 HML.out.2.2 HF.out.1.2.2.1 HF.out.1.2.2.2).mono ?_
  rintro e w7 ⟨⟨v1, rfl, ho⟩, hb⟩
  rw [← HTL.out] at ho
  rw [← HAB.out]
  obtain ⟨T2, s6, hv1, hrd, -⟩ := own_open ho
  rw [← HNL.out.2.2] at hv1
  subst hv1
  replace HF := hide (HF.out.below hb)
  have HXT2 := hide hrd
  have HYT2 := hide hb
  clear hb ho hrd b0 b1 bz
  have HFF0 : Hid (MaF w bx [.slice A1 nm c1, .slice B1 nh k1] A1 B1 C M H F LL OL TL L1 L2 O1 O2 T1 T2 w7) := hide ⟨HF.out.1, ⟨((((HXL1.out.below HYL2.out).below HYO1.out).below HYO2.out).below HYT1.out).below HYT2.out, (((HXL2.out.below HYO1.out).below HYO2.out).below HYT1.out).below HYT2.out⟩, ⟨((HXO1.out.below HYO2.out).below HYT1.out).below HYT2.out, (HXO2.out.below HYT1.out).below HYT2.out⟩, HXT1.out.below HYT2.out, HXT2.out⟩
  clear HF HXL1 HXL2 HXO1 HXO2 HXT1 HXT2 HYL1 HYL2 HYO1 HYO2 HYT1 HYT2
  obtain ⟨W8, hW8⟩ : ∃ W, W = w7 := ⟨_, rfl⟩
  have HBW : Hid (Below W8.heap.size W8 w7) := hide (by rw [hW8]; exact Below.refl _ _)
  have HFF : Hid (∀ W, Below W8.heap.size W8 W → MaF w bx [.slice A1 nm c1, .slice B1 nh k1] A1 B1 C M H F LL OL TL L1 L2 O1 O2 T1 T2 W) := hide (fun W h => by rw [hW8] at h; exact HFF0.out.below h)
  clear HFF0 hW8
  as_aux_lemma =>
  go_upto_region 10 with fail
  go_cut [123] (fun s wx => s = .bool false ∧ Hid (Below W8.heap.size W8 wx))
  case first => as_aux_lemma =>
    have QL := hide (fun W hb => sameInts_same L1 L2 nl s1 s2 LL W HNL.out.1 HBD.out.1 (HFF.out W hb).2.1.1 (HFF.out W hb).2.1.2)
    have QO := hide (fun W hb => sameInts_same O1 O2 no s3 s4 OL W HNL.out.2.1 HBD.out.2.1 (HFF.out W hb).2.2.1.1 (HFF.out W hb).2.2.1.2)
    have QT := hide (fun W hb => sameInts_same T1 T2 nt s5 s6 TL W HNL.out.2.2 HBD.out.2.2 (HFF.out W hb).2.2.2.1 (HFF.out W hb).2.2.2.2)
    go_wp2_with fail
    refine (QL.out _ HBW.out).mono ?_
    rintro e w17 ⟨rfl, hq⟩
    replace HBW := hide (below_step HBW.out hq)
    clear hq QL
    go_wp2_with fail
    refine (QO.out _ HBW.out).mono ?_
    rintro e w18 ⟨rfl, hq⟩
    replace HBW := hide (below_step HBW.out hq)
    clear hq QO
    go_wp2_with fail
    refine (QT.out _ HBW.out).mono ?_
    rintro e w19 ⟨rfl, hq⟩
    replace HBW := hide (below_step HBW.out hq)
    clear hq QT
    go_wp2_with fail
    go_meet
    exact ⟨rfl, HBW⟩
  clear HBW
  obtain ⟨rfl, HBW⟩ := hcut
  as_aux_lemma =>
  go_upto_if 124 with fail
  go_cut [] (fun wx => Hid (Below W8.heap.size W8 wx))
  case first => as_aux_lemma =>
    cases ab with
    | false =>
      go_wp2_with fail
      go_meet
      exact HBW
    | true =>
      have hask : askB M H F = true := HAB.out.symm
      obtain ⟨y1, y2, y3, y4, y5, y6⟩ := ma1 hask
      rw [← HLL.out, ← HNL.out.1, ← HN.out.1] at y1
      rw [← HN.out.1] at y2 y3
      rw [← HLL.out] at y4
      rw [← HN.out.2.2] at y5
      subst y1
      have HASK := hide hask
      have QS := hide (fun W hb => pSum_any C nf q F W HN.out.2.2 (by omega) y6 (HFF.out W hb).1.2.2.2)
      generalize F.sum = fs at *
      obtain ⟨b, off, hC, hbs, l0⟩ := (HFF.out _ HBW.out).2.1.2.get1 (k := 0) (u := .int .i64 fs) (by rw [List.getElem?_map, y4]; rfl)
      have b0 := (HFF.out _ HBW.out).1.2.1.2.1 0 _ rfl
      have b1 := (HFF.out _ HBW.out).1.2.1.2.1 1 _ rfl
      have bz := (HFF.out _ HBW.out).1.2.1.1
      have hi0 : (0 : Int) < (nl : Int) := by omega
      subst hC
      simp only [Nat.add_zero] at l0
      clear y4 y5 y6 hask
      go_upto_region 13 with fail
      go_cut [138] (fun s wx => s = .bool false ∧ Hid (Below W8.heap.size W8 wx))
      case first => as_aux_lemma =>
        refine wp_region_later (by kernel_rfl) (by kernel_rfl) ?_
        repeat (go_big_quiet_step ((go_at_call 13; exact calls_later (QS.out _ (below_step HBW.out (Later.below _))))))
        refine wpQuiet_nil ?_
        refine later_intro fun w20 hb1 => ?_
        replace HBW := hide (below_step HBW.out hb1)
        clear hb1 b0 b1 bz l0 hbs
        go_wp2_with fail
        go_meet
        exact ⟨rfl, HBW⟩
      clear HBW b0 b1 bz l0 hbs QS
      obtain ⟨rfl, HBW⟩ := hcut
      as_aux_lemma =>
      have b0 := (HFF.out _ HBW.out).1.2.1.2.1 0 _ rfl
      have b1 := (HFF.out _ HBW.out).1.2.1.2.1 1 _ rfl
      have bz := (HFF.out _ HBW.out).1.2.1.1
      go_upto_region 16 with fail
      clear b0 b1 bz
      go_loopg [142] nl (fun g t wr => ∃ j : Nat, t = .int .i64 (j : Int) ∧ j ≤ nl ∧ Hid (nl ≤ g + j) ∧ Hid (Below W8.heap.size W8 wr))
      case atStart => exact ⟨0, rfl, by omega, hide (by omega), HBW⟩
      case round =>
        clear HBW
        obtain ⟨j, rfl, hj, HGK, HBW⟩ := hrel
        by_cases hlt : j < nl
        · obtain ⟨⟨x0, x1⟩, hx⟩ : ∃ x, M[j]? = some x := ⟨_, List.getElem?_eq_getElem (by rw [← HN.out.1]; exact hlt)⟩
          obtain ⟨v, hv, ho, ht, hpar⟩ := ma2 HASK.out hx
          rw [← HLL.out] at hv hpar
          rw [← HOL.out] at ho
          rw [← HTL.out] at ht
          dsimp only at ho ht hpar
          have QO := hide (fun W hb => pIn_any O2 no s4 OL (j : Int) W HNL.out.2.1 HBD.out.2.1 (HFF.out W hb).2.2.1.2)
          have QT := hide (fun W hb => pIn_any T2 nt s6 TL (j : Int) W HNL.out.2.2 HBD.out.2.2 (HFF.out W hb).2.2.2.2)
          rw [ho] at QO
          rw [ht] at QT
          obtain ⟨bo, hbo⟩ : ∃ bo, decide (x1 < v) = bo := ⟨_, rfl⟩
          obtain ⟨bt, hbt⟩ : ∃ bt, (v == x1) = bt := ⟨_, rfl⟩
          rw [hbo] at QO
          rw [hbt] at QT
          have HX := hide hx
          have HV := hide hv
          have HPAR := hide hpar
          obtain ⟨b, off, hC, hbs, c0, c1'⟩ := (HFF.out _ HBW.out).1.2.2.1.1.get2 (fun _ => rfl) hx rfl
          have hjn : (j : Int) < (nl : Int) := by omega
          have hj0 : (0 : Int) ≤ (j : Int) := by omega
          subst hC
          dsimp only at c0 c1'
          clear hx hv ho ht hpar
          rename World => wr
          go_upto_region 18 with fail
          have HBX := hide (Row.new wr #[.int .i64 x0, .int .i64 x1] 36)
          replace HBW := hide (below_alloc HBW.out (.cells #[.int .i64 x0, .int .i64 x1] 36))
          clear c0 c1' hbs
          generalize wr.alloc (.cells #[.int .i64 x0, .int .i64 x1] 36) = w20 at *
          generalize wr.heap.size = bx2 at *
          have r0 := HBX.out.2.1 0 _ rfl
          have r1 := HBX.out.2.1 1 _ rfl
          have rz := HBX.out.1
          obtain ⟨bL, offL, hL, hbL, l1⟩ := (HFF.out _ HBW.out).2.1.2.get1 (k := j) (u := .int .i64 v) (by rw [List.getElem?_map, HV.out]; rfl)
          simp only [Option.some.injEq, Addr.mk.injEq, and_true] at hL
          obtain ⟨rfl, rfl⟩ := hL
          by_cases hz : j = 0
          · as_aux_lemma =>
            have hz1 : decide ((0 : Int) < (j : Int)) = false := by simp; omega
            have hz2 : decide (0 < j) = false := by simp; omega
            clear hz
            refine wp_region_later (by kernel_rfl) (by kernel_rfl) ?_
            repeat (go_big_quiet_step ((go_at_call 14; first | with_reducible exact calls_later (QO.out _ (below_step HBW.out (Later.below _))) | with_reducible exact calls_later (QT.out _ (below_step HBW.out (Later.below _))))))
            refine wpQuiet_nil ?_
            refine later_intro fun w21 hb1 => ?_
            replace HBW := hide (below_step HBW.out hb1)
            clear hb1 r0 r1 rz QO QT
            go_wp2_with fail
            go_roundg (gk - 1)
            case measure => have := HGK.out; omega
            case rel => exact ⟨j + 1, by go_num, by omega, hide (by have := HGK.out; omega), HBW⟩
          · as_aux_lemma =>
            have hz1 : (0 : Int) < (j : Int) := by omega
            have hz2 : 0 < j := by omega
            obtain ⟨q9, u, hq, hql, hu, huv⟩ := HPAR.out (by omega)
            subst hq
            rw [← HN.out.1] at hql
            obtain ⟨b4, off4, hA, hb4, l2⟩ := (HFF.out _ HBW.out).2.1.2.get1 (k := q9) (u := .int .i64 u) (by rw [List.getElem?_map, hu]; rfl)
            simp only [Option.some.injEq, Addr.mk.injEq, and_true] at hA
            obtain ⟨rfl, rfl⟩ := hA
            have hq0 : (0 : Int) ≤ (q9 : Int) := by omega
            have hq1 : (q9 : Int) < (nl : Int) := by omega
            have huv' : decide (u < v) = false := by simp; omega
            clear hz hu huv hql
            refine wp_region_later (by kernel_rfl) (by kernel_rfl) ?_
            repeat (go_big_quiet_step ((go_at_call 14; first | with_reducible exact calls_later (QO.out _ (below_step HBW.out (Later.below _))) | with_reducible exact calls_later (QT.out _ (below_step HBW.out (Later.below _))))))
            refine wpQuiet_nil ?_
            refine later_intro fun w21 hb1 => ?_
            replace HBW := hide (below_step HBW.out hb1)
            clear hb1 r0 r1 rz QO QT
            go_wp2_with fail
            go_roundg (gk - 1)
            case measure => have := HGK.out; omega
            case rel => exact ⟨j + 1, by go_num, by omega, hide (by have := HGK.out; omega), HBW⟩
        · have hjf : ((j : Int) < (nl : Int)) = False := eq_false (by omega)
          go_wp2_with fail
          go_meet
          exact HBW
  clear HBW
  replace HBW := hide hcut.out
  clear hcut
  replace HBW : Hid (Below w.heap.size w _) := hide (HFF.out _ HBW.out).1.1
  clear HFF HLE HML HN HAB HLL HOL HTL HBD HNL
  as_aux_lemma =>
  go_wp2_with fail
  refine (DrawNetText_any B m k more _ H2.out.1 H2.out.2.1 H2.out.2.2.1 (H2.out.2.2.2.below HBW.out)).mono ?_
  rintro e w30 ⟨⟨A2, c2, M2, B2, k2, H3, rfl, ⟨hl, hoM, hoH⟩⟩, hb⟩
  have HLE : Hid (M2.length ≤ 11 ∧ H3.length ≤ 11) := hide ⟨hl.1.1, hl.1.2⟩
  have HG : Hid (Below w.heap.size w (w30.alloc (.cells #[.slice A2 M2.length c2, .slice B2 H3.length k2] 27)) ∧ Row (w30.alloc (.cells #[.slice A2 M2.length c2, .slice B2 H3.length k2] 27)) w30.heap.size [.slice A2 M2.length c2, .slice B2 H3.length k2] ∧ NetRd (w30.alloc (.cells #[.slice A2 M2.length c2, .slice B2 H3.length k2] 27)) A2 B2 M2 H3) := hide ⟨below_alloc (below_step HBW.out hb) _, Row.new _ _ _, NetRd.alloc ⟨own_rd hoM, own_rd hoH⟩ _⟩
  clear hl hoM hoH hb HBW
  obtain ⟨nm2, hnm⟩ : ∃ nm, nm = M2.length := ⟨_, rfl⟩
  obtain ⟨nh2, hnh⟩ : ∃ nh, nh = H3.length := ⟨_, rfl⟩
  rw [← hnm, ← hnh] at HG HLE
  rw [← hnm, ← hnh]
  have HN := hide (And.intro hnm hnh)
  clear hnm hnh
  have HML : Hid (nm2 ≤ maxLen ∧ nh2 ≤ maxLen) := hide (by have := HMX.out; have := HLE.out; omega)
  go_upto_region 22 with fail
  generalize w30.alloc (.cells #[.slice A2 nm2 c2, .slice B2 nh2 k2] 27) = w31 at *
  generalize w30.heap.size = b2 at *
  obtain ⟨nb, hnb⟩ : ∃ nb, nb = netB M2 H3 := ⟨_, rfl⟩
  obtain ⟨tx, htx⟩ : ∃ tx, tx = txN M2 H3 := ⟨_, rfl⟩
  have HNB := hide (And.intro hnb htx)
  clear hnb htx
  have b0 := HG.out.2.1.2.1 0 _ rfl
  have b1 := HG.out.2.1.2.1 1 _ rfl
  have bz := HG.out.2.1.1
  go_wp2_with fail
  refine (implNetText_any A2 B2 nm2 c2 nh2 k2 M2 H3 _ HN.out.1 HN.out.2 HML.out.1 HML.out.2 (HE.out _ HG.out.1).txt.num.tab HG.out.2.2).mono ?_
  rintro e w32 ⟨rfl, hb⟩
  rw [← HNB.out.1, ← HNB.out.2]
  replace HG := hide (And.intro (below_step HG.out.1 hb) (And.intro (HG.out.2.1.below hb) (HG.out.2.2.below hb)))
  clear hb b0 b1 bz
  have b0 := HG.out.2.1.2.1 0 _ rfl
  have b1 := HG.out.2.1.2.1 1 _ rfl
  have bz := HG.out.2.1.1
  go_wp2_with fail
  refine (specNetText_any A2 B2 nm2 c2 nh2 k2 M2 H3 _ HN.out.1 HN.out.2 HML.out.1 HML.out.2 HG.out.2.2).mono ?_
  rintro e w33 ⟨rfl, hb⟩
  rw [← HNB.out.1, ← HNB.out.2]
  replace HG := hide (And.intro (below_step HG.out.1 hb) (And.intro (HG.out.2.1.below hb) (HG.out.2.2.below hb)))
  clear hb b0 b1 bz
  as_aux_lemma =>
  go_wp2_with fail
  refine (DrawParseNet_any B m k more _ H2.out.1 H2.out.2.1 H2.out.2.2.1 (H2.out.2.2.2.below HG.out.1)).mono ?_
  rintro e w34 ⟨⟨u, rfl, hu⟩, hb⟩
  have HU : Hid (u.size ≤ 1048576) := hide (by omega)
  replace HG := hide (And.intro (below_step HG.out.1 hb) (And.intro (HG.out.2.1.below hb) (HG.out.2.2.below hb)))
  clear hb hu
  have P1 := hide (fun W (hb : Below w.heap.size w W) => implParseNet_any u W HU.out (HE.out W hb))
  have P2 := hide (fun W => specParseNet_any u W HU.out)
  rw [pn_same u] at P1
  have HOL9 := hide (out_len u)
  generalize pnS u = ou at P1 P2 HOL9
  obtain ⟨oM, hoM⟩ : ∃ oM, oM = outM ou := ⟨_, rfl⟩
  obtain ⟨oY, hoY⟩ : ∃ oY, oY = outY ou := ⟨_, rfl⟩
  obtain ⟨os, hos⟩ : ∃ os, os = ou.isSome := ⟨_, rfl⟩
  have HOU := hide (And.intro hoM (And.intro hoY hos))
  clear hoM hoY hos
  obtain ⟨np, hnp⟩ : ∃ np, np = oM.length := ⟨_, rfl⟩
  obtain ⟨nq, hnq⟩ : ∃ nq, nq = oY.length := ⟨_, rfl⟩
  have HPQ := hide (And.intro hnp hnq)
  clear hnp hnq
  go_wp2_with fail
  refine (P1.out _ HG.out.1).mono ?_
  rintro e w35 ⟨⟨v1, v2, rfl, ho⟩, hb⟩
  rw [← HOU.out.1, ← HOU.out.2.1] at ho
  rw [← HOU.out.2.2]
  obtain ⟨X1, x1, hv1, hrd1, -⟩ := own_open ho.1
  obtain ⟨Y1, y1, hv2, hrd2, -⟩ := own_open ho.2
  rw [← HPQ.out.1] at hv1
  rw [← HPQ.out.2] at hv2
  subst hv1
  subst hv2
  replace HG := hide (And.intro (below_alloc (below_step HG.out.1 hb) (.cells #[.slice X1 np x1, .slice Y1 nq y1] 27)) (And.intro ((HG.out.2.1.below hb).alloc (.cells #[.slice X1 np x1, .slice Y1 nq y1] 27)) ((HG.out.2.2.below hb).alloc (.cells #[.slice X1 np x1, .slice Y1 nq y1] 27))))
  have HV1 : Hid (Row (w35.alloc (.cells #[.slice X1 np x1, .slice Y1 nq y1] 27)) w35.heap.size [.slice X1 np x1, .slice Y1 nq y1] ∧ NetRd (w35.alloc (.cells #[.slice X1 np x1, .slice Y1 nq y1] 27)) X1 Y1 oM oY) := hide ⟨Row.new _ _ _, NetRd.alloc ⟨hrd1, hrd2⟩ _⟩
  clear ho hb hrd1 hrd2 P1
  go_upto_region 26 with fail
  generalize w35.alloc (.cells #[.slice X1 np x1, .slice Y1 nq y1] 27) = w36 at *
  generalize w35.heap.size = b3 at *
  go_wp2_with fail
  refine (P2.out _).mono ?_
  rintro e w37 ⟨⟨v1, v2, rfl, ho⟩, hb⟩
  rw [← HOU.out.1, ← HOU.out.2.1] at ho
  rw [← HOU.out.2.2]
  obtain ⟨X2, x2, hv1, hrd1, -⟩ := own_open ho.1
  obtain ⟨Y2, y2, hv2, hrd2, -⟩ := own_open ho.2
  rw [← HPQ.out.1] at hv1
  rw [← HPQ.out.2] at hv2
  subst hv1
  subst hv2
  replace HG := hide (And.intro (below_alloc (below_step HG.out.1 hb) (.cells #[.slice X2 np x2, .slice Y2 nq y2] 27)) (And.intro ((HG.out.2.1.below hb).alloc (.cells #[.slice X2 np x2, .slice Y2 nq y2] 27)) ((HG.out.2.2.below hb).alloc (.cells #[.slice X2 np x2, .slice Y2 nq y2] 27))))
  replace HV1 := hide (And.intro ((HV1.out.1.below hb).alloc (.cells #[.slice X2 np x2, .slice Y2 nq y2] 27)) ((HV1.out.2.below hb).alloc (.cells #[.slice X2 np x2, .slice Y2 nq y2] 27)))
  have HV2 : Hid (Row (w37.alloc (.cells #[.slice X2 np x2, .slice Y2 nq y2] 27)) w37.heap.size [.slice X2 np x2, .slice Y2 nq y2] ∧ NetRd (w37.alloc (.cells #[.slice X2 np x2, .slice Y2 nq y2] 27)) X2 Y2 oM oY) := hide ⟨Row.new _ _ _, NetRd.alloc ⟨hrd1, hrd2⟩ _⟩
  clear ho hb hrd1 hrd2 P2
  go_upto_region 27 with fail
  generalize w37.alloc (.cells #[.slice X2 np x2, .slice Y2 nq y2] 27) = w38 at *
  generalize w37.heap.size = b4 at *
  have HPL : Hid (np ≤ 1048576 ∧ nq ≤ 1048576) := hide (by
    have h1 := HPQ.out
    have h2 := HOU.out
    rw [h1.1, h1.2, h2.1, h2.2.1]
    exact HOL9.out)
  clear HOU HOL9
  as_aux_lemma =>
  go_wp2_with fail
  refine (DrawWithoutMain_any B m k more _ H2.out.1 H2.out.2.1 H2.out.2.2.1 (H2.out.2.2.2.below HG.out.1)).mono ?_
  rintro e w40 ⟨⟨A4, c4, M4, B4, k4, H4, i4, rfl, ⟨hl, hoM, hoH⟩⟩, hb⟩
  have HNL := hide (And.intro (own_someM hoM) (own_someM hoH))
  have HL4 : Hid (M4.length ≤ 11 ∧ H4.length ≤ 11) := hide ⟨hl.1.1, hl.1.2⟩
  replace HG := hide (And.intro (below_alloc (below_step HG.out.1 hb) (.cells #[.slice A4 M4.length c4, .slice B4 H4.length k4] 27)) (And.intro ((HG.out.2.1.below hb).alloc (.cells #[.slice A4 M4.length c4, .slice B4 H4.length k4] 27)) ((HG.out.2.2.below hb).alloc (.cells #[.slice A4 M4.length c4, .slice B4 H4.length k4] 27))))
  replace HV1 := hide (And.intro ((HV1.out.1.below hb).alloc (.cells #[.slice A4 M4.length c4, .slice B4 H4.length k4] 27)) ((HV1.out.2.below hb).alloc (.cells #[.slice A4 M4.length c4, .slice B4 H4.length k4] 27)))
  replace HV2 := hide (And.intro ((HV2.out.1.below hb).alloc (.cells #[.slice A4 M4.length c4, .slice B4 H4.length k4] 27)) ((HV2.out.2.below hb).alloc (.cells #[.slice A4 M4.length c4, .slice B4 H4.length k4] 27)))
  have HV4 : Hid (Row (w40.alloc (.cells #[.slice A4 M4.length c4, .slice B4 H4.length k4] 27)) w40.heap.size [.slice A4 M4.length c4, .slice B4 H4.length k4] ∧ NetRd (w40.alloc (.cells #[.slice A4 M4.length c4, .slice B4 H4.length k4] 27)) A4 B4 M4 H4) := hide ⟨Row.new _ _ _, NetRd.alloc ⟨own_rd hoM, own_rd hoH⟩ _⟩
  clear hl hoM hoH hb
  obtain ⟨nm4, hnm⟩ : ∃ nm, nm = M4.length := ⟨_, rfl⟩
  obtain ⟨nh4, hnh⟩ : ∃ nh, nh = H4.length := ⟨_, rfl⟩
  rw [← hnm, ← hnh] at HG HV1 HV2 HV4 HL4 HNL
  rw [← hnm, ← hnh]
  have HN4 := hide (And.intro hnm hnh)
  clear hnm hnh
  have HM4 : Hid (nm4 ≤ maxLen ∧ nh4 ≤ maxLen) := hide (by have := HMX.out; have := HL4.out; omega)
  go_upto_region 28 with fail
  generalize w40.alloc (.cells #[.slice A4 nm4 c4, .slice B4 nh4 k4] 27) = w41 at *
  generalize w40.heap.size = b5 at *
  obtain ⟨wm, hwm⟩ : ∃ wm, wm = woM M4 H4 i4 := ⟨_, rfl⟩
  obtain ⟨wh, hwh⟩ : ∃ wh, wh = woH M4 H4 i4 := ⟨_, rfl⟩
  obtain ⟨wb, hwb⟩ : ∃ wb, wb = woOk M4 H4 i4 := ⟨_, rfl⟩
  have HWO := hide (And.intro hwm (And.intro hwh hwb))
  have HWL : Hid (wm.length ≤ 1048576 ∧ wh.length ≤ 1048576) := hide (by
    rw [hwm, hwh, woM, woH]
    have h1 := HL4.out
    have h2 := HN4.out
    split
    · exact ⟨by rw [closeM_length]; omega, by omega⟩
    · exact ⟨by simp, by simp⟩)
  clear hwm hwh hwb
  obtain ⟨nr, hnr⟩ : ∃ nr, nr = wm.length := ⟨_, rfl⟩
  obtain ⟨ns, hns⟩ : ∃ ns, ns = wh.length := ⟨_, rfl⟩
  have HRS := hide (And.intro hnr hns)
  rw [← hnr, ← hns] at HWL
  clear hnr hns
  have d0 := HV4.out.1.2.1 0 _ rfl
  have d1 := HV4.out.1.2.1 1 _ rfl
  have dz := HV4.out.1.1
  go_wp2_with fail
  refine (implWithoutMain_any A4 B4 nm4 c4 nh4 k4 i4 M4 H4 _ HN4.out.1 HN4.out.2 HM4.out.1 HM4.out.2 HV4.out.2 ).mono ?_
  rintro e w42 ⟨⟨v1, v2, rfl, ho⟩, hb⟩
  rw [← HWO.out.1, ← HWO.out.2.1] at ho
  rw [← HWO.out.2.2]
  obtain ⟨X5, x5, hv1, hrd1, -⟩ := own_open ho.1
  obtain ⟨Y5, y5, hv2, hrd2, -⟩ := own_open ho.2
  rw [← HRS.out.1] at hv1
  rw [← HRS.out.2] at hv2
  subst hv1
  subst hv2
  replace HG := hide (And.intro (below_alloc (below_step HG.out.1 hb) (.cells #[.slice X5 nr x5, .slice Y5 ns y5] 27)) (And.intro ((HG.out.2.1.below hb).alloc (.cells #[.slice X5 nr x5, .slice Y5 ns y5] 27)) ((HG.out.2.2.below hb).alloc (.cells #[.slice X5 nr x5, .slice Y5 ns y5] 27))))
  replace HV1 := hide (And.intro ((HV1.out.1.below hb).alloc (.cells #[.slice X5 nr x5, .slice Y5 ns y5] 27)) ((HV1.out.2.below hb).alloc (.cells #[.slice X5 nr x5, .slice Y5 ns y5] 27)))
  replace HV2 := hide (And.intro ((HV2.out.1.below hb).alloc (.cells #[.slice X5 nr x5, .slice Y5 ns y5] 27)) ((HV2.out.2.below hb).alloc (.cells #[.slice X5 nr x5, .slice Y5 ns y5] 27)))
  replace HV4 := hide (And.intro ((HV4.out.1.below hb).alloc (.cells #[.slice X5 nr x5, .slice Y5 ns y5] 27)) ((HV4.out.2.below hb).alloc (.cells #[.slice X5 nr x5, .slice Y5 ns y5] 27)))
  have HV5 : Hid (Row (w42.alloc (.cells #[.slice X5 nr x5, .slice Y5 ns y5] 27)) w42.heap.size [.slice X5 nr x5, .slice Y5 ns y5] ∧ NetRd (w42.alloc (.cells #[.slice X5 nr x5, .slice Y5 ns y5] 27)) X5 Y5 wm wh) := hide ⟨Row.new _ _ _, NetRd.alloc ⟨hrd1, hrd2⟩ _⟩
  clear ho hb hrd1 hrd2 d0 d1 dz
  go_upto_region 29 with fail
  generalize w42.alloc (.cells #[.slice X5 nr x5, .slice Y5 ns y5] 27) = w43 at *
  generalize w42.heap.size = b6 at *
  have d0 := HV4.out.1.2.1 0 _ rfl
  have d1 := HV4.out.1.2.1 1 _ rfl
  have dz := HV4.out.1.1
  go_wp2_with fail
  refine (specWithoutMain_all A4 B4 nm4 c4 nh4 k4 i4 M4 H4 _ HN4.out.1 HN4.out.2 HM4.out.1 HM4.out.2 HV4.out.2 HNL.out.1 HNL.out.2).mono ?_
  rintro e w44 ⟨⟨v1, v2, rfl, ho⟩, hb⟩
  rw [← HWO.out.1, ← HWO.out.2.1] at ho
  rw [← HWO.out.2.2]
  obtain ⟨X6, x6, hv1, hrd1, -⟩ := own_open ho.1
  obtain ⟨Y6, y6, hv2, hrd2, -⟩ := own_open ho.2
  rw [← HRS.out.1] at hv1
  rw [← HRS.out.2] at hv2
  subst hv1
  subst hv2
  replace HG := hide (And.intro (below_alloc (below_step HG.out.1 hb) (.cells #[.slice X6 nr x6, .slice Y6 ns y6] 27)) (And.intro ((HG.out.2.1.below hb).alloc (.cells #[.slice X6 nr x6, .slice Y6 ns y6] 27)) ((HG.out.2.2.below hb).alloc (.cells #[.slice X6 nr x6, .slice Y6 ns y6] 27))))
  replace HV1 := hide (And.intro ((HV1.out.1.below hb).alloc (.cells #[.slice X6 nr x6, .slice Y6 ns y6] 27)) ((HV1.out.2.below hb).alloc (.cells #[.slice X6 nr x6, .slice Y6 ns y6] 27)))
  replace HV2 := hide (And.intro ((HV2.out.1.below hb).alloc (.cells #[.slice X6 nr x6, .slice Y6 ns y6] 27)) ((HV2.out.2.below hb).alloc (.cells #[.slice X6 nr x6, .slice Y6 ns y6] 27)))
  replace HV4 := hide (And.intro ((HV4.out.1.below hb).alloc (.cells #[.slice X6 nr x6, .slice Y6 ns y6] 27)) ((HV4.out.2.below hb).alloc (.cells #[.slice X6 nr x6, .slice Y6 ns y6] 27)))
  replace HV5 := hide (And.intro ((HV5.out.1.below hb).alloc (.cells #[.slice X6 nr x6, .slice Y6 ns y6] 27)) ((HV5.out.2.below hb).alloc (.cells #[.slice X6 nr x6, .slice Y6 ns y6] 27)))
  have HV6 : Hid (Row (w44.alloc (.cells #[.slice X6 nr x6, .slice Y6 ns y6] 27)) w44.heap.size [.slice X6 nr x6, .slice Y6 ns y6] ∧ NetRd (w44.alloc (.cells #[.slice X6 nr x6, .slice Y6 ns y6] 27)) X6 Y6 wm wh) := hide ⟨Row.new _ _ _, NetRd.alloc ⟨hrd1, hrd2⟩ _⟩
  clear ho hb hrd1 hrd2 d0 d1 dz
  go_upto_region 30 with fail
  generalize w44.alloc (.cells #[.slice X6 nr x6, .slice Y6 ns y6] 27) = w45 at *
  generalize w44.heap.size = b7 at *
  as_aux_lemma =>
  go_cut [264] (fun s wx => s = .bool false ∧ Hid (Below w.heap.size w wx ∧ Row wx b2 [.slice A2 nm2 c2, .slice B2 nh2 k2] ∧ NetRd wx A2 B2 M2 H3))
  case first => as_aux_lemma =>
    have QA := hide (fun W (h1 : NetRd W X1 Y1 oM oY) (h2 : NetRd W X2 Y2 oM oY) => pSameNet_same X1 Y1 X2 Y2 np nq x1 y1 x2 y2 oM oY W HPQ.out.1 HPQ.out.2 HPL.out.1 HPL.out.2 h1 h2)
    have QB := hide (fun W (h1 : NetRd W X5 Y5 wm wh) (h2 : NetRd W X6 Y6 wm wh) => pSameNet_same X5 Y5 X6 Y6 nr ns x5 y5 x6 y6 wm wh W HRS.out.1 HRS.out.2 HWL.out.1 HWL.out.2 h1 h2)
    have QC := hide (fun W (h1 : NetRd W A2 B2 M2 H3) => implIsNet_any A2 B2 nm2 c2 nh2 k2 M2 H3 W HN.out.1 HN.out.2 HML.out.1 HML.out.2 h1)
    rw [← HNB.out.1] at QC
    have d0 := HV1.out.1.2.1 0 _ rfl
    have d1 := HV1.out.1.2.1 1 _ rfl
    have dz := HV1.out.1.1
    have e0 := HV2.out.1.2.1 0 _ rfl
    have e1 := HV2.out.1.2.1 1 _ rfl
    have ez := HV2.out.1.1
    go_wp2_with fail
    refine (QA.out _ HV1.out.2 HV2.out.2).mono ?_
    rintro e w50 ⟨rfl, hb⟩
    replace HG := hide (And.intro (below_step HG.out.1 hb) (And.intro (HG.out.2.1.below hb) (HG.out.2.2.below hb)))
    replace HV5 := hide (And.intro (HV5.out.1.below hb) (HV5.out.2.below hb))
    replace HV6 := hide (And.intro (HV6.out.1.below hb) (HV6.out.2.below hb))
    clear hb d0 d1 dz e0 e1 ez HV1 HV2 QA
    have d0 := HV5.out.1.2.1 0 _ rfl
    have d1 := HV5.out.1.2.1 1 _ rfl
    have dz := HV5.out.1.1
    have e0 := HV6.out.1.2.1 0 _ rfl
    have e1 := HV6.out.1.2.1 1 _ rfl
    have ez := HV6.out.1.1
    go_wp2_with fail
    refine (QB.out _ HV5.out.2 HV6.out.2).mono ?_
    rintro e w51 ⟨rfl, hb⟩
    replace HG := hide (And.intro (below_step HG.out.1 hb) (And.intro (HG.out.2.1.below hb) (HG.out.2.2.below hb)))
    clear hb d0 d1 dz e0 e1 ez HV5 HV6 QB
    have d0 := HG.out.2.1.2.1 0 _ rfl
    have d1 := HG.out.2.1.2.1 1 _ rfl
    have dz := HG.out.2.1.1
    go_wp2_with fail
    refine (QC.out _ HG.out.2.2).mono ?_
    rintro e w52 ⟨rfl, hb⟩
    replace HG := hide (And.intro (below_step HG.out.1 hb) (And.intro (HG.out.2.1.below hb) (HG.out.2.2.below hb)))
    clear hb d0 d1 dz QC
    go_wp2_with fail
    go_meet
    exact ⟨rfl, HG⟩
  clear HG HV1 HV2 HV4 HV5 HV6
  obtain ⟨rfl, HG⟩ := hcut
  as_aux_lemma =>
  cases nb with
  | false => as_aux_lemma =>
    go_wp2_with fail
    go_ret
    exact ⟨rfl, HG.out.1⟩
  | true => as_aux_lemma =>
    have hnb : netB M2 H3 = true := HNB.out.1.symm
    have htx : tx = nxT M2 H3 := by rw [HNB.out.2, txN_yes hnb]
    have hsz : tx.size ≤ 1048576 := by have := nxT_size (netB_ok hnb); rw [htx]; omega
    have hpn : pnI tx = some (M2, H3) := net_back_I hnb htx.symm
    have P3 := hide (fun W (hb : Below w.heap.size w W) => implParseNet_any tx W hsz (HE.out W hb))
    rw [hpn] at P3
    have QA := hide (fun W (X Y : Option Addr) (x y : Nat) (h1 : NetRd W X Y M2 H3) (h2 : NetRd W A2 B2 M2 H3) => pSameNet_same X Y A2 B2 nm2 nh2 x y c2 k2 M2 H3 W HN.out.1 HN.out.2 (by have := HLE.out; omega) (by have := HLE.out; omega) h1 h2)
    clear hnb htx hsz hpn
    go_wp2_with fail
    refine (P3.out _ HG.out.1).mono ?_
    rintro e w53 ⟨⟨v1, v2, rfl, ho⟩, hb⟩
    have ho1 : w53.ownsRow _ 36 2 v1 M2.length (M2.flatMap mcells) := ho.1
    have ho2 : w53.ownsRow _ 73 2 v2 H3.length (H3.flatMap mcells) := ho.2
    obtain ⟨X7, x7, hv1, hrd1, -⟩ := own_open ho1
    obtain ⟨Y7, y7, hv2, hrd2, -⟩ := own_open ho2
    rw [← HN.out.1] at hv1
    rw [← HN.out.2] at hv2
    subst hv1
    subst hv2
    simp only [Option.isSome_some]
    replace HG := hide (And.intro (below_alloc (below_step HG.out.1 hb) (.cells #[.slice X7 nm2 x7, .slice Y7 nh2 y7] 27)) (And.intro ((HG.out.2.1.below hb).alloc (.cells #[.slice X7 nm2 x7, .slice Y7 nh2 y7] 27)) ((HG.out.2.2.below hb).alloc (.cells #[.slice X7 nm2 x7, .slice Y7 nh2 y7] 27))))
    have HV7 : Hid (Row (w53.alloc (.cells #[.slice X7 nm2 x7, .slice Y7 nh2 y7] 27)) w53.heap.size [.slice X7 nm2 x7, .slice Y7 nh2 y7] ∧ NetRd (w53.alloc (.cells #[.slice X7 nm2 x7, .slice Y7 nh2 y7] 27)) X7 Y7 M2 H3) := hide ⟨Row.new _ _ _, NetRd.alloc ⟨hrd1, hrd2⟩ _⟩
    clear ho ho1 ho2 hb hrd1 hrd2 P3
    go_upto_region 34 with fail
    generalize w53.alloc (.cells #[.slice X7 nm2 x7, .slice Y7 nh2 y7] 27) = w54 at *
    generalize w53.heap.size = b8 at *
    have d0 := HV7.out.1.2.1 0 _ rfl
    have d1 := HV7.out.1.2.1 1 _ rfl
    have dz := HV7.out.1.1
    have e0 := HG.out.2.1.2.1 0 _ rfl
    have e1 := HG.out.2.1.2.1 1 _ rfl
    have ez := HG.out.2.1.1
    go_wp2_with fail
    refine (QA.out _ X7 Y7 x7 y7 HV7.out.2 HG.out.2.2).mono ?_
    rintro e w55 ⟨rfl, hb⟩
    replace HG := hide (And.intro (below_step HG.out.1 hb) (And.intro (HG.out.2.1.below hb) (HG.out.2.2.below hb)))
    clear hb d0 d1 dz e0 e1 ez
    go_wp2_with fail
    go_ret
    exact ⟨rfl, HG.out.1⟩
end Go.Proofs.YtfcpgpmhjadanaaGreatDoor

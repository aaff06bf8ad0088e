/- The law FnNames: what the law's call returns. -/
import Derived.Test.YtpkhdmhfkmajcaaDoorPzB
import Derived.Test.YtpkhdmhfkmajcaaDoorPzA
import Derived.Test.YtpkhdmhfkmajcaaDoorStrH
import Derived.Deep.DeepCutAuto
import Derived.Deep.CutBlock
import Derived.Deep.LoopGhost
namespace Go.Proofs.YtpkhdmhfkmajcaaDoor
open Go.RowKit
set_option linter.unusedVariables false

theorem byte_bd {l : List Int} (h : ∀ x ∈ l, (Lit.int .u8 x).wf = true) : ∀ x ∈ l, 0 ≤ x ∧ x ≤ 255 := fun x hx => by
  have := h x hx
  simp [Lit.wf] at this
  have e1 : IntKind.u8.min = 0 := rfl
  have e2 : IntKind.u8.max = 255 := rfl
  omega
theorem adT_ex (o : Option (ByteArray × Int)) : ∃ (a : ByteArray) (n : Int) (b : Bool), adT o = .tuple #[.string a, .int .i64 n, .bool b] ∧ (b = true → o = some (a, n)) := by
  cases o with
  | none => exact ⟨_, _, false, rfl, fun h => by cases h⟩
  | some x => exact ⟨_, _, true, rfl, fun _ => rfl⟩
/-- What is kept in memory. -/
def NaF (w W : World) (A1 : Option Addr) (l : List StrT) (A2 : Option Addr) (u : List StrT) (C1 C2 : Option Addr) (L : List ByteArray) : Prop :=
  Below w.heap.size w W ∧ Rd W A1 (l.flatMap scells) ∧ Rd W A2 (u.flatMap scells) ∧ Rd W C1 (strL L) ∧ Rd W C2 (strL L)

set_option maxRecDepth 100000 in
set_option maxHeartbeats 16000000 in
theorem FnNames_walk (A : Option Addr) (n c : Nat) (code : List Int) (B : Option Addr) (m k : Nat) (more : List Int) (w : World) (hn : n = code.length) (hnc : n ≤ c) (hc : c ≤ maxLen) (hr : Rd w A (code.map (Value.int .u8))) (hs : ∀ x ∈ code, (Lit.int .u8 x).wf = true)
    (hn2 : m = more.length) (hnc2 : m ≤ k) (hc2 : k ≤ maxLen) (hr2 : Rd w B (more.map (Value.int .u8))) (hs2 : ∀ x ∈ more, (Lit.int .u8 x).wf = true) (he : TxtEnv w) :
    Calls Tryd.prog 3 #[.slice A n c, .slice B m k] w fun e w' => e = .returned (.bool true) ∧ Below w.heap.size w w' := by
  have H1 := hide (And.intro hn (And.intro (Nat.le_trans hnc hc) (And.intro (byte_bd hs) hr)))
  have H2 := hide (And.intro hn2 (And.intro (Nat.le_trans hnc2 hc2) (And.intro (byte_bd hs2) hr2)))
  have HE := hide (fun W (h : Below w.heap.size w W) => he.below h)
  have hb1 : n ≤ 9223372036854775807 := by unfold maxLen at hc; omega
  have hb2 : m ≤ 9223372036854775807 := by unfold maxLen at hc2; omega
  obtain ⟨sv, hsv⟩ : ∃ sv, IntKind.i64.wrap ((n : Int) + (m : Int)) = sv := ⟨_, rfl⟩
  clear hn hr hs hn2 hr2 hs2 hnc hc hnc2 hc2 he
  have HMX : Hid ((1000 : Nat) ≤ maxLen) := hide (by unfold maxLen; omega)
  by_cases hbig : 1048576 < sv
  · go_enter Tryd.func3, Tryd.ntmps3
    go_wp2
    go_ret
    exact ⟨rfl, Below.refl _ _⟩
  go_enter Tryd.func3, Tryd.ntmps3
  go_wp2_with fail
  refine (DrawSimilarRoads_any A n c code _ H1.out.1 H1.out.2.1 H1.out.2.2.1 H1.out.2.2.2).mono ?_
  rintro e w1 ⟨⟨A1, c1, l, r, rfl, hrs, ho⟩, hb⟩
  have HW := hide hb
  have HR1 := hide (own_rd ho.2)
  have HL1 : Hid (l.length ≤ 1048576 ∧ ∀ x ∈ l, x.1.size ≤ maxLen) := hide ⟨by have := ho.1.1; omega, fun x hx => by have := ho.1.2 x hx; have := HMX.out; omega⟩
  have HRS : Hid (r.size ≤ maxLen) := hide (by have := HMX.out; omega)
  clear hb hrs ho
  go_wp2_with fail
  refine (implSimilarRoads_any A1 _ c1 l r _ rfl HL1.out.1 HL1.out.2 HR1.out HRS.out).mono ?_
  rintro e w2 ⟨⟨v1, rfl, ho⟩, hb⟩
  obtain ⟨C1, d1, hv1, -⟩ := own_open ho
  subst hv1
  have HO1 := hide (own_rd ho)
  replace HW := hide (below_step HW.out hb)
  replace HR1 := hide (HR1.out.below hb)
  clear hb ho
  go_wp2_with fail
  refine (specSimilarRoads_any A1 _ c1 l r _ rfl HL1.out.1 HL1.out.2 HR1.out HRS.out).mono ?_
  rintro e w3 ⟨⟨v2, rfl, ho⟩, hb⟩
  obtain ⟨C2, d2, hv2, -⟩ := own_open ho
  subst hv2
  have HO2 := hide (own_rd ho)
  replace HO1 := hide (HO1.out.below hb)
  replace HW := hide (below_step HW.out hb)
  replace HR1 := hide (HR1.out.below hb)
  clear hb ho
  have HSL := hide (srL_length l r)
  obtain ⟨L, hL⟩ : ∃ L, L = srL l r := ⟨_, rfl⟩
  obtain ⟨so, hso⟩ : ∃ so, so = srOk l r := ⟨_, rfl⟩
  rw [← hL] at HO1 HO2 HSL
  rw [← hL, ← hso]
  have HLQ := hide hL
  have HSO := hide hso
  clear hL hso
  obtain ⟨m3, hm3⟩ : ∃ m3, m3 = L.length := ⟨_, rfl⟩
  rw [← hm3] at HSL
  rw [← hm3]
  have HM3 := hide hm3
  clear hm3
  go_wp2_with fail
  refine (DrawLikelyAddress_any B m k more _ H2.out.1 H2.out.2.1 H2.out.2.2.1 (H2.out.2.2.2.below HW.out)).mono ?_
  rintro e w4 ⟨⟨A2, c2, u, nm, hh, rfl, hrs, ho⟩, hb⟩
  replace HW := hide (below_step HW.out hb)
  replace HR1 := hide (HR1.out.below hb)
  replace HO1 := hide (HO1.out.below hb)
  replace HO2 := hide (HO2.out.below hb)
  have HR2 := hide (own_rd ho.2)
  have HL2 : Hid (u.length ≤ 1048576 ∧ ∀ x ∈ u, x.1.size ≤ maxLen) := hide ⟨by have := ho.1.1; omega, fun x hx => by have := ho.1.2 x hx; have := HMX.out; omega⟩
  have HNM : Hid (nm.size ≤ maxLen) := hide (by have := HMX.out; omega)
  clear hb hrs ho
  obtain ⟨m4, hm4⟩ : ∃ m4, m4 = u.length := ⟨_, rfl⟩
  rw [← hm4] at HL2
  rw [← hm4]
  have HM4 := hide hm4
  clear hm4
  go_wp2_with fail
  refine (implLikelyAddress_any A2 m4 c2 u nm hh _ HM4.out HL2.out.1 HL2.out.2 HR2.out HNM.out).mono ?_
  rintro e w5 ⟨rfl, hb⟩
  replace HW := hide (below_step HW.out hb)
  replace HR1 := hide (HR1.out.below hb)
  replace HR2 := hide (HR2.out.below hb)
  replace HO1 := hide (HO1.out.below hb)
  replace HO2 := hide (HO2.out.below hb)
  clear hb
  go_wp2_with fail
  refine (specLikelyAddress_any A2 m4 c2 u nm hh _ HM4.out HL2.out.1 HL2.out.2 HR2.out HNM.out).mono ?_
  rintro e w6 ⟨rfl, hb⟩
  replace HW := hide (below_step HW.out hb)
  replace HR1 := hide (HR1.out.below hb)
  replace HR2 := hide (HR2.out.below hb)
  replace HO1 := hide (HO1.out.below hb)
  replace HO2 := hide (HO2.out.below hb)
  clear hb
  have N3 := na3 (l := u) (s := nm) (h := hh)
  obtain ⟨ks, hks⟩ : ∃ ks, ks = lkS u nm hh := ⟨_, rfl⟩
  obtain ⟨kv, hkv⟩ : ∃ kv, kv = lkV u nm hh := ⟨_, rfl⟩
  obtain ⟨kb, hkb⟩ : ∃ kb, kb = lkB u nm hh := ⟨_, rfl⟩
  rw [← hks, ← hkv, ← hkb] at N3
  rw [← hks, ← hkv, ← hkb]
  replace N3 := hide N3
  clear hks hkv hkb
  go_wp2_with fail
  refine (DrawParseAddress_any B m k more _ H2.out.1 H2.out.2.1 H2.out.2.2.1 (H2.out.2.2.2.below HW.out)).mono ?_
  rintro e w7 ⟨⟨s, rfl, hsz⟩, hb⟩
  replace HW := hide (below_step HW.out hb)
  replace HR1 := hide (HR1.out.below hb)
  replace HR2 := hide (HR2.out.below hb)
  replace HO1 := hide (HO1.out.below hb)
  replace HO2 := hide (HO2.out.below hb)
  have HSZ : Hid (s.size ≤ 1048576) := hide (by omega)
  clear hb hsz
  have P1 := hide (fun W (hb : Below w.heap.size w W) => implParseAddress_any s W HSZ.out (HE.out W hb))
  have P2 := hide (fun W => specParseAddress_any s W HSZ.out)
  rw [ad_eq s] at P1
  have P3 := hide (fun a n h => na4 (s := s) (a := a) (n := n) h)
  obtain ⟨pa, pn, pb, hpe, hpo⟩ := adT_ex (adS s)
  rw [hpe] at P1 P2
  have HPO := hide (fun h => P3.out pa pn (hpo h))
  clear hpe hpo P3
  go_wp2_with fail
  refine (P1.out _ HW.out).mono ?_
  rintro e w8 ⟨rfl, hb⟩
  replace HW := hide (below_step HW.out hb)
  replace HR1 := hide (HR1.out.below hb)
  replace HR2 := hide (HR2.out.below hb)
  replace HO1 := hide (HO1.out.below hb)
  replace HO2 := hide (HO2.out.below hb)
  clear hb
  go_wp2_with fail
  refine (P2.out _).mono ?_
  rintro e w9 ⟨rfl, hb⟩
  have HF : Hid (∀ W, Below w9.heap.size w9 W → NaF w W A1 l A2 u C1 C2 L) := hide (fun W h => ⟨below_step (below_step HW.out hb) h, (HR1.out.below hb).below h, (HR2.out.below hb).below h, (HO1.out.below hb).below h, (HO2.out.below hb).below h⟩)
  clear hb P1 P2 HW HR1 HR2 HO1 HO2
  obtain ⟨W8, hW8⟩ : ∃ W, W = w9 := ⟨_, rfl⟩
  have HBW : Hid (Below W8.heap.size W8 w9) := hide (by rw [hW8]; exact Below.refl _ _)
  rw [← hW8] at HF
  clear hW8
  go_upto_region 12 with fail
  go_cut [138] (fun s wx => s = .bool false ∧ Hid (Below W8.heap.size W8 wx))
  case first =>
    have QS := hide (fun W hb => qTexts_same C1 C2 m3 d1 d2 L W HM3.out (by have := HSL.out; omega) (HF.out W hb).2.2.2.1 (HF.out W hb).2.2.2.2)
    go_wp2_with fail
    refine (QS.out _ HBW.out).mono ?_
    rintro e w17 ⟨rfl, hq⟩
    replace HBW := hide (below_step HBW.out hq)
    clear hq QS
    go_wp2_with fail
    go_meet
    exact ⟨rfl, HBW⟩
  clear HBW
  obtain ⟨rfl, HBW⟩ := hcut
  go_upto_region 15 with fail
  go_loopg [141] m3 (fun g t wr => ∃ j : Nat, t = .int .i64 (j : Int) ∧ j ≤ m3 ∧ Hid (m3 ≤ g + j) ∧ Hid (Below W8.heap.size W8 wr))
  case atStart => exact ⟨0, rfl, by omega, hide (by omega), HBW⟩
  case round =>
    clear HBW
    obtain ⟨j, rfl, hj, HGK, HBW⟩ := hrel
    by_cases hlt : j < m3
    · obtain ⟨x, hx⟩ : ∃ x, L[j]? = some x := ⟨_, List.getElem?_eq_getElem (by rw [← HM3.out]; exact hlt)⟩
      have hsl : (srL l r)[j]? = some x := by rw [← HLQ.out]; exact hx
      have hsr : srOk l r = true := by
        cases h : srOk l r with
        | true => rfl
        | false => rw [srL, h] at hsl; simp at hsl
      obtain ⟨x1, x2, x3, x4, x5, x6, x7⟩ := na1 hsr hsl
      have QH := hide (fun W hb => implHousesOf_any A1 _ c1 l x W rfl HL1.out.1 HL1.out.2 (HF.out W hb).2.1 (by have := HMX.out; omega))
      rw [x3] at QH
      have QR := hide (fun W B' hr => implSimilarRoads_any B' 1 1 [(r, 1, 1, 0, 1)] x W rfl (by omega) (fun y hy => by rw [List.mem_singleton.1 hy]; exact HRS.out) hr (by have := HMX.out; omega))
      have HX6 := hide x6
      have HX7 := hide x7
      have HSR := hide hsr
      have HSX := hide hsl
      obtain ⟨b, off, hC, hbs, c0⟩ := (HF.out _ HBW.out).2.2.2.2.get1 (k := j) (u := .string x) (by rw [strL, List.getElem?_map, hx]; rfl)
      subst hC
      generalize housesV l x = hv at *
      have hj0 : (0 : Int) ≤ (j : Int) := by omega
      have hj1 : (j : Int) < (m3 : Int) := by omega
      have hs30 : m3 ≤ 30 := HSL.out
      clear hsl hsr x1 x2 x3 x6 x7 hx
      go_wp2_with fail
      refine (QH.out _ HBW.out).mono ?_
      rintro e w11 ⟨rfl, hq⟩
      replace HBW := hide (below_step HBW.out hq)
      clear hq QH c0 hbs
      go_wp2_with fail
      refine (QR.out (w11.alloc (.cells #[.string r, .int .i64 1, .int .i64 1, .int .i64 0, .int .i64 1] 39)) (some ⟨w11.heap.size, 0, none⟩) (Row.new w11 #[.string r, .int .i64 1, .int .i64 1, .int .i64 0, .int .i64 1] 39).rd).mono ?_
      rintro e w12 ⟨⟨v, rfl, ho⟩, hq⟩
      rw [HX7.out] at ho
      obtain ⟨D1, e1, hv2, -⟩ := own_open ho
      subst hv2
      have hrd : Rd w12 D1 (strL [r]) := own_rd ho
      have HRD := hide hrd
      replace HBW := hide (below_step (below_alloc HBW.out _) hq)
      rw [HX6.out]
      simp only [List.length_singleton]
      clear hq QR ho hrd HX7 HX6
      by_cases hz : j = 0
      · subst hz
        go_wp2_with fail
        refine (qTexts_same D1 (some ⟨w12.heap.size, 0, none⟩) 1 e1 1 [r] (w12.alloc (.cells #[.string r] 9)) rfl (by omega) (HRD.out.alloc _) (Row.new w12 #[.string r] 9).rd).mono ?_
        rintro e w13 ⟨rfl, hq⟩
        replace HBW := hide (below_step (below_alloc HBW.out _) hq)
        clear hq
        go_wp2_with fail
        go_roundg (gk - 1)
        case measure => have := HGK.out; omega
        case rel => exact ⟨0 + 1, by go_num, by omega, hide (by have := HGK.out; omega), HBW⟩
      · obtain ⟨i, rfl⟩ : ∃ i, j = i + 1 := ⟨j - 1, by omega⟩
        obtain ⟨y, hy⟩ : ∃ y, L[i]? = some y := ⟨_, List.getElem?_eq_getElem (by rw [← HM3.out]; omega)⟩
        have hlt2 : Op.bytesLess y.toList x.toList = true := na2 HSR.out (by rw [← HLQ.out]; exact hy) HSX.out
        obtain ⟨b', off', hC, hbs', c1'⟩ := (HF.out _ HBW.out).2.2.2.2.get1 (k := i) (u := .string y) (by rw [strL, List.getElem?_map, hy]; rfl)
        cases hC
        have e1' : IntKind.i64.wrap (((i + 1 : Nat) : Int) - 1) = (i : Int) := by rw [IntWalk.i64_in _ (by omega)]; omega
        have e2 : (0 : Int) ≤ (i : Int) := by omega
        have e3 : (i : Int) < (m3 : Int) := by omega
        have e4 : (0 : Int) < ((i + 1 : Nat) : Int) := by omega
        clear hy
        go_wp2_with fail
        refine (qTexts_same D1 (some ⟨w12.heap.size, 0, none⟩) 1 e1 1 [r] (w12.alloc (.cells #[.string r] 9)) rfl (by omega) (HRD.out.alloc _) (Row.new w12 #[.string r] 9).rd).mono ?_
        rintro e w13 ⟨rfl, hq⟩
        replace HBW := hide (below_step (below_alloc HBW.out _) hq)
        clear hq
        go_wp2_with fail
        go_roundg (gk - 1)
        case measure => have := HGK.out; omega
        case rel => exact ⟨(i + 1) + 1, by go_num, by omega, hide (by have := HGK.out; omega), HBW⟩
    · have hjf : ((j : Int) < (m3 : Int)) = False := by simp; omega
      go_upto_if 196 with fail
      go_cut [] (fun wx => Hid (Below W8.heap.size W8 wx))
      case first =>
        cases kb with
        | false =>
          go_wp2_with fail
          go_meet
          exact HBW
        | true =>
          obtain ⟨n1, n2, n3, n4, n5, n6⟩ := N3.out rfl
          have hks : ks.size ≤ maxLen := by have := HMX.out; omega
          have Q1 := hide (fun W hb => implFindAddress_any A2 m4 c2 u ks hh W HM4.out HL2.out.1 HL2.out.2 (HF.out W hb).2.2.1 hks)
          have Q2 := hide (fun W hb => specFindAddress_any A2 m4 c2 u nm hh W HM4.out HL2.out.1 HL2.out.2 (HF.out W hb).2.2.1 HNM.out)
          have Q3 := hide (fun W hb => specSimilarRoads_any A2 m4 c2 u nm W HM4.out HL2.out.1 HL2.out.2 (HF.out W hb).2.2.1 HNM.out)
          rw [n3, decide_eq_true n2] at Q1
          rw [n5] at Q2
          have HN4 := hide n4
          have HN6 := hide n6
          clear n1 n2 n3 n4 n5 n6 hks
          go_wp2_with fail
          refine (Q1.out _ HBW.out).mono ?_
          rintro e w11 ⟨rfl, hq⟩
          replace HBW := hide (below_step HBW.out hq)
          clear hq Q1
          go_wp2_with fail
          refine (Q2.out _ HBW.out).mono ?_
          rintro e w12 ⟨rfl, hq⟩
          replace HBW := hide (below_step HBW.out hq)
          clear hq Q2
          go_wp2_with fail
          refine (Q3.out _ HBW.out).mono ?_
          rintro e w13 ⟨⟨v, rfl, ho⟩, hq⟩
          replace HBW := hide (below_step HBW.out hq)
          rw [HN4.out]
          obtain ⟨D1, e1, hv2, -⟩ := own_open ho
          subst hv2
          have hrd : Rd w13 D1 (strL (srL u nm)) := own_rd ho
          have HRD := hide hrd
          have HLS := hide (srL_length u nm)
          clear hq Q3 ho hrd
          cases hz : (ks.toList == nm.toList) with
          | true =>
            go_wp2_with fail
            go_meet
            exact HBW
          | false =>
            have QY := hide (fun W hr => qSay_any D1 _ e1 (srL u nm) ks W rfl (by have := HLS.out; omega) hr)
            rw [HN6.out hz] at QY
            go_wp2_with fail
            refine (QY.out _ HRD.out).mono ?_
            rintro e w14 ⟨rfl, hq⟩
            replace HBW := hide (below_step HBW.out hq)
            clear hq QY
            go_wp2_with fail
            go_meet
            exact HBW
      clear HBW
      replace HBW := hide hcut.out
      clear hcut
      cases pb with
      | false =>
        go_wp2_with fail
        go_ret
        exact ⟨rfl, (HF.out _ HBW.out).1⟩
      | true =>
        obtain ⟨q1, q2, q3⟩ := HPO.out rfl
        have q4 : (pa.size : Int) ≤ 10 := by omega
        go_wp2_with fail
        go_ret
        exact ⟨rfl, (HF.out _ HBW.out).1⟩
end Go.Proofs.YtpkhdmhfkmajcaaDoor

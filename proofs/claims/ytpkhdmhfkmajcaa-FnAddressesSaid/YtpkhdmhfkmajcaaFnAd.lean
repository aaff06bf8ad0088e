/- The law FnAddresses: what the law's call returns. -/
import Derived.Test.YtpkhdmhfkmajcaaFnAdM
import Derived.Test.YtpkhdmhfkmajcaaQSt
import Derived.Test.YtpkhdmhfkmajcaaDrawSc
import Derived.Test.YtpkhdmhfkmajcaaRhC
import Derived.Test.YtpkhdmhfkmajcaaRhD
import Derived.Test.YtpkhdmhfkmajcaaGapC
import Derived.Deep.DeepCutAuto
import Derived.Deep.CutBlock
import Derived.Deep.LoopGhost
namespace Go.Proofs.Ytpkhdmhfkmajcaa
open Go.RowKit
set_option linter.unusedVariables false

theorem ad_byte {l : List Int} (h : ∀ x ∈ l, (Lit.int .u8 x).wf = true) : ∀ x ∈ l, 0 ≤ x ∧ x ≤ 255 := fun x hx => by
  have := h x hx
  simp [Lit.wf] at this
  have e1 : IntKind.u8.min = 0 := rfl
  have e2 : IntKind.u8.max = 255 := rfl
  omega
/-- What is known of a stretch that was added. -/
def AdYes (l La : List StrT) (s0 : ByteArray) (s1 s2 s3 s4 : Int) : Prop :=
  (1 ≤ s1 ∧ s1 ≤ s2 ∧ s2 ≤ 999) ∧ s0.size ≤ 10 ∧ strsB La = true ∧ (strsB l && roadB s0) = true ∧ (strsB La && roadB s0) = true ∧ 0 ≤ addrK La s0 s2 ∧ addrV La (addrK La s0 s2) = (s3, s4) ∧ housesV La s0 = housesV l s0 + s2 - s1 + 1 ∧ La.length ≤ 30 ∧ ∀ x ∈ La, x.1.size ≤ 10
theorem asO_ex (l : List StrT) (s0 : ByteArray) (s1 s2 s3 s4 : Int) : ∃ (La : List StrT) (ob : Bool), (asO l (s0, s1, s2, s3, s4)).getD [] = La ∧ (asO l (s0, s1, s2, s3, s4)).isSome = ob ∧ La.length ≤ 30 ∧ (∀ x ∈ La, x.1.size ≤ 20) ∧ (ob = true → AdYes l La s0 s1 s2 s3 s4) := by
  have h := asO_road l (s0, s1, s2, s3, s4)
  refine ⟨_, _, rfl, rfl, h.1, h.2, fun ho => ?_⟩
  cases ha : asO l (s0, s1, s2, s3, s4) with
  | none => rw [ha] at ho; cases ho
  | some r => exact ad1 ha
/-- What is known where a house was removed. -/
def RhYes (l Lr : List StrT) (s : ByteArray) (h : Int) : Prop :=
  0 ≤ addrK l s h ∧ strsB Lr = true ∧ (strsB l && roadB s) = true ∧ (strsB Lr && roadB s) = true ∧ addrK Lr s h = -1 ∧ housesV Lr s = housesV l s - 1 ∧ Lr.length ≤ 30 ∧ ∀ x ∈ Lr, x.1.size ≤ 10
theorem rhO_ex (l : List StrT) (s : ByteArray) (h : Int) : ∃ (Lr : List StrT) (rb : Bool), rhL l s h = Lr ∧ (rhO l s h).isSome = rb ∧ Lr.length ≤ 30 ∧ (∀ x ∈ Lr, x.1.size ≤ 10) ∧ (rb = true → RhYes l Lr s h) := by
  refine ⟨_, _, rfl, rfl, ?_⟩
  unfold rhL
  cases ha : rhO l s h with
  | none => exact ⟨by simp, by simp, fun ho => by cases ho⟩
  | some r =>
    have h2 := ad2 ha
    exact ⟨h2.2.2.2.2.2.2.1, h2.2.2.2.2.2.2.2, fun _ => h2⟩
/-- What is kept in memory. -/
def AdF (w : World) (bx : Nat) (xs : List Value) (A1 C1 C2 A2 D1 D2 A3 A4 : Option Addr) (l La u Lr v z : List StrT) (B1 B2 : Nat) (g1 g2 : Value) (G : List (Int × Int)) (W : World) : Prop :=
  Below w.heap.size w W ∧ Row W bx xs ∧ Rd W A1 (l.flatMap scells) ∧ Rd W C1 (La.flatMap scells) ∧ Rd W C2 (La.flatMap scells) ∧ Rd W A2 (u.flatMap scells) ∧ Rd W D1 (Lr.flatMap scells) ∧ Rd W D2 (Lr.flatMap scells) ∧ Rd W A3 (v.flatMap scells) ∧ Nest W B1 g1 G ∧ Nest W B2 g2 G ∧ Rd W A4 (z.flatMap scells)
section
variable {w W : World} {bx : Nat} {xs : List Value} {A1 C1 C2 A2 D1 D2 A3 A4 : Option Addr} {l La u Lr v z : List StrT} {B1 B2 : Nat} {g1 g2 : Value} {G : List (Int × Int)}
theorem AdF.bel (h : AdF w bx xs A1 C1 C2 A2 D1 D2 A3 A4 l La u Lr v z B1 B2 g1 g2 G W) : Below w.heap.size w W := h.1
theorem AdF.box (h : AdF w bx xs A1 C1 C2 A2 D1 D2 A3 A4 l La u Lr v z B1 B2 g1 g2 G W) : Row W bx xs := h.2.1
theorem AdF.rl (h : AdF w bx xs A1 C1 C2 A2 D1 D2 A3 A4 l La u Lr v z B1 B2 g1 g2 G W) : Rd W A1 (l.flatMap scells) := h.2.2.1
theorem AdF.ra (h : AdF w bx xs A1 C1 C2 A2 D1 D2 A3 A4 l La u Lr v z B1 B2 g1 g2 G W) : Rd W C1 (La.flatMap scells) := h.2.2.2.1
theorem AdF.rb (h : AdF w bx xs A1 C1 C2 A2 D1 D2 A3 A4 l La u Lr v z B1 B2 g1 g2 G W) : Rd W C2 (La.flatMap scells) := h.2.2.2.2.1
theorem AdF.ru (h : AdF w bx xs A1 C1 C2 A2 D1 D2 A3 A4 l La u Lr v z B1 B2 g1 g2 G W) : Rd W A2 (u.flatMap scells) := h.2.2.2.2.2.1
theorem AdF.rr (h : AdF w bx xs A1 C1 C2 A2 D1 D2 A3 A4 l La u Lr v z B1 B2 g1 g2 G W) : Rd W D1 (Lr.flatMap scells) := h.2.2.2.2.2.2.1
theorem AdF.rs (h : AdF w bx xs A1 C1 C2 A2 D1 D2 A3 A4 l La u Lr v z B1 B2 g1 g2 G W) : Rd W D2 (Lr.flatMap scells) := h.2.2.2.2.2.2.2.1
theorem AdF.rv (h : AdF w bx xs A1 C1 C2 A2 D1 D2 A3 A4 l La u Lr v z B1 B2 g1 g2 G W) : Rd W A3 (v.flatMap scells) := h.2.2.2.2.2.2.2.2.1
theorem AdF.ng (h : AdF w bx xs A1 C1 C2 A2 D1 D2 A3 A4 l La u Lr v z B1 B2 g1 g2 G W) : Nest W B1 g1 G := h.2.2.2.2.2.2.2.2.2.1
theorem AdF.nh (h : AdF w bx xs A1 C1 C2 A2 D1 D2 A3 A4 l La u Lr v z B1 B2 g1 g2 G W) : Nest W B2 g2 G := h.2.2.2.2.2.2.2.2.2.2.1
theorem AdF.rz (h : AdF w bx xs A1 C1 C2 A2 D1 D2 A3 A4 l La u Lr v z B1 B2 g1 g2 G W) : Rd W A4 (z.flatMap scells) := h.2.2.2.2.2.2.2.2.2.2.2
end

set_option maxRecDepth 100000 in
set_option maxHeartbeats 16000000 in
theorem FnAddresses_walk (A : Option Addr) (n c : Nat) (code : List Int) (B : Option Addr) (m k : Nat) (more : List Int) (w : World) (hn : n = code.length) (hnc : n ≤ c) (hc : c ≤ maxLen) (hr : Rd w A (code.map (Value.int .u8))) (hs : ∀ x ∈ code, (Lit.int .u8 x).wf = true)
    (hn2 : m = more.length) (hnc2 : m ≤ k) (hc2 : k ≤ maxLen) (hr2 : Rd w B (more.map (Value.int .u8))) (hs2 : ∀ x ∈ more, (Lit.int .u8 x).wf = true) :
    Calls Try.prog 3 #[.slice A n c, .slice B m k] w fun e w' => e = .returned (.bool true) ∧ Below w.heap.size w w' := by
  have H1 := hide (And.intro hn (And.intro (Nat.le_trans hnc hc) (And.intro (ad_byte hs) hr)))
  have H2 := hide (And.intro hn2 (And.intro (Nat.le_trans hnc2 hc2) (And.intro (ad_byte hs2) hr2)))
  have hb1 : n ≤ 9223372036854775807 := by unfold maxLen at hc; omega
  have hb2 : m ≤ 9223372036854775807 := by unfold maxLen at hc2; omega
  obtain ⟨sv, hsv⟩ : ∃ sv, IntKind.i64.wrap ((n : Int) + (m : Int)) = sv := ⟨_, rfl⟩
  clear hn hr hs hn2 hr2 hs2 hnc hc hnc2 hc2
  have HMX : Hid ((1000 : Nat) ≤ maxLen) := hide (by unfold maxLen; omega)
  by_cases hbig : 1048576 < sv
  · go_enter Try.func3, Try.ntmps3
    go_wp2
    go_ret
    exact ⟨rfl, Below.refl _ _⟩
  go_enter Try.func3, Try.ntmps3
  go_wp2_with fail
  refine (DrawAddStretch_any A n c code _ H1.out.1 H1.out.2.1 H1.out.2.2.1 H1.out.2.2.2).mono ?_
  rintro e w1 ⟨⟨A1, c1, l, s0, s1, s2, s3, s4, rfl, hz0, ho⟩, hb⟩
  obtain ⟨p1, p2, p3, p4⟩ := own_strs ho.2
  have HP1 := hide (And.intro p1 (And.intro p2 p4))
  have HR1 := hide (p3.alloc (.cells #[.string s0, .int .i64 s1, .int .i64 s2, .int .i64 s3, .int .i64 s4] 25))
  have HL1 : Hid (l.length ≤ 1048576 ∧ ∀ x ∈ l, x.1.size ≤ maxLen) := hide ⟨by have := ho.1.1; omega, fun x hx => by have := ho.1.2 x hx; have := HMX.out; omega⟩
  have HZ0 : Hid (s0.size ≤ maxLen) := hide (by have := HMX.out; omega)
  have HBX := hide (Row.new w1 #[.string s0, .int .i64 s1, .int .i64 s2, .int .i64 s3, .int .i64 s4] 25)
  have HW := hide (below_alloc hb (.cells #[.string s0, .int .i64 s1, .int .i64 s2, .int .i64 s3, .int .i64 s4] 25))
  clear hb hz0 ho p1 p2 p3 p4
  obtain ⟨m1, hm1⟩ : ∃ m1, m1 = l.length := ⟨_, rfl⟩
  rw [← hm1] at HL1 HP1
  rw [← hm1]
  have HM1 := hide hm1
  clear hm1
  as_aux_lemma =>
  go_upto_region 4 with fail
  as_aux_lemma =>
  generalize w1.alloc (.cells #[.string s0, .int .i64 s1, .int .i64 s2, .int .i64 s3, .int .i64 s4] 25) = W1 at *
  generalize w1.heap.size = bx at *
  have r0 := HBX.out.2.1 0 _ rfl
  have r1 := HBX.out.2.1 1 _ rfl
  have r2 := HBX.out.2.1 2 _ rfl
  have r3 := HBX.out.2.1 3 _ rfl
  have r4 := HBX.out.2.1 4 _ rfl
  have rz := HBX.out.1
  obtain ⟨La, ob, e1, e2, f1, f2, f3⟩ := asO_ex l s0 s1 s2 s3 s4
  have HE1 := hide (And.intro e1 e2)
  have HLA := hide (And.intro f1 f2)
  have HAD := hide f3
  clear e1 e2 f1 f2 f3
  obtain ⟨ma, hma⟩ : ∃ ma, ma = La.length := ⟨_, rfl⟩
  rw [← hma] at HLA
  have HMA := hide hma
  clear hma
  go_wp2_with fail
  refine (implAddStretch_any A1 m1 c1 l s0 s1 s2 s3 s4 _ HM1.out HP1.out.1 HP1.out.2.1 HL1.out.1 HL1.out.2 HR1.out HZ0.out).mono ?_
  rintro e w2 ⟨⟨v1, rfl, ho⟩, hb⟩
  rw [HE1.out.1] at ho
  rw [HE1.out.2]
  obtain ⟨C1, d1, hv1, hrd, -⟩ := own_open ho
  rw [← HMA.out] at hv1
  subst hv1
  have HC1 := hide hrd
  replace HW := hide (below_step HW.out hb)
  replace HR1 := hide (HR1.out.below hb)
  replace HBX := hide (HBX.out.below hb)
  clear hb ho hrd r0 r1 r2 r3 r4 rz
  have r0 := HBX.out.2.1 0 _ rfl
  have r1 := HBX.out.2.1 1 _ rfl
  have r2 := HBX.out.2.1 2 _ rfl
  have r3 := HBX.out.2.1 3 _ rfl
  have r4 := HBX.out.2.1 4 _ rfl
  have rz := HBX.out.1
  as_aux_lemma =>
  go_wp2_with fail
  refine (specAddStretch_all A1 m1 c1 l s0 s1 s2 s3 s4 _ HM1.out HP1.out.1 HP1.out.2.1 HL1.out.1 HL1.out.2 HR1.out HZ0.out HP1.out.2.2).mono ?_
  rintro e w3 ⟨⟨v2, rfl, ho⟩, hb⟩
  rw [HE1.out.1] at ho
  rw [HE1.out.2]
  obtain ⟨C2, d2, hv2, hrd, -⟩ := own_open ho
  rw [← HMA.out] at hv2
  subst hv2
  have HC2 := hide hrd
  replace HC1 := hide (HC1.out.below hb)
  replace HW := hide (below_step HW.out hb)
  replace HR1 := hide (HR1.out.below hb)
  replace HBX := hide (HBX.out.below hb)
  clear hb ho hrd r0 r1 r2 r3 r4 rz
  as_aux_lemma =>
  go_wp2_with fail
  refine (DrawRemoveHouse_any B m k more _ H2.out.1 H2.out.2.1 H2.out.2.2.1 (H2.out.2.2.2.below HW.out)).mono ?_
  rintro e w4 ⟨⟨A2, c2, u, nm, hh, rfl, hzn, ho⟩, hb⟩
  obtain ⟨p1, p2, p3, p4⟩ := own_strs ho.2
  have HP2 := hide (And.intro p1 p2)
  have HR2 := hide p3
  have HL2 : Hid (u.length ≤ 1048576 ∧ ∀ x ∈ u, x.1.size ≤ maxLen) := hide ⟨by have := ho.1.1; omega, fun x hx => by have := ho.1.2 x hx; have := HMX.out; omega⟩
  have HZN : Hid (nm.size ≤ maxLen) := hide (by have := HMX.out; omega)
  replace HC1 := hide (HC1.out.below hb)
  replace HC2 := hide (HC2.out.below hb)
  replace HW := hide (below_step HW.out hb)
  replace HR1 := hide (HR1.out.below hb)
  replace HBX := hide (HBX.out.below hb)
  clear hb hzn ho p1 p2 p3 p4
  obtain ⟨m2, hm2⟩ : ∃ m2, m2 = u.length := ⟨_, rfl⟩
  rw [← hm2] at HL2 HP2
  rw [← hm2]
  have HM2 := hide hm2
  clear hm2
  obtain ⟨Lr, rb, e1, e2, f1, f2, f3⟩ := rhO_ex u nm hh
  have HE2 := hide (And.intro e1 e2)
  have HLR := hide (And.intro f1 f2)
  have HRH := hide f3
  clear e1 e2 f1 f2 f3
  obtain ⟨mr, hmr⟩ : ∃ mr, mr = Lr.length := ⟨_, rfl⟩
  rw [← hmr] at HLR
  have HMR := hide hmr
  clear hmr
  go_wp2_with fail
  refine (implRemoveHouse_any A2 m2 c2 u nm hh _ HM2.out HP2.out.1 HP2.out.2 HL2.out.1 HL2.out.2 HR2.out HZN.out).mono ?_
  rintro e w5 ⟨⟨v1, rfl, ho⟩, hb⟩
  rw [HE2.out.1] at ho
  rw [HE2.out.2]
  obtain ⟨D1, eD1, hv1, hrd, -⟩ := own_open ho
  rw [← HMR.out] at hv1
  subst hv1
  have HD1 := hide hrd
  replace HC1 := hide (HC1.out.below hb)
  replace HC2 := hide (HC2.out.below hb)
  replace HW := hide (below_step HW.out hb)
  replace HR1 := hide (HR1.out.below hb)
  replace HR2 := hide (HR2.out.below hb)
  replace HBX := hide (HBX.out.below hb)
  
  clear hb ho hrd
  go_wp2_with fail
  refine (specRemoveHouse_any A2 m2 c2 u nm hh _ HM2.out HP2.out.1 HP2.out.2 HL2.out.1 HL2.out.2 HR2.out HZN.out).mono ?_
  rintro e w6 ⟨⟨v1, rfl, ho⟩, hb⟩
  rw [HE2.out.1] at ho
  rw [HE2.out.2]
  obtain ⟨D2, eD2, hv1, hrd, -⟩ := own_open ho
  rw [← HMR.out] at hv1
  subst hv1
  have HD2 := hide hrd
  replace HC1 := hide (HC1.out.below hb)
  replace HC2 := hide (HC2.out.below hb)
  replace HW := hide (below_step HW.out hb)
  replace HR1 := hide (HR1.out.below hb)
  replace HR2 := hide (HR2.out.below hb)
  replace HBX := hide (HBX.out.below hb)
  replace HD1 := hide (HD1.out.below hb)
  clear hb ho hrd
  as_aux_lemma =>
  obtain ⟨fk, hfk⟩ : ∃ fk, fk = addrK u nm hh := ⟨_, rfl⟩
  obtain ⟨f1, hf1⟩ : ∃ f1, f1 = (addrV u fk).1 := ⟨_, rfl⟩
  obtain ⟨f2, hf2⟩ : ∃ f2, f2 = (addrV u fk).2 := ⟨_, rfl⟩
  obtain ⟨tb, htb⟩ : ∃ tb, tb = decide (0 ≤ fk) := ⟨_, rfl⟩
  have HTB : Hid (rb = true → tb = true) := hide (fun h => by rw [htb, hfk]; exact decide_eq_true (HRH.out h).1)
  go_wp2_with fail
  refine (implFindAddress_any A2 m2 c2 u nm hh _ HM2.out HL2.out.1 HL2.out.2 HR2.out HZN.out).mono ?_
  rintro e w7 ⟨rfl, hb⟩
  rw [← hfk, ← hf1, ← hf2, ← htb]
  replace HC1 := hide (HC1.out.below hb)
  replace HC2 := hide (HC2.out.below hb)
  replace HD1 := hide (HD1.out.below hb)
  replace HD2 := hide (HD2.out.below hb)
  replace HW := hide (below_step HW.out hb)
  replace HR1 := hide (HR1.out.below hb)
  replace HR2 := hide (HR2.out.below hb)
  replace HBX := hide (HBX.out.below hb)
  clear hb
  go_wp2_with fail
  refine (specFindAddress_any A2 m2 c2 u nm hh _ HM2.out HL2.out.1 HL2.out.2 HR2.out HZN.out).mono ?_
  rintro e w8 ⟨rfl, hb⟩
  rw [← hfk, ← hf1, ← hf2, ← htb]
  replace HC1 := hide (HC1.out.below hb)
  replace HC2 := hide (HC2.out.below hb)
  replace HD1 := hide (HD1.out.below hb)
  replace HD2 := hide (HD2.out.below hb)
  replace HW := hide (below_step HW.out hb)
  replace HR1 := hide (HR1.out.below hb)
  replace HR2 := hide (HR2.out.below hb)
  replace HBX := hide (HBX.out.below hb)
  clear hb
  clear hfk hf1 hf2 htb
  as_aux_lemma =>
  go_wp2_with fail
  refine (DrawGapsOf_any B m k more _ H2.out.1 H2.out.2.1 H2.out.2.2.1 (H2.out.2.2.2.below HW.out)).mono ?_
  rintro e w9 ⟨⟨A3, c3, v, nv, rfl, hzn, ho⟩, hb⟩
  have HR3 := hide (own_rd ho.2)
  have HL3 : Hid (v.length ≤ 32 ∧ ∀ x ∈ v, x.1.size ≤ maxLen) := hide ⟨by have := ho.1.1; omega, fun x hx => by have := ho.1.2 x hx; have := HMX.out; omega⟩
  have HZV : Hid (nv.size ≤ maxLen) := hide (by have := HMX.out; omega)
  replace HC1 := hide (HC1.out.below hb)
  replace HC2 := hide (HC2.out.below hb)
  replace HD1 := hide (HD1.out.below hb)
  replace HD2 := hide (HD2.out.below hb)
  replace HW := hide (below_step HW.out hb)
  replace HR1 := hide (HR1.out.below hb)
  replace HR2 := hide (HR2.out.below hb)
  replace HBX := hide (HBX.out.below hb)
  clear hb hzn ho
  obtain ⟨m3, hm3⟩ : ∃ m3, m3 = v.length := ⟨_, rfl⟩
  rw [← hm3] at HL3
  rw [← hm3]
  have HM3 := hide hm3
  clear hm3
  obtain ⟨gb, hgb⟩ : ∃ gb, gb = gapsOk v nv := ⟨_, rfl⟩
  have HGB := hide hgb
  clear hgb
  obtain ⟨mg, hmg⟩ : ∃ mg, mg = (gapsL v nv).length := ⟨_, rfl⟩
  have HMG := hide hmg
  clear hmg
  go_wp2_with fail
  refine (implGapsOf_any A3 m3 c3 v nv _ HM3.out (by have := HL3.out.1; omega) HL3.out.2 HR3.out HZV.out).mono ?_
  rintro e w10 ⟨⟨g1, rfl, ho⟩, hb⟩
  rw [← HGB.out]
  obtain ⟨bs, hbs⟩ := ho
  obtain ⟨G1, y1, hv1, -⟩ := own_open hbs.2.2.1
  rw [← HMG.out] at hv1
  subst hv1
  have HN1 : Hid (Nest w10 w9.heap.size (.slice G1 mg y1) (gapsL v nv)) := hide ⟨bs, hbs⟩
  replace HC1 := hide (HC1.out.below hb)
  replace HC2 := hide (HC2.out.below hb)
  replace HD1 := hide (HD1.out.below hb)
  replace HD2 := hide (HD2.out.below hb)
  replace HW := hide (below_step HW.out hb)
  replace HR1 := hide (HR1.out.below hb)
  replace HR2 := hide (HR2.out.below hb)
  replace HR3 := hide (HR3.out.below hb)
  replace HBX := hide (HBX.out.below hb)
  
  clear hb bs hbs
  go_wp2_with fail
  refine (specGapsOf_any A3 m3 c3 v nv _ HM3.out (by have := HL3.out.1; omega) HL3.out.2 HR3.out HZV.out).mono ?_
  rintro e w11 ⟨⟨g2, rfl, ho⟩, hb⟩
  rw [← HGB.out]
  obtain ⟨bs, hbs⟩ := ho
  obtain ⟨G2, y2, hv1, -⟩ := own_open hbs.2.2.1
  rw [← HMG.out] at hv1
  subst hv1
  have HN2 : Hid (Nest w11 w10.heap.size (.slice G2 mg y2) (gapsL v nv)) := hide ⟨bs, hbs⟩
  replace HC1 := hide (HC1.out.below hb)
  replace HC2 := hide (HC2.out.below hb)
  replace HD1 := hide (HD1.out.below hb)
  replace HD2 := hide (HD2.out.below hb)
  replace HW := hide (below_step HW.out hb)
  replace HR1 := hide (HR1.out.below hb)
  replace HR2 := hide (HR2.out.below hb)
  replace HR3 := hide (HR3.out.below hb)
  replace HBX := hide (HBX.out.below hb)
  replace HN1 := hide (HN1.out.below hb)
  clear hb bs hbs
  as_aux_lemma =>
  obtain ⟨hv, hhv⟩ : ∃ hv, hv = housesV v nv := ⟨_, rfl⟩
  have HHV := hide hhv
  clear hhv
  go_wp2_with fail
  refine (implHousesOf_any A3 m3 c3 v nv _ HM3.out (by have := HL3.out.1; omega) HL3.out.2 HR3.out HZV.out).mono ?_
  rintro e w12 ⟨rfl, hb⟩
  rw [show (strsB v && roadB nv) = gb from HGB.out.symm, ← HHV.out]
  replace HC1 := hide (HC1.out.below hb)
  replace HC2 := hide (HC2.out.below hb)
  replace HD1 := hide (HD1.out.below hb)
  replace HD2 := hide (HD2.out.below hb)
  replace HN1 := hide (HN1.out.below hb)
  replace HN2 := hide (HN2.out.below hb)
  replace HW := hide (below_step HW.out hb)
  replace HR1 := hide (HR1.out.below hb)
  replace HR2 := hide (HR2.out.below hb)
  replace HR3 := hide (HR3.out.below hb)
  replace HBX := hide (HBX.out.below hb)
  clear hb
  go_wp2_with fail
  refine (specHousesOf_any A3 m3 c3 v nv _ HM3.out (by have := HL3.out.1; omega) HL3.out.2 HR3.out HZV.out).mono ?_
  rintro e w13 ⟨rfl, hb⟩
  rw [show (strsB v && roadB nv) = gb from HGB.out.symm, ← HHV.out]
  replace HC1 := hide (HC1.out.below hb)
  replace HC2 := hide (HC2.out.below hb)
  replace HD1 := hide (HD1.out.below hb)
  replace HD2 := hide (HD2.out.below hb)
  replace HN1 := hide (HN1.out.below hb)
  replace HN2 := hide (HN2.out.below hb)
  replace HW := hide (below_step HW.out hb)
  replace HR1 := hide (HR1.out.below hb)
  replace HR2 := hide (HR2.out.below hb)
  replace HR3 := hide (HR3.out.below hb)
  replace HBX := hide (HBX.out.below hb)
  clear hb
  as_aux_lemma =>
  go_wp2_with fail
  refine (DrawHighestRisk_any B m k more _ H2.out.1 H2.out.2.1 H2.out.2.2.1 (H2.out.2.2.2.below HW.out)).mono ?_
  rintro e w14 ⟨⟨A4, c4, z, nd, rfl, ho⟩, hb⟩
  have HR4 := hide (own_rd ho.2)
  have HL4 : Hid (z.length ≤ 32 ∧ ∀ x ∈ z, x.1.size ≤ maxLen) := hide ⟨by have := ho.1.1; omega, fun x hx => by have := ho.1.2 x hx; have := HMX.out; omega⟩
  replace HC1 := hide (HC1.out.below hb)
  replace HC2 := hide (HC2.out.below hb)
  replace HD1 := hide (HD1.out.below hb)
  replace HD2 := hide (HD2.out.below hb)
  replace HN1 := hide (HN1.out.below hb)
  replace HN2 := hide (HN2.out.below hb)
  replace HW := hide (below_step HW.out hb)
  replace HR1 := hide (HR1.out.below hb)
  replace HR2 := hide (HR2.out.below hb)
  replace HR3 := hide (HR3.out.below hb)
  replace HBX := hide (HBX.out.below hb)
  clear hb ho
  obtain ⟨m4, hm4⟩ : ∃ m4, m4 = z.length := ⟨_, rfl⟩
  rw [← hm4] at HL4
  rw [← hm4]
  have HM4 := hide hm4
  clear hm4
  obtain ⟨rk, hrk⟩ : ∃ rk, rk = riskV z nd := ⟨_, rfl⟩
  have HRK := hide hrk
  clear hrk
  obtain ⟨xb, hxb⟩ : ∃ xb, xb = (strsB z && inB nd 0 13) := ⟨_, rfl⟩
  have HXB := hide hxb
  clear hxb
  go_wp2_with fail
  refine (implHighestRisk_any A4 m4 c4 z nd _ HM4.out (by have := HL4.out.1; omega) HL4.out.2 HR4.out).mono ?_
  rintro e w15 ⟨rfl, hb⟩
  rw [← HXB.out, ← HRK.out]
  have HF0 : Hid (AdF w bx [.string s0, .int .i64 s1, .int .i64 s2, .int .i64 s3, .int .i64 s4] A1 C1 C2 A2 D1 D2 A3 A4 l La u Lr v z w9.heap.size w10.heap.size (.slice G1 mg y1) (.slice G2 mg y2) (gapsL v nv) w15) :=
    hide ⟨below_step HW.out hb, HBX.out.below hb, HR1.out.below hb, HC1.out.below hb, HC2.out.below hb, HR2.out.below hb, HD1.out.below hb, HD2.out.below hb, HR3.out.below hb, HN1.out.below hb, HN2.out.below hb, HR4.out.below hb⟩
  clear hb HW HBX HR1 HC1 HC2 HR2 HD1 HD2 HR3 HN1 HN2 HR4
  go_wp2_with fail
  refine (specHighestRisk_any A4 m4 c4 z nd _ HM4.out (by have := HL4.out.1; omega) HL4.out.2 HF0.out.2.2.2.2.2.2.2.2.2.2.2).mono ?_
  rintro e w16 ⟨rfl, hb⟩
  rw [← HXB.out, ← HRK.out]
  have HF : Hid (∀ W, Below w16.heap.size w16 W → AdF w bx [.string s0, .int .i64 s1, .int .i64 s2, .int .i64 s3, .int .i64 s4] A1 C1 C2 A2 D1 D2 A3 A4 l La u Lr v z w9.heap.size w10.heap.size (.slice G1 mg y1) (.slice G2 mg y2) (gapsL v nv) W) := hide (fun W h => by
    obtain ⟨a1, a2, a3, a4, a5, a6, a7, a8, a9, a10, a11, a12⟩ := HF0.out
    have h := below_step hb h
    exact ⟨below_step a1 h, a2.below h, a3.below h, a4.below h, a5.below h, a6.below h, a7.below h, a8.below h, a9.below h, a10.below h, a11.below h, a12.below h⟩)
  clear hb HF0
  obtain ⟨W8, hW8⟩ : ∃ W, W = w16 := ⟨_, rfl⟩
  have HBW : Hid (Below W8.heap.size W8 w16) := hide (by rw [hW8]; exact Below.refl _ _)
  rw [← hW8] at HF
  clear hW8
  generalize w9.heap.size = B1 at *
  generalize w10.heap.size = B2 at *
  as_aux_lemma =>
  go_upto_region 19 with fail
  go_cut [255] from 255 to 255 (fun s wx => s = .bool false ∧ Hid (Below W8.heap.size W8 wx))
  case first => as_aux_lemma =>
    have QA := hide (fun W (h : Below w16.heap.size w16 W) => qStretches_same C1 C2 ma d1 d2 La W HMA.out (by have := HLA.out.1; omega) (HF.out W (below_step HBW.out h)).ra (HF.out W (below_step HBW.out h)).rb)
    have QR := hide (fun W (h : Below w16.heap.size w16 W) => qStretches_same D1 D2 mr eD1 eD2 Lr W HMR.out (by have := HLR.out.1; omega) (HF.out W (below_step HBW.out h)).rr (HF.out W (below_step HBW.out h)).rs)
    have QG := hide (fun W (h : Below w16.heap.size w16 W) => qLists_same B1 B2 (.slice G1 mg y1) (.slice G2 mg y2) (gapsL v nv) W (HF.out W (below_step HBW.out h)).ng (HF.out W (below_step HBW.out h)).nh (by have := gaps_len v nv; omega))
    have QI := hide (fun W => implIsStretch_any s0 s1 s2 s3 s4 W HZ0.out)
    have QJ := hide (fun W => specIsStretch_any s0 s1 s2 s3 s4 W HZ0.out)
    generalize strB s0 s1 s2 s3 s4 = sb at QI QJ
    have r0 := (HF.out _ HBW.out).box.2.1 0 _ rfl
    have r1 := (HF.out _ HBW.out).box.2.1 1 _ rfl
    have r2 := (HF.out _ HBW.out).box.2.1 2 _ rfl
    have r3 := (HF.out _ HBW.out).box.2.1 3 _ rfl
    have r4 := (HF.out _ HBW.out).box.2.1 4 _ rfl
    have rz := (HF.out _ HBW.out).box.1
    simp only [List.append_eq, List.cons_append, List.nil_append]
    have htb : rb = true → tb = true := HTB.out
    cases rb with
    | false => as_aux_lemma =>
      clear htb
      refine wp_region_later (by kernel_rfl) (by kernel_rfl) ?_
      repeat (go_big_quiet_step ((first | (go_at_call 20; first | with_reducible exact calls_later (QA.out _ (Later.below _)) | with_reducible exact calls_later (QR.out _ (Later.below _))) | (go_at_call 21; exact calls_later (QG.out _ (Later.below _))) | (go_at_call 22; exact calls_later (QI.out _)) | (go_at_call 23; exact calls_later (QJ.out _)))))
      refine wpQuiet_nil ?_
      refine later_intro fun w1 hb1 => ?_
      replace HBW := hide (below_step HBW.out hb1)
      clear hb1 r0 r1 r2 r3 r4 rz
      go_wp2_with fail
      go_meet
      exact ⟨rfl, HBW⟩
    | true => as_aux_lemma =>
      obtain rfl : tb = true := htb rfl
      clear htb
      refine wp_region_later (by kernel_rfl) (by kernel_rfl) ?_
      repeat (go_big_quiet_step ((first | (go_at_call 20; first | with_reducible exact calls_later (QA.out _ (Later.below _)) | with_reducible exact calls_later (QR.out _ (Later.below _))) | (go_at_call 21; exact calls_later (QG.out _ (Later.below _))) | (go_at_call 22; exact calls_later (QI.out _)) | (go_at_call 23; exact calls_later (QJ.out _)))))
      refine wpQuiet_nil ?_
      refine later_intro fun w1 hb1 => ?_
      replace HBW := hide (below_step HBW.out hb1)
      clear hb1 r0 r1 r2 r3 r4 rz
      go_wp2_with fail
      go_meet
      exact ⟨rfl, HBW⟩
  clear HBW
  obtain ⟨rfl, HBW⟩ := hcut
  as_aux_lemma =>
  go_upto_if 256 with fail
  go_cut [] from 256 to 256 (fun wx => Hid (Below W8.heap.size W8 wx))
  case first => as_aux_lemma =>
    cases ob with
    | false =>
      go_wp2_with fail
      go_meet
      exact HBW
    | true =>
      obtain ⟨n1, n2, n3, n4, n5, n6, n7, n8, n9, n10⟩ := HAD.out rfl
      have hma30 : ma ≤ 30 := HLA.out.1
      have hsa : ∀ x ∈ La, x.1.size ≤ maxLen := fun x hx => by have := HLA.out.2 x hx; have := HMX.out; omega
      have Q1 := hide (fun W hb => implFindAddress_any C1 ma d1 La s0 s2 W HMA.out (by omega) hsa (HF.out W hb).ra HZ0.out)
      have Q2 := hide (fun W hb => specHousesOf_any A1 m1 c1 l s0 W HM1.out HL1.out.1 HL1.out.2 (HF.out W hb).rl HZ0.out)
      have Q3 := hide (fun W hb => implHousesOf_any C1 ma d1 La s0 W HMA.out (by omega) hsa (HF.out W hb).ra HZ0.out)
      have Q4 := hide (fun W hb => implAreStretches_any C1 ma d1 La W HMA.out (by omega) hsa (HF.out W hb).ra)
      rw [n7, decide_eq_true n6] at Q1
      rw [n4] at Q2
      rw [n5, n8] at Q3
      rw [n3] at Q4
      have hbd := housesV_bd (l := l) (s := s0)
      generalize housesV l s0 = ho at *
      obtain ⟨b1, b2, b3⟩ := n1
      obtain ⟨b4, b5⟩ := hbd
      have w1 : IntKind.i64.wrap (ho + s2) = ho + s2 := IntWalk.i64_in _ (by omega)
      have w2 : IntKind.i64.wrap (ho + s2 - s1) = ho + s2 - s1 := IntWalk.i64_in _ (by omega)
      have w3 : IntKind.i64.wrap (ho + s2 - s1 + 1) = ho + s2 - s1 + 1 := IntWalk.i64_in _ (by omega)
      clear n2 n3 n4 n5 n6 n7 n8 n9 n10 hsa b1 b2 b3 b4 b5
      have r0 := (HF.out _ HBW.out).box.2.1 0 _ rfl
      have r1 := (HF.out _ HBW.out).box.2.1 1 _ rfl
      have r2 := (HF.out _ HBW.out).box.2.1 2 _ rfl
      have r3 := (HF.out _ HBW.out).box.2.1 3 _ rfl
      have r4 := (HF.out _ HBW.out).box.2.1 4 _ rfl
      have rz := (HF.out _ HBW.out).box.1
      go_wp2_with fail
      refine (Q1.out _ HBW.out).mono ?_
      rintro e w17 ⟨rfl, hq⟩
      replace HBW := hide (below_step HBW.out hq)
      clear hq Q1 r0 r1 r2 r3 r4 rz
      have r0 := (HF.out _ HBW.out).box.2.1 0 _ rfl
      have rz := (HF.out _ HBW.out).box.1
      go_wp2_with fail
      refine (Q2.out _ HBW.out).mono ?_
      rintro e w18 ⟨rfl, hq⟩
      replace HBW := hide (below_step HBW.out hq)
      clear hq Q2 r0 rz
      have r0 := (HF.out _ HBW.out).box.2.1 0 _ rfl
      have rz := (HF.out _ HBW.out).box.1
      go_wp2_with fail
      refine (Q3.out _ HBW.out).mono ?_
      rintro e w19 ⟨rfl, hq⟩
      replace HBW := hide (below_step HBW.out hq)
      clear hq Q3 r0 rz
      have r0 := (HF.out _ HBW.out).box.2.1 0 _ rfl
      have r1 := (HF.out _ HBW.out).box.2.1 1 _ rfl
      have r2 := (HF.out _ HBW.out).box.2.1 2 _ rfl
      have r3 := (HF.out _ HBW.out).box.2.1 3 _ rfl
      have r4 := (HF.out _ HBW.out).box.2.1 4 _ rfl
      have rz := (HF.out _ HBW.out).box.1
      go_wp2_with fail
      refine (Q4.out _ HBW.out).mono ?_
      rintro e w20 ⟨rfl, hq⟩
      replace HBW := hide (below_step HBW.out hq)
      clear hq Q4 r0 r1 r2 r3 r4 rz
      go_wp2_with fail
      go_meet
      exact HBW
  clear HBW
  replace HBW := hide hcut.out
  clear hcut
  as_aux_lemma =>
  go_upto_if 320 with fail
  go_cut [] from 320 to 320 (fun wx => Hid (Below W8.heap.size W8 wx))
  case first => as_aux_lemma =>
    cases rb with
    | false =>
      go_wp2_with fail
      go_meet
      exact HBW
    | true =>
      obtain ⟨n1, n2, n3, n4, n5, n6, n7, n8⟩ := HRH.out rfl
      have hmr30 : mr ≤ 30 := HLR.out.1
      have hsr : ∀ x ∈ Lr, x.1.size ≤ maxLen := fun x hx => by have := HLR.out.2 x hx; have := HMX.out; omega
      have Q1 := hide (fun W hb => implFindAddress_any D1 mr eD1 Lr nm hh W HMR.out (by omega) hsr (HF.out W hb).rr HZN.out)
      have Q2 := hide (fun W hb => specHousesOf_any A2 m2 c2 u nm W HM2.out HL2.out.1 HL2.out.2 (HF.out W hb).ru HZN.out)
      have Q3 := hide (fun W hb => implHousesOf_any D1 mr eD1 Lr nm W HMR.out (by omega) hsr (HF.out W hb).rr HZN.out)
      have Q4 := hide (fun W hb => implAreStretches_any D1 mr eD1 Lr W HMR.out (by omega) hsr (HF.out W hb).rr)
      rw [n5, show addrV Lr (-1) = (0, 0) from rfl, show decide ((0 : Int) ≤ -1) = false from rfl] at Q1
      rw [n3] at Q2
      rw [n4, n6] at Q3
      rw [n2] at Q4
      have hbd := housesV_bd (l := u) (s := nm)
      generalize housesV u nm = ho at *
      obtain ⟨b4, b5⟩ := hbd
      have w1 : IntKind.i64.wrap (ho - 1) = ho - 1 := IntWalk.i64_in _ (by omega)
      clear n1 n2 n3 n4 n5 n6 n7 n8 hsr b4 b5
      go_wp2_with fail
      refine (Q1.out _ HBW.out).mono ?_
      rintro e w17 ⟨rfl, hq⟩
      replace HBW := hide (below_step HBW.out hq)
      clear hq Q1
      go_wp2_with fail
      refine (Q2.out _ HBW.out).mono ?_
      rintro e w18 ⟨rfl, hq⟩
      replace HBW := hide (below_step HBW.out hq)
      clear hq Q2
      go_wp2_with fail
      refine (Q3.out _ HBW.out).mono ?_
      rintro e w19 ⟨rfl, hq⟩
      replace HBW := hide (below_step HBW.out hq)
      clear hq Q3
      go_wp2_with fail
      refine (Q4.out _ HBW.out).mono ?_
      rintro e w20 ⟨rfl, hq⟩
      replace HBW := hide (below_step HBW.out hq)
      clear hq Q4
      go_wp2_with fail
      go_meet
      exact HBW
  clear HBW
  replace HBW := hide hcut.out
  clear hcut
  as_aux_lemma =>
  go_upto_region 33 with fail
  go_cut [365] from 365 to 365 (fun s wx => s = .bool (gb && decide (0 < hv)) ∧ Hid (Below W8.heap.size W8 wx))
  case first => as_aux_lemma =>
    cases gb with
    | false => as_aux_lemma =>
      go_wp2_with fail
      go_meet
      exact ⟨rfl, HBW⟩
    | true =>
      by_cases h0 : 0 < hv
      · as_aux_lemma =>
        go_wp2_with fail
        go_meet
        exact ⟨by simp [h0], HBW⟩
      · as_aux_lemma =>
        have h0' : decide (0 < hv) = false := by simp [h0]
        go_wp2_with fail
        go_meet
        exact ⟨by simp [h0], HBW⟩
  clear HBW
  obtain ⟨rfl, HBW⟩ := hcut
  as_aux_lemma =>
  obtain ⟨cb, hcb⟩ : ∃ cb, cb = (gb && decide (0 < hv)) := ⟨_, rfl⟩
  rw [← hcb]
  have HCB := hide hcb
  clear hcb
  go_upto_if 365 with fail
  go_cut [] from 365 to 365 (fun wx => Hid (Below W8.heap.size W8 wx))
  case first => as_aux_lemma =>
    cases cb with
    | false =>
      go_wp2_with fail
      go_meet
      exact HBW
    | true =>
      have hcb := HCB.out
      obtain rfl : gb = true := by
        cases gb with
        | true => rfl
        | false => cases hcb
      have h0 : 0 < hv := by simpa using hcb.symm
      clear hcb
      have HOK : Hid (gapsOk v nv = true) := hide HGB.out.symm
      have HSUM := hide (ad4 HOK.out (by rw [← HHV.out]; exact h0))
      rw [← HHV.out, ← HMG.out, ← HM3.out] at HSUM
      have hvb := housesV_bd (l := v) (s := nv)
      rw [← HHV.out] at hvb
      obtain ⟨hvb0, hvb1⟩ := hvb
      have hg5 := (ad5 HOK.out)
      rw [← HMG.out] at hg5
      have hmg30 : mg ≤ 30 := hg5.1
      have HS5 := hide hg5.2
      clear hg5
      have HSB : Hid (strsB v = true) := hide (by have h := HOK.out; rw [gapsOk, Bool.and_eq_true] at h; exact h.1)
      go_upto_region 36 with fail
      go_loopg [54, 55, 368] m3 (fun g tl th t wr => ∃ j : Nat, tl = .int .i64 (lowK v nv j) ∧ th = .int .i64 (highK v nv j) ∧ t = .int .i64 (j : Int) ∧ j ≤ m3 ∧ Hid (m3 ≤ g + j) ∧ Hid (Below W8.heap.size W8 wr))
      case atStart => exact ⟨0, rfl, rfl, rfl, by omega, hide (by omega), HBW⟩
      case round =>
        clear HBW
        obtain ⟨j, rfl, rfl, rfl, hj, HGK, HBW⟩ := hrel
        have hm32 : m3 ≤ 32 := HL3.out.1
        by_cases hlt : j < m3
        · obtain ⟨⟨x0, x1, x2, x3, x4⟩, hx⟩ : ∃ x, v[j]? = some x := ⟨_, List.getElem?_eq_getElem (by rw [← HM3.out]; exact hlt)⟩
          obtain ⟨b, off, hC, hbs, c0, c1', c2', c3', c4'⟩ := (HF.out _ HBW.out).rv.get5 (fun _ => rfl) hx rfl
          subst hC
          dsimp only at c0 c1' c2' c3' c4'
          have HX := hide hx
          have hj0 : (0 : Int) ≤ (j : Int) := by omega
          have hj1 : (j : Int) < (m3 : Int) := by omega
          obtain ⟨lo, hlo⟩ : ∃ lo, lo = lowK v nv j := ⟨_, rfl⟩
          obtain ⟨hi, hhi⟩ : ∃ hi, hi = highK v nv j := ⟨_, rfl⟩
          rw [← hlo, ← hhi]
          have HLO := hide hlo
          have HHI := hide hhi
          clear hx hlo hhi
          cases he : (x0.toList == nv.toList) with
          | false =>
            have HN := hide (low_no HX.out he)
            go_wp2_with fail
            go_roundg (gk - 1)
            case measure => have := HGK.out; omega
            case rel => exact ⟨j + 1, by rw [HN.out.1, HLO.out], by rw [HN.out.2, HHI.out], by go_num, by omega, hide (by have := HGK.out; omega), hide (below_alloc HBW.out _)⟩
          | true =>
            have HN := hide (low_yes HX.out he)
            rw [← HLO.out, ← HHI.out] at HN
            by_cases ha : x1 < lo
            · by_cases hb : hi < x2
              · have HN1 : Hid (lowK v nv (j + 1) = x1 ∧ highK v nv (j + 1) = x2) := hide ⟨by rw [HN.out.1, if_pos ha], by rw [HN.out.2, if_pos hb]⟩
                go_wp2_with fail
                go_roundg (gk - 1)
                case measure => have := HGK.out; omega
                case rel => exact ⟨j + 1, by rw [HN1.out.1], by rw [HN1.out.2], by go_num, by omega, hide (by have := HGK.out; omega), hide (below_alloc HBW.out _)⟩
              · have HN1 : Hid (lowK v nv (j + 1) = x1 ∧ highK v nv (j + 1) = hi) := hide ⟨by rw [HN.out.1, if_pos ha], by rw [HN.out.2, if_neg hb]⟩
                go_wp2_with fail
                go_roundg (gk - 1)
                case measure => have := HGK.out; omega
                case rel => exact ⟨j + 1, by rw [HN1.out.1], by rw [HN1.out.2], by go_num, by omega, hide (by have := HGK.out; omega), hide (below_alloc HBW.out _)⟩
            · by_cases hb : hi < x2
              · have HN1 : Hid (lowK v nv (j + 1) = lo ∧ highK v nv (j + 1) = x2) := hide ⟨by rw [HN.out.1, if_neg ha], by rw [HN.out.2, if_pos hb]⟩
                go_wp2_with fail
                go_roundg (gk - 1)
                case measure => have := HGK.out; omega
                case rel => exact ⟨j + 1, by rw [HN1.out.1], by rw [HN1.out.2], by go_num, by omega, hide (by have := HGK.out; omega), hide (below_alloc HBW.out _)⟩
              · have HN1 : Hid (lowK v nv (j + 1) = lo ∧ highK v nv (j + 1) = hi) := hide ⟨by rw [HN.out.1, if_neg ha], by rw [HN.out.2, if_neg hb]⟩
                go_wp2_with fail
                go_roundg (gk - 1)
                case measure => have := HGK.out; omega
                case rel => exact ⟨j + 1, by rw [HN1.out.1], by rw [HN1.out.2], by go_num, by omega, hide (by have := HGK.out; omega), hide (below_alloc HBW.out _)⟩
        · obtain rfl : j = m3 := by omega
          have hjf : ((j : Int) < (j : Int)) = False := by simp
          have hbd := low_bd HSB.out nv j
          obtain ⟨lo, hlo⟩ : ∃ lo, lo = lowK v nv j := ⟨_, rfl⟩
          obtain ⟨hi, hhi⟩ : ∃ hi, hi = highK v nv j := ⟨_, rfl⟩
          rw [← hlo, ← hhi] at hbd HSUM
          rw [← hlo, ← hhi]
          clear hlo hhi HGK
          obtain ⟨⟨q1, q2⟩, q3, q4⟩ := hbd
          go_upto_region 46 with fail
          go_loopg [58, 392] mg (fun g ts t wr => ∃ i : Nat, ts = .int .i64 (hv + sumK gapF (gapsL v nv) i) ∧ t = .int .i64 (i : Int) ∧ i ≤ mg ∧ Hid (mg ≤ g + i) ∧ Hid (Below W8.heap.size W8 wr))
          case atStart => exact ⟨0, by rw [sumK_zero, Int.add_zero], rfl, by omega, hide (by omega), HBW⟩
          case round =>
            clear HBW
            obtain ⟨i, rfl, rfl, hi9, HGK, HBW⟩ := hrel
            by_cases hlt2 : i < mg
            · obtain ⟨⟨x, y⟩, hp⟩ : ∃ p, (gapsL v nv)[i]? = some p := ⟨_, List.getElem?_eq_getElem (by rw [← HMG.out]; exact hlt2)⟩
              obtain ⟨p1, p2, p3, p4⟩ := ad3 HOK.out (List.mem_of_getElem? hp)
              dsimp only at p1 p2 p3 p4
              have hS := HS5.out i
              have HSU := hide (sumK_succ (f := gapF) hp)
              obtain ⟨S, hSe⟩ : ∃ S, S = sumK gapF (gapsL v nv) i := ⟨_, rfl⟩
              rw [← hSe] at hS HSU
              rw [← hSe]
              clear hSe
              obtain ⟨t1, t2⟩ := hS
              obtain ⟨bs, ⟨a1, -, a3, -, a5⟩, -, -⟩ := (HF.out _ HBW.out).nh.lt
              obtain ⟨bb, hbb⟩ : ∃ b, bs[i]? = some b := ⟨_, List.getElem?_eq_getElem (by rw [a1, ← HMG.out]; exact hlt2)⟩
              have HRX := hide (heap_rd (a5 i bb _ hbb hp))
              have hrd := own_rd (show _ from a3)
              obtain ⟨b, off, hC, hbs, c0⟩ := hrd.get1 (show (bs.map hdr)[i]? = some (hdr bb) by rw [List.getElem?_map, hbb]; rfl)
              subst hC
              unfold hdr at c0
              have QF := hide (fun W hb => implFindAddress_any A3 j c3 v nv x W HM3.out (by omega) HL3.out.2 (HF.out W hb).rv HZV.out)
              rw [p1, show addrV v (-1) = (0, 0) from rfl, show decide ((0 : Int) ≤ -1) = false from rfl] at QF
              have u1 : IntKind.i64.wrap (y - x) = y - x := IntWalk.i64_in _ (by omega)
              have u2 : IntKind.i64.wrap (y - x + 1) = y - x + 1 := IntWalk.i64_in _ (by omega)
              have u3 : IntKind.i64.wrap (hv + S + (y - x + 1)) = hv + S + (y - x + 1) := IntWalk.i64_in _ (by omega)
              have hi0 : (0 : Int) ≤ (i : Int) := by omega
              have hi1 : (i : Int) < (mg : Int) := by omega
              have hyx : ¬ (y < x) := by omega
              have hS9 : hv + S + (y - x + 1) = hv + sumK gapF (gapsL v nv) (i + 1) := by rw [HSU.out, gapF]; omega
              have HS9 := hide hS9
              clear hp p1 a1 a3 a5 hbb hrd hS9 p2 p3 p4 t1 t2
              obtain ⟨b2, off2, hC, hbs2, x0⟩ := HRX.out.get1 (k := 0) (u := .int .i64 x) rfl
              simp only [Option.some.injEq, Addr.mk.injEq, and_true] at hC
              obtain ⟨rfl, rfl⟩ := hC
              obtain ⟨b3, off3, hC, hbs3, x1⟩ := HRX.out.get1 (k := 1) (u := .int .i64 y) rfl
              simp only [Option.some.injEq, Addr.mk.injEq, and_true] at hC
              obtain ⟨rfl, rfl⟩ := hC
              go_wp2_with fail
              refine wp_region_later (by kernel_rfl) (by kernel_rfl) ?_
              repeat (go_big_quiet_step (fail))
              refine wpQuiet_nil ?_
              refine later_intro fun w17 hb1 => ?_
              replace HBW := hide (below_step HBW.out hb1)
              replace HRX := hide (HRX.out.below hb1)
              clear hb1 x0 x1 hbs2 hbs3 hbs c0
              obtain ⟨b2, off2, hC, hbs2, x0⟩ := HRX.out.get1 (k := 0) (u := .int .i64 x) rfl
              simp only [Option.some.injEq, Addr.mk.injEq, and_true] at hC
              obtain ⟨rfl, rfl⟩ := hC
              go_wp2_with fail
              refine (QF.out _ HBW.out).mono ?_
              rintro e w18 ⟨rfl, hq⟩
              replace HBW := hide (below_step HBW.out hq)
              replace HRX := hide (HRX.out.below hq)
              clear hq QF x0 hbs2
              obtain ⟨b2, off2, hC, hbs2, x0⟩ := HRX.out.get1 (k := 0) (u := .int .i64 x) rfl
              simp only [Option.some.injEq, Addr.mk.injEq, and_true] at hC
              obtain ⟨rfl, rfl⟩ := hC
              obtain ⟨b3, off3, hC, hbs3, x1⟩ := HRX.out.get1 (k := 1) (u := .int .i64 y) rfl
              simp only [Option.some.injEq, Addr.mk.injEq, and_true] at hC
              obtain ⟨rfl, rfl⟩ := hC
              go_wp2_with fail
              refine wp_region_later (by kernel_rfl) (by kernel_rfl) ?_
              repeat (go_big_quiet_step (fail))
              refine wpQuiet_nil ?_
              refine later_intro fun w19 hb1 => ?_
              replace HBW := hide (below_step HBW.out hb1)
              clear hb1 x0 x1 hbs2 hbs3 HRX
              go_wp2_with fail
              go_roundg (gk - 1)
              case measure => have := HGK.out; omega
              case rel => exact ⟨i + 1, by rw [HS9.out], by go_num, by omega, hide (by have := HGK.out; omega), HBW⟩
            · obtain rfl : i = mg := by omega
              have hif : ((i : Int) < (i : Int)) = False := by simp
              have u1 : IntKind.i64.wrap (hi - lo) = hi - lo := IntWalk.i64_in _ (by omega)
              have u2 : IntKind.i64.wrap (hi - lo + 1) = hi - lo + 1 := IntWalk.i64_in _ (by omega)
              rw [HSUM.out]
              go_wp2_with fail
              go_meet
              exact HBW
  clear HBW
  replace HBW := hide hcut.out
  clear hcut
  as_aux_lemma =>
  go_upto_if 433 with fail
  go_cut [] from 433 to 433 (fun wx => Hid (Below W8.heap.size W8 wx))
  case first => as_aux_lemma =>
    cases xb with
    | false =>
      go_wp2_with fail
      go_meet
      exact HBW
    | true =>
      have hm32 : m4 ≤ 32 := HL4.out.1
      go_upto_region 57 with fail
      go_loopg [436] m4 (fun g t wr => ∃ j : Nat, t = .int .i64 (j : Int) ∧ j ≤ m4 ∧ Hid (m4 ≤ g + j) ∧ Hid (Below W8.heap.size W8 wr))
      case atStart => exact ⟨0, rfl, by omega, hide (by omega), HBW⟩
      case round =>
        clear HBW
        obtain ⟨j, rfl, hj, HGK, HBW⟩ := hrel
        by_cases hlt : j < m4
        · obtain ⟨⟨x0, x1, x2, x3, x4⟩, hx⟩ : ∃ x, z[j]? = some x := ⟨_, List.getElem?_eq_getElem (by rw [← HM4.out]; exact hlt)⟩
          obtain ⟨b, off, hC, hbs, c0, c1', c2', c3', c4'⟩ := (HF.out _ HBW.out).rz.get5 (fun _ => rfl) hx rfl
          subst hC
          dsimp only at c0 c1' c2' c3' c4'
          have hle : x3 = nd → x4 ≤ rk := fun h => by
            have := ad6 HXB.out.symm hx h
            rw [← HRK.out] at this
            exact this
          have hj0 : (0 : Int) ≤ (j : Int) := by omega
          have hj1 : (j : Int) < (m4 : Int) := by omega
          clear hx
          by_cases hn : x3 = nd
          · have hle2 := hle hn
            have hle3 : ¬ (rk < x4) := by omega
            have hn2 : (x3 == nd) = true := by simpa using hn
            clear hle hn
            go_wp2_with fail
            go_roundg (gk - 1)
            case measure => have := HGK.out; omega
            case rel => exact ⟨j + 1, by go_num, by omega, hide (by have := HGK.out; omega), hide (below_alloc HBW.out _)⟩
          · have hn2 : (x3 == nd) = false := by simpa using hn
            clear hle
            go_wp2_with fail
            go_roundg (gk - 1)
            case measure => have := HGK.out; omega
            case rel => exact ⟨j + 1, by go_num, by omega, hide (by have := HGK.out; omega), hide (below_alloc HBW.out _)⟩
        · have hjf : ((j : Int) < (m4 : Int)) = False := by simp; omega
          go_wp2_with fail
          go_meet
          exact HBW
  clear HBW
  replace HBW := hide hcut.out
  clear hcut
  as_aux_lemma =>
  go_wp2_with fail
  go_ret
  exact ⟨rfl, (HF.out _ HBW.out).bel⟩
end Go.Proofs.Ytpkhdmhfkmajcaa

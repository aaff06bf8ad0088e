/- The law FnStreets: what the law's call returns. -/
import Derived.Test.YtbhnaakknfienaaGreatDoorFnStM
import Derived.Test.YtbhnaakknfienaaGreatDoorPrF
import Derived.Test.YtbhnaakknfienaaGreatDoorPrD
import Derived.Test.YtbhnaakknfienaaGreatDoorPrB
import Derived.Deep.DeepCutAuto
import Derived.Deep.CutBlock
import Derived.Deep.LoopGhost
namespace Go.Proofs.YtbhnaakknfienaaGreatDoor
open Go.RowKit
set_option linter.unusedVariables false

theorem st_byte {l : List Int} (h : ∀ x ∈ l, (Lit.int .u8 x).wf = true) : ∀ x ∈ l, 0 ≤ x ∧ x ≤ 255 := fun x hx => by
  have := h x hx
  simp [Lit.wf] at this
  have e1 : IntKind.u8.min = 0 := rfl
  have e2 : IntKind.u8.max = 255 := rfl
  omega
/-- A town in a box. -/
def Tn (W : World) (b : Nat) (nd : Int) (A : Option Addr) (n c : Nat) (l : List StT) : Prop := Row W b [.int .i64 nd, .slice A n c] ∧ Rd W A (l.flatMap tcells)
theorem Tn.below {W W' : World} {b : Nat} {nd : Int} {A : Option Addr} {n c : Nat} {l : List StT} (h : Tn W b nd A n c l) (hb : Below W.heap.size W W') : Tn W' b nd A n c l := ⟨h.1.below hb, h.2.below hb⟩
theorem Tn.alloc {W : World} {b : Nat} {nd : Int} {A : Option Addr} {n c : Nat} {l : List StT} (h : Tn W b nd A n c l) (o : Obj) : Tn (W.alloc o) b nd A n c l := ⟨h.1.alloc o, h.2.alloc o⟩
theorem Tn.new {W : World} {nd : Int} {A : Option Addr} {n c : Nat} {l : List StT} (h : Rd W A (l.flatMap tcells)) : Tn (W.alloc (.cells #[.int .i64 nd, .slice A n c] 26)) W.heap.size nd A n c l := ⟨Row.new _ _ _, h.alloc _⟩
/-- Streets handed back. -/
theorem twn_out {w : World} {B n : Nat} {v : Value} {L : List StT} (hn : n = L.length) (h : w.ownsRow B 39 3 v L.length (L.flatMap tcells)) :
    ∃ (A : Option Addr) (c : Nat), v = .slice A n c ∧ n ≤ c ∧ c ≤ maxLen ∧ Rd w A (L.flatMap tcells) ∧ ((A = none ∧ n = 0 ∧ c = 0) ∨ ∃ b off, A = some ⟨b, off, none⟩) := by
  subst hn
  obtain ⟨A, c, rfl, -⟩ := own_open h
  obtain ⟨p1, p2, p3, p4⟩ := own_pre h
  exact ⟨A, c, rfl, p1, p2, p3, p4⟩
/-- A closed street: all that the law asks. -/
theorem cl_all {nd : Int} {l : List StT} {i j cn dv : Int} {cl cs : List StT} {ok one : Bool} (hcn : cn = closeN nd l i j) (hcl : cl = closeL nd l i j) (hok : ok = closeOk nd l i j) (hdv : dv = detV nd l i j) (hone : one = detOk nd l i j) (hcs : cs = cutsL nd l) (h : ok = true) :
    cn = nd ∧ travOk nd l i j = true ∧ travOk nd cl i j = one ∧ (0 ≤ travV nd l i j ∧ travV nd l i j ≤ 5000000) ∧ (0 ≤ travV nd cl i j ∧ travV nd cl i j ≤ 5000000) ∧ (one = true → dv = travV nd cl i j - travV nd l i j ∧ 0 ≤ dv) ∧ cs.any (sameT i j) = !one ∧
      ∀ s ∈ l, sameT i j s = true → adsOk nd cl (j, i, s.2.2) = true ∧ adsL nd cl (j, i, s.2.2) = l ∧ adsN nd cl (j, i, s.2.2) = nd := by
  have Y := cl_yes (hok.symm.trans h)
  subst hcn hcl hdv hone hcs
  exact ⟨Y.n, Y.now, Y.tok, ⟨Y.nowLo, Y.nowHi⟩, ⟨Y.thenLo, Y.thenHi⟩, Y.det, Y.cut, Y.back⟩
theorem det_close {nd : Int} {l : List StT} {i j : Int} (h : detOk nd l i j = true) : closeOk nd l i j = true := by
  rw [detOk, Bool.and_eq_true] at h
  exact h.1
/-- What is kept in memory. -/
def ClM (w : World) (tb b2 b3 : Nat) (nd cn : Int) (A1 A2 A3 A4 A5 : Option Addr) (n c1 m c2 c3 : Nat) (l cl cs : List StT) (W : World) : Prop :=
  Below w.heap.size w W ∧ Tn W tb nd A1 n c1 l ∧ Tn W b2 cn A2 m c2 cl ∧ Tn W b3 cn A3 m c3 cl ∧ Rd W A4 (cs.flatMap tcells) ∧ Rd W A5 (cs.flatMap tcells)
theorem ClM.below {w : World} {tb b2 b3 : Nat} {nd cn : Int} {A1 A2 A3 A4 A5 : Option Addr} {n c1 m c2 c3 : Nat} {l cl cs : List StT} {W W' : World} (h : ClM w tb b2 b3 nd cn A1 A2 A3 A4 A5 n c1 m c2 c3 l cl cs W) (hb : Below W.heap.size W W') : ClM w tb b2 b3 nd cn A1 A2 A3 A4 A5 n c1 m c2 c3 l cl cs W' :=
  ⟨below_step h.1 hb, h.2.1.below hb, h.2.2.1.below hb, h.2.2.2.1.below hb, h.2.2.2.2.1.below hb, h.2.2.2.2.2.below hb⟩
theorem any_take_add {α : Type} (p : α → Bool) {l : List α} {k : Nat} {a : α} (h : l[k]? = some a) : (l.take (k + 1)).any p = ((l.take k).any p || p a) := by
  rw [List.take_add_one, h, List.any_append]
  simp
theorem same_val {a b : Bool} (h : a = b) : Value.bool a = Value.bool b := by rw [h]
/-- A street added: all that the law asks. -/
theorem ad_all {nd : Int} {l : List StT} {s : StT} {an : Int} {al : List StT} {ok : Bool} (han : an = adsN nd l s) (hal : al = adsL nd l s) (hok : ok = adsOk nd l s) (h : ok = true) : an = nd ∧ closeOk nd al s.1 s.2.1 = true ∧ closeN nd al s.1 s.2.1 = nd ∧ closeL nd al s.1 s.2.1 = l := by
  subst han hal
  exact ad_yes (hok.symm.trans h)
theorem adsL_le (nd : Int) (l : List StT) (s : StT) : (adsL nd l s).length ≤ 1048576 := by
  cases h : adsOk nd l s with
  | true => have := townB_len (ads_town h).2; omega
  | false => rw [adsL, h]; simp
theorem outT_le (s : ByteArray) : (outL (ptS s)).length ≤ 1048576 := by
  rw [← pt_same]
  cases h : ptI s with
  | none => simp [outL]
  | some x =>
    have := townB_len (ptI_some (nd := x.1) (l := x.2) h).1
    show x.2.length ≤ _
    omega
theorem txV_size (nd : Int) (l : List StT) : (txV nd l).size ≤ 1048576 := by
  unfold txV
  split
  · rename_i h
    obtain ⟨k, rfl, hk⟩ := townB_ok h
    have := ttN_small hk l.length
    have := hk.len
    simp only [Int.toNat_natCast]
    omega
  · decide

set_option maxRecDepth 100000 in
set_option maxHeartbeats 32000000 in
theorem FnStreets_walk (A : Option Addr) (n c : Nat) (code : List Int) (B : Option Addr) (m k : Nat) (more : List Int) (w : World) (hn : n = code.length) (hnc : n ≤ c) (hc : c ≤ maxLen) (hr : Rd w A (code.map (Value.int .u8))) (hs : ∀ x ∈ code, (Lit.int .u8 x).wf = true)
    (hn2 : m = more.length) (hnc2 : m ≤ k) (hc2 : k ≤ maxLen) (hr2 : Rd w B (more.map (Value.int .u8))) (hs2 : ∀ x ∈ more, (Lit.int .u8 x).wf = true) (he : WrdEnv w) :
    Calls Tryz.prog 3 #[.slice A n c, .slice B m k] w fun e w' => e = .returned (.bool true) ∧ Below w.heap.size w w' := by
  have H1 := hide (And.intro hn (And.intro (Nat.le_trans hnc hc) (And.intro (st_byte hs) hr)))
  have H2 := hide (And.intro hn2 (And.intro (Nat.le_trans hnc2 hc2) (And.intro (st_byte hs2) hr2)))
  have HE := hide (fun W (h : Below w.heap.size w W) => he.below h)
  have HB1 : Hid (n ≤ 9223372036854775807 ∧ m ≤ 9223372036854775807) := hide (by unfold maxLen at hc hc2; omega)
  have HMX : Hid ((1048576 : Nat) ≤ maxLen) := hide (by unfold maxLen; omega)
  clear hn hr hs hn2 hr2 hs2 hnc hc hnc2 hc2 he
  go_enter Tryz.func3, Tryz.ntmps3
  go_wp2_with fail
  refine (big_any A B n c m k _ HB1.out.1 HB1.out.2).mono ?_
  rintro e w0 ⟨⟨b, rfl⟩, rfl⟩
  cases b with
  | true =>
    go_wp2
    go_ret
    exact ⟨rfl, Below.refl _ _⟩
  | false =>
  as_aux_lemma =>
  go_wp2_with fail
  refine (DrawCloseStreet_any A n c code _ H1.out.1 H1.out.2.1 H1.out.2.2.1 H1.out.2.2.2).mono ?_
  rintro e w1 ⟨⟨nd, A1, c1, l, i, j, rfl, hl, ho⟩, hb⟩
  obtain ⟨q, hq⟩ : ∃ q, q = l.length := ⟨_, rfl⟩
  obtain ⟨p1, p2, p3, p4⟩ := own_pre ho
  rw [← hq] at p1 p4 hl ⊢
  have HP := hide (And.intro p1 (And.intro p2 p4))
  have HQ := hide hq
  have HL := hide hl
  have HB : Hid (Below w.heap.size w (w1.alloc (.cells #[.int .i64 nd, .slice A1 q c1] 26))) := hide (below_alloc hb _)
  have HT1 : Hid (Tn (w1.alloc (.cells #[.int .i64 nd, .slice A1 q c1] 26)) w1.heap.size nd A1 q c1 l) := hide (Tn.new p3)
  clear hl hq p1 p2 p3 p4 ho hb H1
  go_upto_region 4 with fail
  generalize w1.alloc (.cells #[.int .i64 nd, .slice A1 q c1] 26) = W1 at *
  generalize w1.heap.size = tb at *
  as_aux_lemma =>
  obtain ⟨cn, hcn⟩ : ∃ x, x = closeN nd l i j := ⟨_, rfl⟩
  obtain ⟨cl, hcl⟩ : ∃ x, x = closeL nd l i j := ⟨_, rfl⟩
  obtain ⟨ok, hok⟩ : ∃ x, x = closeOk nd l i j := ⟨_, rfl⟩
  obtain ⟨dv, hdv⟩ : ∃ x, x = detV nd l i j := ⟨_, rfl⟩
  obtain ⟨one, hone⟩ : ∃ x, x = detOk nd l i j := ⟨_, rfl⟩
  obtain ⟨cs, hcs⟩ : ∃ x, x = cutsL nd l := ⟨_, rfl⟩
  obtain ⟨tw, htw⟩ : ∃ x, x = townB nd l := ⟨_, rfl⟩
  obtain ⟨r, hr⟩ : ∃ x, x = cl.length := ⟨_, rfl⟩
  obtain ⟨z, hz⟩ : ∃ x, x = cs.length := ⟨_, rfl⟩
  have HCN := hide hcn
  have HCL := hide hcl
  have HOK := hide hok
  have HDV := hide hdv
  have HONE := hide hone
  have HCS := hide hcs
  have HTW := hide htw
  have HR := hide hr
  have HZ := hide hz
  have HBD : Hid (q ≤ 1048576 ∧ r ≤ 1048576 ∧ z ≤ 1048576) := hide (by
    have h1 := HL.out
    have h2 := closeL_length nd l i j
    have h3 := cutsL_length nd l
    rw [← hcl, ← hr] at h2
    rw [← hcs, ← hz] at h3
    omega)
  clear hcn hcl hok hdv hone hcs htw hr hz
  have b0 := HT1.out.1.2.1 0 _ rfl
  have b1 := HT1.out.1.2.1 1 _ rfl
  have bz := HT1.out.1.1
  go_wp2_with fail
  refine (implCloseStreet_any nd i j A1 q c1 l _ HQ.out HP.out.1 HP.out.2.1 HT1.out.2).mono ?_
  rintro e w2 ⟨⟨v, rfl, ho⟩, hb⟩
  rw [← HCL.out] at ho
  rw [← HCN.out, ← HOK.out]
  obtain ⟨A2, c2, rfl, q1, q2, q3, q4⟩ := twn_out HR.out ho
  have HQ_A2 := hide (And.intro q1 (And.intro q2 q4))
  replace HB := hide (below_alloc (below_step HB.out hb) (.cells #[.int .i64 cn, .slice A2 r c2] 26))
  replace HT1 := hide ((HT1.out.below hb).alloc (.cells #[.int .i64 cn, .slice A2 r c2] 26))
  have HT_A2 : Hid (Tn (w2.alloc (.cells #[.int .i64 cn, .slice A2 r c2] 26)) w2.heap.size cn A2 r c2 cl) := hide (Tn.new q3)
  clear b0 b1 bz q1 q2 q3 q4 ho hb
  go_upto_region 5 with fail
  generalize w2.alloc (.cells #[.int .i64 cn, .slice A2 r c2] 26) = W2 at *
  generalize w2.heap.size = b2 at *
  have b0 := HT1.out.1.2.1 0 _ rfl
  have b1 := HT1.out.1.2.1 1 _ rfl
  have bz := HT1.out.1.1
  go_wp2_with fail
  refine (specCloseStreet_any nd i j A1 q c1 l _ HQ.out HP.out.1 HP.out.2.1 HT1.out.2).mono ?_
  rintro e w3 ⟨⟨v, rfl, ho⟩, hb⟩
  rw [← HCL.out] at ho
  rw [← HCN.out, ← HOK.out]
  obtain ⟨A3, c3, rfl, q1, q2, q3, q4⟩ := twn_out HR.out ho
  have HQ_A3 := hide (And.intro q1 (And.intro q2 q4))
  replace HB := hide (below_alloc (below_step HB.out hb) (.cells #[.int .i64 cn, .slice A3 r c3] 26))
  replace HT1 := hide ((HT1.out.below hb).alloc (.cells #[.int .i64 cn, .slice A3 r c3] 26))
  replace HT_A2 := hide ((HT_A2.out.below hb).alloc (.cells #[.int .i64 cn, .slice A3 r c3] 26))
  have HT_A3 : Hid (Tn (w3.alloc (.cells #[.int .i64 cn, .slice A3 r c3] 26)) w3.heap.size cn A3 r c3 cl) := hide (Tn.new q3)
  clear b0 b1 bz q1 q2 q3 q4 ho hb
  go_upto_region 6 with fail
  generalize w3.alloc (.cells #[.int .i64 cn, .slice A3 r c3] 26) = W3 at *
  generalize w3.heap.size = b3 at *
  have b0 := HT1.out.1.2.1 0 _ rfl
  have b1 := HT1.out.1.2.1 1 _ rfl
  have bz := HT1.out.1.1
  go_wp2_with fail
  refine (implDetourOf_any nd i j A1 q c1 l _ HQ.out HP.out.1 HP.out.2.1 HT1.out.2).mono ?_
  rintro e w4 ⟨rfl, hb⟩
  rw [← HDV.out, ← HONE.out]
  replace HB := hide (below_step HB.out hb)
  replace HT1 := hide (HT1.out.below hb)
  replace HT_A2 := hide (HT_A2.out.below hb)
  replace HT_A3 := hide (HT_A3.out.below hb)
  clear hb b0 b1 bz
  have b0 := HT1.out.1.2.1 0 _ rfl
  have b1 := HT1.out.1.2.1 1 _ rfl
  have bz := HT1.out.1.1
  go_wp2_with fail
  refine (specDetourOf_any nd i j A1 q c1 l _ HQ.out HP.out.1 HP.out.2.1 HT1.out.2).mono ?_
  rintro e w5 ⟨rfl, hb⟩
  rw [← HDV.out, ← HONE.out]
  replace HB := hide (below_step HB.out hb)
  replace HT1 := hide (HT1.out.below hb)
  replace HT_A2 := hide (HT_A2.out.below hb)
  replace HT_A3 := hide (HT_A3.out.below hb)
  clear hb b0 b1 bz
  have b0 := HT1.out.1.2.1 0 _ rfl
  have b1 := HT1.out.1.2.1 1 _ rfl
  have bz := HT1.out.1.1
  go_wp2_with fail
  refine (implCutStreets_any nd A1 q c1 l _ HQ.out HP.out.1 HP.out.2.1 HT1.out.2).mono ?_
  rintro e w6 ⟨⟨v, rfl, ho⟩, hb⟩
  rw [← HCS.out] at ho
  rw [← HTW.out]
  obtain ⟨A4, c4, rfl, -, -, q3, -⟩ := twn_out HZ.out ho
  replace HB := hide (below_step HB.out hb)
  replace HT1 := hide (HT1.out.below hb)
  replace HT_A2 := hide (HT_A2.out.below hb)
  replace HT_A3 := hide (HT_A3.out.below hb)
  have HR_A4 := hide q3
  clear hb ho q3 b0 b1 bz
  have b0 := HT1.out.1.2.1 0 _ rfl
  have b1 := HT1.out.1.2.1 1 _ rfl
  have bz := HT1.out.1.1
  go_wp2_with fail
  refine (specCutStreets_any nd A1 q c1 l _ HQ.out HP.out.1 HP.out.2.1 HT1.out.2).mono ?_
  rintro e w7 ⟨⟨v, rfl, ho⟩, hb⟩
  rw [← HCS.out] at ho
  rw [← HTW.out]
  obtain ⟨A5, c5, rfl, -, -, q3, -⟩ := twn_out HZ.out ho
  replace HB := hide (below_step HB.out hb)
  replace HT1 := hide (HT1.out.below hb)
  replace HT_A2 := hide (HT_A2.out.below hb)
  replace HT_A3 := hide (HT_A3.out.below hb)
  replace HR_A4 := hide (HR_A4.out.below hb)
  have HR_A5 := hide q3
  clear hb ho q3 b0 b1 bz
  obtain ⟨W8, hW8⟩ : ∃ W, W = w7 := ⟨_, rfl⟩
  have HBW : Hid (Below W8.heap.size W8 w7) := hide (by rw [hW8]; exact Below.refl _ _)
  have HFF : Hid (∀ W, Below W8.heap.size W8 W → ClM w tb b2 b3 nd cn A1 A2 A3 A4 A5 q c1 r c2 c3 l cl cs W) := hide (fun W h => by
    rw [hW8] at h
    exact ClM.below ⟨HB.out, HT1.out, HT_A2.out, HT_A3.out, HR_A4.out, HR_A5.out⟩ h)
  clear HB HT1 HT_A2 HT_A3 HR_A4 HR_A5 hW8
  as_aux_lemma =>
  go_upto_region 10 with fail
  go_cut [161] from 161 to 161 (fun s wx => s = .bool false ∧ Hid (Below W8.heap.size W8 wx))
  case first => as_aux_lemma =>
    have QT := hide (fun W hb => pSameTown_same cn A2 A3 r c2 c3 cl W HR.out HBD.out.2.1 (HFF.out W hb).2.2.1.2 (HFF.out W hb).2.2.2.1.2)
    have QC := hide (fun W hb => pSameStreets_same A4 A5 z c4 c5 cs W HZ.out HBD.out.2.2 (HFF.out W hb).2.2.2.2.1 (HFF.out W hb).2.2.2.2.2)
    have QI := hide (fun W hb => implIsTown_any nd A1 q c1 l W HQ.out (Nat.le_trans HP.out.1 HP.out.2.1) (HFF.out W hb).2.1.2)
    rw [← HTW.out] at QI
    have HOO : Hid (one = true → ok = true) := hide (fun h => by rw [HOK.out]; exact det_close (HONE.out.symm.trans h))
    have d0 := (HFF.out _ HBW.out).2.2.1.1.2.1 0 _ rfl
    have d1 := (HFF.out _ HBW.out).2.2.1.1.2.1 1 _ rfl
    have dz := (HFF.out _ HBW.out).2.2.1.1.1
    have e0 := (HFF.out _ HBW.out).2.2.2.1.1.2.1 0 _ rfl
    have e1 := (HFF.out _ HBW.out).2.2.2.1.1.2.1 1 _ rfl
    have ez := (HFF.out _ HBW.out).2.2.2.1.1.1
    go_wp2_with fail
    refine (QT.out _ HBW.out).mono ?_
    rintro e w10 ⟨rfl, hb⟩
    replace HBW := hide (below_step HBW.out hb)
    clear hb d0 d1 dz e0 e1 ez QT
    go_wp2_with fail
    refine (QC.out _ HBW.out).mono ?_
    rintro e w11 ⟨rfl, hb⟩
    replace HBW := hide (below_step HBW.out hb)
    clear hb QC
    cases one with
    | true =>
      obtain rfl : ok = true := HOO.out rfl
      have b0 := (HFF.out _ HBW.out).2.1.1.2.1 0 _ rfl
      have b1 := (HFF.out _ HBW.out).2.1.1.2.1 1 _ rfl
      have bz := (HFF.out _ HBW.out).2.1.1.1
      go_wp2_with fail
      refine (QI.out _ HBW.out).mono ?_
      rintro e w12 ⟨rfl, hb⟩
      replace HBW := hide (below_step HBW.out hb)
      clear hb b0 b1 bz QI
      go_wp2_with fail
      go_meet
      exact ⟨rfl, HBW⟩
    | false =>
      have b0 := (HFF.out _ HBW.out).2.1.1.2.1 0 _ rfl
      have b1 := (HFF.out _ HBW.out).2.1.1.2.1 1 _ rfl
      have bz := (HFF.out _ HBW.out).2.1.1.1
      go_wp2_with fail
      refine (QI.out _ HBW.out).mono ?_
      rintro e w12 ⟨rfl, hb⟩
      replace HBW := hide (below_step HBW.out hb)
      clear hb b0 b1 bz QI
      go_wp2_with fail
      go_meet
      exact ⟨rfl, HBW⟩
  clear HBW
  obtain ⟨rfl, HBW⟩ := hcut
  as_aux_lemma =>
  go_upto_if 162 with fail
  go_cut [] from 162 to 162 (fun wx => Hid (Below W8.heap.size W8 wx))
  case first => as_aux_lemma =>
    cases ok with
    | false =>
      go_wp2_with fail
      go_meet
      exact HBW
    | true =>
      obtain ⟨y1, y2, y3, y4, y5, y6, y7, y8⟩ := cl_all HCN.out HCL.out HOK.out HDV.out HONE.out HCS.out rfl
      obtain ⟨now, hnow⟩ : ∃ x, x = travV nd l i j := ⟨_, rfl⟩
      obtain ⟨thn, hthn⟩ : ∃ x, x = travV nd cl i j := ⟨_, rfl⟩
      rw [← hnow] at y4 y6
      rw [← hthn] at y5 y6
      rw [y1] at HFF HCN
      have HNOW := hide (And.intro hnow y2)
      have HTHN := hide (And.intro hthn y3)
      have HNB := hide (And.intro y4 y5)
      have HDET := hide y6
      have HCUT := hide y7
      have HBACK := hide y8
      clear hnow hthn y1 y2 y3 y4 y5 y6 y7 y8 HCN HCL HOK HDV HONE HCS HTW
      have b0 := (HFF.out _ HBW.out).2.1.1.2.1 0 _ rfl
      have b1 := (HFF.out _ HBW.out).2.1.1.2.1 1 _ rfl
      have bz := (HFF.out _ HBW.out).2.1.1.1
      go_wp2_with fail
      refine (specTravelTime_any nd i j A1 q c1 l _ HQ.out (Nat.le_trans HBD.out.1 HMX.out) (HFF.out _ HBW.out).2.1.2).mono ?_
      rintro e w13 ⟨rfl, hb⟩
      rw [← HNOW.out.1, HNOW.out.2]
      replace HBW := hide (below_step HBW.out hb)
      clear hb b0 b1 bz
      have b0 := (HFF.out _ HBW.out).2.2.1.1.2.1 0 _ rfl
      have b1 := (HFF.out _ HBW.out).2.2.1.1.2.1 1 _ rfl
      have bz := (HFF.out _ HBW.out).2.2.1.1.1
      go_wp2_with fail
      refine (implTravelTime_any nd i j A2 r c2 cl _ HR.out (Nat.le_trans HBD.out.2.1 HMX.out) (HFF.out _ HBW.out).2.2.1.2).mono ?_
      rintro e w14 ⟨rfl, hb⟩
      rw [← HTHN.out.1, HTHN.out.2]
      replace HBW := hide (below_step HBW.out hb)
      clear hb b0 b1 bz
      have b0 := (HFF.out _ HBW.out).2.2.2.1.1.2.1 0 _ rfl
      have b1 := (HFF.out _ HBW.out).2.2.2.1.1.2.1 1 _ rfl
      have bz := (HFF.out _ HBW.out).2.2.2.1.1.1
      go_wp2_with fail
      refine (specTravelTime_any nd i j A3 r c3 cl _ HR.out (Nat.le_trans HBD.out.2.1 HMX.out) (HFF.out _ HBW.out).2.2.2.1.2).mono ?_
      rintro e w15 ⟨rfl, hb⟩
      rw [← HTHN.out.1, HTHN.out.2]
      replace HBW := hide (below_step HBW.out hb)
      clear hb b0 b1 bz
      go_upto_region 16 with fail
      go_cut [214] from 214 to 214 (fun s wx => s = .bool false ∧ Hid (Below W8.heap.size W8 wx))
      case first => as_aux_lemma =>
        obtain ⟨⟨n1, n2⟩, n3, n4⟩ := HNB.out
        cases one with
        | true =>
          obtain ⟨hd, hd0⟩ := HDET.out rfl
          have hw : IntKind.i64.wrap (thn - now) = dv := by rw [hd]; exact IntWalk.i64_in _ (by omega)
          have hdd : thn - now = dv := hd.symm
          have hlt : (dv < 0) = False := eq_false (by omega)
          clear hd
          go_wp2_with fail
          go_meet
          exact ⟨rfl, HBW⟩
        | false =>
          go_wp2_with fail
          go_meet
          exact ⟨rfl, HBW⟩
      clear HBW HNOW HTHN HNB HDET
      obtain ⟨rfl, HBW⟩ := hcut
      as_aux_lemma =>
      go_upto_region 20 with fail
      go_loopg [26, 217] z (fun g sb t wr => ∃ v : Nat, sb = .bool ((cs.take v).any (sameT i j)) ∧ t = .int .i64 (v : Int) ∧ v ≤ z ∧ Hid (z ≤ g + v) ∧ Hid (Below W8.heap.size W8 wr))
      case atStart => exact ⟨0, rfl, rfl, by omega, hide (by omega), HBW⟩
      case round =>
        clear HBW
        obtain ⟨v, rfl, rfl, hv, HGK, HBW⟩ := hrel
        obtain ⟨bb, hbb⟩ : ∃ bb, bb = (cs.take v).any (sameT i j) := ⟨_, rfl⟩
        have HBB := hide hbb
        rw [← hbb]
        clear hbb
        by_cases hlt : v < z
        · as_aux_lemma =>
          obtain ⟨⟨x0, x1, x2⟩, hx⟩ : ∃ x, cs[v]? = some x := ⟨_, List.getElem?_eq_getElem (by rw [← HZ.out]; exact hlt)⟩
          obtain ⟨b, off, hC, hbs, c0, c1', c2'⟩ := (HFF.out _ HBW.out).2.2.2.2.2.get3 (fun _ => rfl) hx rfl
          have HX := hide hx
          have hvn : (v : Int) < (z : Int) := by omega
          have hzb : z ≤ 1048576 := HBD.out.2.2
          have hv0 : (0 : Int) ≤ (v : Int) := by omega
          subst hC
          dsimp only at c0 c1' c2'
          clear hx
          go_upto_region 22 with fail
          have HBX := hide (Row.new wr #[.int .i64 x0, .int .i64 x1, .int .i64 x2] 39)
          replace HBW := hide (below_alloc HBW.out (.cells #[.int .i64 x0, .int .i64 x1, .int .i64 x2] 39))
          clear c0 c1' c2' hbs
          generalize wr.alloc (.cells #[.int .i64 x0, .int .i64 x1, .int .i64 x2] 39) = w20 at *
          generalize wr.heap.size = sb at *
          have r0 := HBX.out.2.1 0 _ rfl
          have r1 := HBX.out.2.1 1 _ rfl
          have rz := HBX.out.1
          clear HBX HFF
          cases bb with
          | true =>
            go_wp2_with fail
            go_roundg (gk - 1)
            case measure => have := HGK.out; omega
            case rel => exact ⟨v + 1, same_val (by rw [any_take_add _ HX.out, ← HBB.out]; rfl), by go_num, by omega, hide (by have := HGK.out; omega), HBW⟩
          | false =>
            by_cases h1 : x0 = i
            · have g1 : (x0 == i) = true := by simpa using h1
              have K1 := hide h1
              clear h1
              by_cases h2 : x1 = j
              · have g2 : (x1 == j) = true := by simpa using h2
                have K2 := hide h2
                clear h2
                go_wp2_with fail
                go_roundg (gk - 1)
                case measure => have := HGK.out; omega
                case rel => exact ⟨v + 1, same_val (by rw [any_take_add _ HX.out, ← HBB.out]; simp only [sameT, decide_eq_true K1.out, decide_eq_true K2.out] <;> rfl), by go_num, by omega, hide (by have := HGK.out; omega), HBW⟩
              · have g2 : (x1 == j) = false := by simpa using h2
                have K2 := hide h2
                clear h2
                by_cases h3 : x0 = j
                · have g3 : (x0 == j) = true := by simpa using h3
                  have K3 := hide h3
                  clear h3
                  by_cases h4 : x1 = i
                  · have g4 : (x1 == i) = true := by simpa using h4
                    have K4 := hide h4
                    clear h4
                    go_wp2_with fail
                    go_roundg (gk - 1)
                    case measure => have := HGK.out; omega
                    case rel => exact ⟨v + 1, same_val (by rw [any_take_add _ HX.out, ← HBB.out]; simp only [sameT, decide_eq_true K1.out, decide_eq_false K2.out, decide_eq_true K3.out, decide_eq_true K4.out] <;> rfl), by go_num, by omega, hide (by have := HGK.out; omega), HBW⟩
                  · have g4 : (x1 == i) = false := by simpa using h4
                    have K4 := hide h4
                    clear h4
                    go_wp2_with fail
                    go_roundg (gk - 1)
                    case measure => have := HGK.out; omega
                    case rel => exact ⟨v + 1, same_val (by rw [any_take_add _ HX.out, ← HBB.out]; simp only [sameT, decide_eq_true K1.out, decide_eq_false K2.out, decide_eq_true K3.out, decide_eq_false K4.out] <;> rfl), by go_num, by omega, hide (by have := HGK.out; omega), HBW⟩
                · have g3 : (x0 == j) = false := by simpa using h3
                  have K3 := hide h3
                  clear h3
                  go_wp2_with fail
                  go_roundg (gk - 1)
                  case measure => have := HGK.out; omega
                  case rel => exact ⟨v + 1, same_val (by rw [any_take_add _ HX.out, ← HBB.out]; simp only [sameT, decide_eq_true K1.out, decide_eq_false K2.out, decide_eq_false K3.out] <;> rfl), by go_num, by omega, hide (by have := HGK.out; omega), HBW⟩
            · have g1 : (x0 == i) = false := by simpa using h1
              have K1 := hide h1
              clear h1
              by_cases h3 : x0 = j
              · have g3 : (x0 == j) = true := by simpa using h3
                have K3 := hide h3
                clear h3
                by_cases h4 : x1 = i
                · have g4 : (x1 == i) = true := by simpa using h4
                  have K4 := hide h4
                  clear h4
                  go_wp2_with fail
                  go_roundg (gk - 1)
                  case measure => have := HGK.out; omega
                  case rel => exact ⟨v + 1, same_val (by rw [any_take_add _ HX.out, ← HBB.out]; simp only [sameT, decide_eq_false K1.out, decide_eq_true K3.out, decide_eq_true K4.out] <;> rfl), by go_num, by omega, hide (by have := HGK.out; omega), HBW⟩
                · have g4 : (x1 == i) = false := by simpa using h4
                  have K4 := hide h4
                  clear h4
                  go_wp2_with fail
                  go_roundg (gk - 1)
                  case measure => have := HGK.out; omega
                  case rel => exact ⟨v + 1, same_val (by rw [any_take_add _ HX.out, ← HBB.out]; simp only [sameT, decide_eq_false K1.out, decide_eq_true K3.out, decide_eq_false K4.out] <;> rfl), by go_num, by omega, hide (by have := HGK.out; omega), HBW⟩
              · have g3 : (x0 == j) = false := by simpa using h3
                have K3 := hide h3
                clear h3
                go_wp2_with fail
                go_roundg (gk - 1)
                case measure => have := HGK.out; omega
                case rel => exact ⟨v + 1, same_val (by rw [any_take_add _ HX.out, ← HBB.out]; simp only [sameT, decide_eq_false K1.out, decide_eq_false K3.out] <;> rfl), by go_num, by omega, hide (by have := HGK.out; omega), HBW⟩
        · have hvf : ((v : Int) < (z : Int)) = False := eq_false (by omega)
          have hany : bb = !one := by
            rw [HBB.out, List.take_of_length_le (by have := HZ.out; omega)]
            exact HCUT.out
          subst hany
          clear HGK HBB hlt hv HCUT
          have hno : ((!one) == one) = false := by cases one <;> rfl
          rename World => wq
          go_upto_region 26 with fail
          clear hvf hno
          have b0 := (HFF.out _ HBW.out).2.1.1.2.1 0 _ rfl
          have b1 := (HFF.out _ HBW.out).2.1.1.2.1 1 _ rfl
          have bz := (HFF.out _ HBW.out).2.1.1.1
          go_upto_region 27 with fail
          clear b0 b1 bz
          go_loopg [253] q (fun g t wr => ∃ v : Nat, t = .int .i64 (v : Int) ∧ v ≤ q ∧ Hid (q ≤ g + v) ∧ Hid (Below W8.heap.size W8 wr))
          case atStart => exact ⟨0, rfl, by omega, hide (by omega), HBW⟩
          case round =>
            clear HBW
            obtain ⟨v, rfl, hv, HGK, HBW⟩ := hrel
            by_cases hlt : v < q
            · as_aux_lemma =>
              obtain ⟨⟨x0, x1, x2⟩, hx⟩ : ∃ x, l[v]? = some x := ⟨_, List.getElem?_eq_getElem (by rw [← HQ.out]; exact hlt)⟩
              obtain ⟨b, off, hC, hbs, c0, c1', c2'⟩ := (HFF.out _ HBW.out).2.1.2.get3 (fun _ => rfl) hx rfl
              have HX := hide hx
              have hvn : (v : Int) < (q : Int) := by omega
              have hqb : q ≤ 1048576 := HBD.out.1
              have hv0 : (0 : Int) ≤ (v : Int) := by omega
              subst hC
              dsimp only at c0 c1' c2'
              clear hx
              go_upto_region 29 with fail
              have HBX := hide (Row.new wr #[.int .i64 x0, .int .i64 x1, .int .i64 x2] 39)
              replace HBW := hide (below_alloc HBW.out (.cells #[.int .i64 x0, .int .i64 x1, .int .i64 x2] 39))
              clear c0 c1' c2' hbs
              generalize wr.alloc (.cells #[.int .i64 x0, .int .i64 x1, .int .i64 x2] 39) = w20 at *
              generalize wr.heap.size = sb at *
              go_cut [278] from 278 to 278 (fun s wx => s = .bool (sameT i j (x0, x1, x2)) ∧ Hid (Below W8.heap.size W8 wx) ∧ Hid (Row wx sb [.int .i64 x0, .int .i64 x1, .int .i64 x2]))
              case first => as_aux_lemma =>
                have r0 := HBX.out.2.1 0 _ rfl
                have r1 := HBX.out.2.1 1 _ rfl
                have rz := HBX.out.1
                clear HFF HX
                by_cases h1 : x0 = i
                · have g1 : (x0 == i) = true := by simpa using h1
                  have K1 := hide h1
                  clear h1
                  by_cases h2 : x1 = j
                  · have g2 : (x1 == j) = true := by simpa using h2
                    have K2 := hide h2
                    clear h2
                    go_wp2_with fail
                    go_meet
                    exact ⟨same_val (by simp only [sameT, decide_eq_true K1.out, decide_eq_true K2.out] <;> rfl), HBW, HBX⟩
                  · have g2 : (x1 == j) = false := by simpa using h2
                    have K2 := hide h2
                    clear h2
                    by_cases h3 : x0 = j
                    · have g3 : (x0 == j) = true := by simpa using h3
                      have K3 := hide h3
                      clear h3
                      by_cases h4 : x1 = i
                      · have g4 : (x1 == i) = true := by simpa using h4
                        have K4 := hide h4
                        clear h4
                        go_wp2_with fail
                        go_meet
                        exact ⟨same_val (by simp only [sameT, decide_eq_true K1.out, decide_eq_false K2.out, decide_eq_true K3.out, decide_eq_true K4.out] <;> rfl), HBW, HBX⟩
                      · have g4 : (x1 == i) = false := by simpa using h4
                        have K4 := hide h4
                        clear h4
                        go_wp2_with fail
                        go_meet
                        exact ⟨same_val (by simp only [sameT, decide_eq_true K1.out, decide_eq_false K2.out, decide_eq_true K3.out, decide_eq_false K4.out] <;> rfl), HBW, HBX⟩
                    · have g3 : (x0 == j) = false := by simpa using h3
                      have K3 := hide h3
                      clear h3
                      go_wp2_with fail
                      go_meet
                      exact ⟨same_val (by simp only [sameT, decide_eq_true K1.out, decide_eq_false K2.out, decide_eq_false K3.out] <;> rfl), HBW, HBX⟩
                · have g1 : (x0 == i) = false := by simpa using h1
                  have K1 := hide h1
                  clear h1
                  by_cases h3 : x0 = j
                  · have g3 : (x0 == j) = true := by simpa using h3
                    have K3 := hide h3
                    clear h3
                    by_cases h4 : x1 = i
                    · have g4 : (x1 == i) = true := by simpa using h4
                      have K4 := hide h4
                      clear h4
                      go_wp2_with fail
                      go_meet
                      exact ⟨same_val (by simp only [sameT, decide_eq_false K1.out, decide_eq_true K3.out, decide_eq_true K4.out] <;> rfl), HBW, HBX⟩
                    · have g4 : (x1 == i) = false := by simpa using h4
                      have K4 := hide h4
                      clear h4
                      go_wp2_with fail
                      go_meet
                      exact ⟨same_val (by simp only [sameT, decide_eq_false K1.out, decide_eq_true K3.out, decide_eq_false K4.out] <;> rfl), HBW, HBX⟩
                  · have g3 : (x0 == j) = false := by simpa using h3
                    have K3 := hide h3
                    clear h3
                    go_wp2_with fail
                    go_meet
                    exact ⟨same_val (by simp only [sameT, decide_eq_false K1.out, decide_eq_false K3.out] <;> rfl), HBW, HBX⟩
              clear HBW HBX
              obtain ⟨rfl, HBW, HBX⟩ := hcut
              cases hS : sameT i j (x0, x1, x2) with
              | false =>
                clear hS
                go_wp2_with fail
                go_roundg (gk - 1)
                case measure => have := HGK.out; omega
                case rel => exact ⟨v + 1, by go_num, by omega, hide (by have := HGK.out; omega), HBW⟩
              | true =>
                obtain ⟨e1, e2, e3⟩ := HBACK.out _ (List.mem_of_getElem? HX.out) hS
                dsimp only at e1 e2 e3
                have HE1 := hide (And.intro e1 (And.intro e2 e3))
                clear e1 e2 e3 hS
                have r2 := HBX.out.2.1 2 _ rfl
                have rz := HBX.out.1
                have d0 := (HFF.out _ HBW.out).2.2.1.1.2.1 0 _ rfl
                have d1 := (HFF.out _ HBW.out).2.2.1.1.2.1 1 _ rfl
                have dz := (HFF.out _ HBW.out).2.2.1.1.1
                go_wp2_with fail
                refine (implAddStreet_all nd A2 r c2 cl j i x2 _ HR.out HQ_A2.out.1 HQ_A2.out.2.1 (HFF.out _ HBW.out).2.2.1.2 HQ_A2.out.2.2).mono ?_
                rintro e w30 ⟨⟨u, rfl, ho⟩, hb⟩
                rw [HE1.out.2.1] at ho
                rw [HE1.out.1, HE1.out.2.2]
                obtain ⟨A9, c9, rfl, -, -, q3, -⟩ := twn_out HQ.out ho
                replace HBW := hide (below_alloc (below_step HBW.out hb) (.cells #[.int .i64 nd, .slice A9 q c9] 26))
                have HT9 : Hid (Tn (w30.alloc (.cells #[.int .i64 nd, .slice A9 q c9] 26)) w30.heap.size nd A9 q c9 l) := hide (Tn.new q3)
                clear hb ho q3 r2 rz HBX d0 d1 dz
                go_upto_region 31 with fail
                generalize w30.alloc (.cells #[.int .i64 nd, .slice A9 q c9] 26) = w31 at *
                generalize w30.heap.size = b9 at *
                have QS := hide (pSameTown_same nd A9 _ q c9 c1 l w31 HQ.out HBD.out.1 HT9.out.2 (HFF.out _ HBW.out).2.1.2)
                have d0 := HT9.out.1.2.1 0 _ rfl
                have d1 := HT9.out.1.2.1 1 _ rfl
                have dz := HT9.out.1.1
                have b0 := (HFF.out _ HBW.out).2.1.1.2.1 0 _ rfl
                have b1 := (HFF.out _ HBW.out).2.1.1.2.1 1 _ rfl
                have bz := (HFF.out _ HBW.out).2.1.1.1
                go_wp2_with fail
                refine QS.out.mono ?_
                rintro e w32 ⟨rfl, hb⟩
                replace HBW := hide (below_step HBW.out hb)
                clear hb d0 d1 dz b0 b1 bz HT9 QS
                go_wp2_with fail
                go_roundg (gk - 1)
                case measure => have := HGK.out; omega
                case rel => exact ⟨v + 1, by go_num, by omega, hide (by have := HGK.out; omega), HBW⟩
            · have hvf : ((v : Int) < (q : Int)) = False := eq_false (by omega)
              go_wp2_with fail
              go_meet
              exact HBW
  clear HBW
  replace HBW := hide hcut.out
  clear hcut
  replace HBW : Hid (Below w.heap.size w _) := hide (HFF.out _ HBW.out).1
  clear HFF HP HQ HL HCN HCL HOK HDV HONE HCS HTW HR HZ HBD HQ_A2 HQ_A3
  as_aux_lemma =>
  go_wp2_with fail
  refine (DrawAddStreet_any B m k more _ H2.out.1 H2.out.2.1 H2.out.2.2.1 (H2.out.2.2.2.below HBW.out)).mono ?_
  rintro e w1 ⟨⟨nu, A1, c1, u, s0, s1, s2, rfl, hl, ho⟩, hb⟩
  obtain ⟨q, hq⟩ : ∃ q, q = u.length := ⟨_, rfl⟩
  obtain ⟨p1, p2, p3, p4⟩ := own_pre ho
  rw [← hq] at p1 p4 hl ⊢
  have HP := hide (And.intro p1 (And.intro p2 p4))
  have HQ := hide hq
  have HL : Hid (q ≤ 1048576) := hide (by omega)
  have HB : Hid (Below w.heap.size w ((w1.alloc (.cells #[.int .i64 nu, .slice A1 q c1] 26)).alloc (.cells #[.int .i64 s0, .int .i64 s1, .int .i64 s2] 39))) := hide (below_alloc (below_alloc (below_step HBW.out hb) _) _)
  have HT1 : Hid (Tn ((w1.alloc (.cells #[.int .i64 nu, .slice A1 q c1] 26)).alloc (.cells #[.int .i64 s0, .int .i64 s1, .int .i64 s2] 39)) w1.heap.size nu A1 q c1 u) := hide ((Tn.new p3).alloc _)
  have HS1 := Row.new (w1.alloc (.cells #[.int .i64 nu, .slice A1 q c1] 26)) #[.int .i64 s0, .int .i64 s1, .int .i64 s2] 39
  rw [show (w1.alloc (.cells #[.int .i64 nu, .slice A1 q c1] 26)).heap.size = w1.heap.size + 1 by simp] at HS1
  replace HS1 := hide HS1
  clear hl hq p1 p2 p3 p4 ho hb HBW
  go_upto_region 35 with fail
  generalize (w1.alloc (.cells #[.int .i64 nu, .slice A1 q c1] 26)).alloc (.cells #[.int .i64 s0, .int .i64 s1, .int .i64 s2] 39) = W1 at *
  generalize w1.heap.size + 1 = sb at *
  generalize w1.heap.size = tb at *
  as_aux_lemma =>
  obtain ⟨an, han⟩ : ∃ x, x = adsN nu u (s0, s1, s2) := ⟨_, rfl⟩
  obtain ⟨al, hal⟩ : ∃ x, x = adsL nu u (s0, s1, s2) := ⟨_, rfl⟩
  obtain ⟨ok, hok⟩ : ∃ x, x = adsOk nu u (s0, s1, s2) := ⟨_, rfl⟩
  obtain ⟨r, hr⟩ : ∃ x, x = al.length := ⟨_, rfl⟩
  have HAN := hide han
  have HAL := hide hal
  have HOK := hide hok
  have HR := hide hr
  have HBD : Hid (r ≤ 1048576) := hide (by rw [hr, hal]; exact adsL_le _ _ _)
  clear han hal hok hr
  have b0 := HT1.out.1.2.1 0 _ rfl
  have b1 := HT1.out.1.2.1 1 _ rfl
  have bz := HT1.out.1.1
  have r0 := HS1.out.2.1 0 _ rfl
  have r1 := HS1.out.2.1 1 _ rfl
  have r2 := HS1.out.2.1 2 _ rfl
  have rz := HS1.out.1
  go_wp2_with fail
  refine (implAddStreet_all nu A1 q c1 u s0 s1 s2 _ HQ.out HP.out.1 HP.out.2.1 HT1.out.2 HP.out.2.2).mono ?_
  rintro e w2 ⟨⟨v, rfl, ho⟩, hb⟩
  rw [← HAL.out] at ho
  rw [← HAN.out, ← HOK.out]
  obtain ⟨A2, c2, rfl, q1, q2, q3, q4⟩ := twn_out HR.out ho
  have HQ_A2 := hide (And.intro q1 (And.intro q2 q4))
  replace HB := hide (below_alloc (below_step HB.out hb) (.cells #[.int .i64 an, .slice A2 r c2] 26))
  replace HT1 := hide ((HT1.out.below hb).alloc (.cells #[.int .i64 an, .slice A2 r c2] 26))
  replace HS1 := hide ((HS1.out.below hb).alloc (.cells #[.int .i64 an, .slice A2 r c2] 26))
  have HT_A2 : Hid (Tn (w2.alloc (.cells #[.int .i64 an, .slice A2 r c2] 26)) w2.heap.size an A2 r c2 al) := hide (Tn.new q3)
  clear b0 b1 bz q1 q2 q3 q4 ho hb r0 r1 r2 rz
  go_upto_region 36 with fail
  generalize w2.alloc (.cells #[.int .i64 an, .slice A2 r c2] 26) = W2 at *
  generalize w2.heap.size = b2 at *
  have b0 := HT1.out.1.2.1 0 _ rfl
  have b1 := HT1.out.1.2.1 1 _ rfl
  have bz := HT1.out.1.1
  have r0 := HS1.out.2.1 0 _ rfl
  have r1 := HS1.out.2.1 1 _ rfl
  have r2 := HS1.out.2.1 2 _ rfl
  have rz := HS1.out.1
  go_wp2_with fail
  refine (specAddStreet_all nu A1 q c1 u s0 s1 s2 _ HQ.out HP.out.1 HP.out.2.1 HT1.out.2 HP.out.2.2).mono ?_
  rintro e w3 ⟨⟨v, rfl, ho⟩, hb⟩
  rw [← HAL.out] at ho
  rw [← HAN.out, ← HOK.out]
  obtain ⟨A3, c3, rfl, q1, q2, q3, q4⟩ := twn_out HR.out ho
  have HQ_A3 := hide (And.intro q1 (And.intro q2 q4))
  replace HB := hide (below_alloc (below_step HB.out hb) (.cells #[.int .i64 an, .slice A3 r c3] 26))
  replace HT1 := hide ((HT1.out.below hb).alloc (.cells #[.int .i64 an, .slice A3 r c3] 26))
  replace HS1 := hide ((HS1.out.below hb).alloc (.cells #[.int .i64 an, .slice A3 r c3] 26))
  replace HT_A2 := hide ((HT_A2.out.below hb).alloc (.cells #[.int .i64 an, .slice A3 r c3] 26))
  have HT_A3 : Hid (Tn (w3.alloc (.cells #[.int .i64 an, .slice A3 r c3] 26)) w3.heap.size an A3 r c3 al) := hide (Tn.new q3)
  clear b0 b1 bz q1 q2 q3 q4 ho hb r0 r1 r2 rz
  go_upto_region 37 with fail
  generalize w3.alloc (.cells #[.int .i64 an, .slice A3 r c3] 26) = W3 at *
  generalize w3.heap.size = b3 at *
  go_cut [323] from 323 to 323 (fun s wx => s = .bool false ∧ Hid (Below w.heap.size w wx ∧ Tn wx tb nu A1 q c1 u ∧ Row wx sb [.int .i64 s0, .int .i64 s1, .int .i64 s2] ∧ Tn wx b2 an A2 r c2 al))
  case first => as_aux_lemma =>
    have QT := hide (pSameTown_same an A2 A3 r c2 c3 al W3 HR.out HBD.out HT_A2.out.2 HT_A3.out.2)
    have d0 := HT_A2.out.1.2.1 0 _ rfl
    have d1 := HT_A2.out.1.2.1 1 _ rfl
    have dz := HT_A2.out.1.1
    have e0 := HT_A3.out.1.2.1 0 _ rfl
    have e1 := HT_A3.out.1.2.1 1 _ rfl
    have ez := HT_A3.out.1.1
    go_wp2_with fail
    refine QT.out.mono ?_
    rintro e w5 ⟨rfl, hb⟩
    have HX := hide (And.intro (below_step HB.out hb) (And.intro (HT1.out.below hb) (And.intro (HS1.out.below hb) (HT_A2.out.below hb))))
    clear hb d0 d1 dz e0 e1 ez QT HB HT1 HS1 HT_A2 HT_A3
    go_wp2_with fail
    go_meet
    exact ⟨rfl, HX⟩
  clear HB HT1 HS1 HT_A2 HT_A3 HQ_A3
  obtain ⟨rfl, HX⟩ := hcut
  as_aux_lemma =>
  go_upto_if 324 with fail
  go_cut [] from 324 to 324 (fun wx => Hid (Below w.heap.size w wx))
  case first => as_aux_lemma =>
    cases ok with
    | false =>
      have HBW := hide HX.out.1
      go_wp2_with fail
      go_meet
      exact HBW
    | true =>
      obtain ⟨y1, y2, y3, y4⟩ := ad_all HAN.out HAL.out HOK.out rfl
      dsimp only at y2 y3 y4
      rw [y1] at HX
      have HY := hide (And.intro y2 (And.intro y3 y4))
      clear y1 y2 y3 y4 HAN HAL HOK
      have r0 := HX.out.2.2.1.2.1 0 _ rfl
      have r1 := HX.out.2.2.1.2.1 1 _ rfl
      have rz := HX.out.2.2.1.1
      have d0 := HX.out.2.2.2.1.2.1 0 _ rfl
      have d1 := HX.out.2.2.2.1.2.1 1 _ rfl
      have dz := HX.out.2.2.2.1.1
      go_wp2_with fail
      refine (implCloseStreet_any nu s0 s1 A2 r c2 al _ HR.out HQ_A2.out.1 HQ_A2.out.2.1 HX.out.2.2.2.2).mono ?_
      rintro e w6 ⟨⟨v, rfl, ho⟩, hb⟩
      rw [HY.out.2.2] at ho
      rw [HY.out.1, HY.out.2.1]
      obtain ⟨A9, c9, rfl, -, -, q3, -⟩ := twn_out HQ.out ho
      have HX1 := hide (And.intro (below_alloc (below_step HX.out.1 hb) (.cells #[.int .i64 nu, .slice A9 q c9] 26)) ((HX.out.2.1.below hb).alloc (.cells #[.int .i64 nu, .slice A9 q c9] 26)))
      have HT9 : Hid (Tn (w6.alloc (.cells #[.int .i64 nu, .slice A9 q c9] 26)) w6.heap.size nu A9 q c9 u) := hide (Tn.new q3)
      clear hb ho q3 r0 r1 rz d0 d1 dz HX
      go_upto_region 41 with fail
      generalize w6.alloc (.cells #[.int .i64 nu, .slice A9 q c9] 26) = w7 at *
      generalize w6.heap.size = b9 at *
      have QS := hide (pSameTown_same nu A9 A1 q c9 c1 u w7 HQ.out HL.out HT9.out.2 HX1.out.2.2)
      have d0 := HT9.out.1.2.1 0 _ rfl
      have d1 := HT9.out.1.2.1 1 _ rfl
      have dz := HT9.out.1.1
      have b0 := HX1.out.2.1.2.1 0 _ rfl
      have b1 := HX1.out.2.1.2.1 1 _ rfl
      have bz := HX1.out.2.1.1
      go_wp2_with fail
      refine QS.out.mono ?_
      rintro e w8 ⟨rfl, hb⟩
      have HBW := hide (below_step HX1.out.1 hb)
      clear hb d0 d1 dz b0 b1 bz HT9 QS HX1
      go_wp2_with fail
      go_meet
      exact HBW
  clear HX HP HQ HL HAN HAL HOK HR HBD HQ_A2
  have HBW := hide hcut.out
  clear hcut
  as_aux_lemma =>
  go_wp2_with fail
  refine (DrawNearestOf_any B m k more _ H2.out.1 H2.out.2.1 H2.out.2.2.1 (H2.out.2.2.2.below HBW.out)).mono ?_
  rintro e w1 ⟨⟨nx, A1, c1, xl, A2, c2, N, ja, rfl, hl, ho, hN, ho2⟩, hb⟩
  obtain ⟨q, hq⟩ : ∃ q, q = xl.length := ⟨_, rfl⟩
  obtain ⟨p, hp⟩ : ∃ p, p = N.length := ⟨_, rfl⟩
  obtain ⟨p1, p2, p3, -⟩ := own_pre ho
  rw [← hq] at p1 hl ⊢
  rw [← hp] at hN ⊢
  have HP := hide (And.intro p1 p2)
  have HQ := hide hq
  have HPN := hide hp
  have HL : Hid (p ≤ 1048576) := hide (by omega)
  have HB : Hid (Below w.heap.size w (w1.alloc (.cells #[.int .i64 nx, .slice A1 q c1] 26))) := hide (below_alloc (below_step HBW.out hb) _)
  have HT1 : Hid (Tn (w1.alloc (.cells #[.int .i64 nx, .slice A1 q c1] 26)) w1.heap.size nx A1 q c1 xl) := hide (Tn.new p3)
  have HRN : Hid (Rd (w1.alloc (.cells #[.int .i64 nx, .slice A1 q c1] 26)) A2 (N.map (Value.int .i64))) := hide ((own_rd ho2).alloc _)
  clear hl hq hp hN p1 p2 p3 ho ho2 hb HBW
  go_upto_region 44 with fail
  generalize w1.alloc (.cells #[.int .i64 nx, .slice A1 q c1] 26) = W1 at *
  generalize w1.heap.size = tb at *
  as_aux_lemma =>
  obtain ⟨nn, hnn⟩ : ∃ x, x = nearN nx xl N ja := ⟨_, rfl⟩
  obtain ⟨nt, hnt⟩ : ∃ x, x = nearT nx xl N ja := ⟨_, rfl⟩
  obtain ⟨ok, hok⟩ : ∃ x, x = nearOk nx xl N ja := ⟨_, rfl⟩
  have HNN := hide (And.intro hnn (And.intro hnt hok))
  clear hnn hnt hok
  have b0 := HT1.out.1.2.1 0 _ rfl
  have b1 := HT1.out.1.2.1 1 _ rfl
  have bz := HT1.out.1.1
  go_wp2_with fail
  refine (implNearestOf_any nx ja A1 q c1 xl A2 p c2 N _ HQ.out HP.out.1 HP.out.2 HT1.out.2 HPN.out HL.out HRN.out).mono ?_
  rintro e w2 ⟨rfl, hb⟩
  rw [← HNN.out.1, ← HNN.out.2.1, ← HNN.out.2.2]
  replace HB := hide (below_step HB.out hb)
  replace HT1 := hide (HT1.out.below hb)
  replace HRN := hide (HRN.out.below hb)
  clear hb b0 b1 bz
  have b0 := HT1.out.1.2.1 0 _ rfl
  have b1 := HT1.out.1.2.1 1 _ rfl
  have bz := HT1.out.1.1
  go_wp2_with fail
  refine (specNearestOf_any nx ja A1 q c1 xl A2 p c2 N _ HQ.out HP.out.1 HP.out.2 HT1.out.2 HPN.out HL.out HRN.out).mono ?_
  rintro e w3 ⟨rfl, hb⟩
  rw [← HNN.out.1, ← HNN.out.2.1, ← HNN.out.2.2]
  replace HB := hide (below_step HB.out hb)
  replace HT1 := hide (HT1.out.below hb)
  replace HRN := hide (HRN.out.below hb)
  clear hb b0 b1 bz
  go_upto_if 377 with fail
  go_cut [] from 377 to 377 (fun wx => Hid (Below w.heap.size w wx))
  case first => as_aux_lemma =>
    cases ok with
    | false =>
      go_wp2_with fail
      go_meet
      exact HB
    | true =>
      have HLAW : Hid (∀ n ∈ N, travOk nx xl n ja = true → nt ≤ travV nx xl n ja) := hide (by
        have h := near_law (HNN.out.2.2.symm)
        rwa [← HNN.out.2.1] at h)
      have HX := hide (And.intro HB.out (And.intro HT1.out HRN.out))
      clear HNN HB HT1 HRN
      go_upto_region 50 with fail
      go_loopg [380] p (fun g t wr => ∃ v : Nat, t = .int .i64 (v : Int) ∧ v ≤ p ∧ Hid (p ≤ g + v) ∧ Hid (Below w.heap.size w wr ∧ Tn wr tb nx A1 q c1 xl ∧ Rd wr A2 (N.map (Value.int .i64))))
      case atStart => exact ⟨0, rfl, by omega, hide (by omega), HX⟩
      case round =>
        clear HX
        obtain ⟨v, rfl, hv, HGK, HX⟩ := hrel
        by_cases hlt : v < p
        · obtain ⟨x0, hx⟩ : ∃ x, N[v]? = some x := ⟨_, List.getElem?_eq_getElem (by rw [← HPN.out]; exact hlt)⟩
          obtain ⟨b, off, hC, hbs, c0⟩ := HX.out.2.2.get1 (k := v) (u := .int .i64 x0) (by rw [List.getElem?_map, hx]; rfl)
          have hvn : (v : Int) < (p : Int) := by omega
          have hpb : p ≤ 1048576 := HL.out
          have hv0 : (0 : Int) ≤ (v : Int) := by omega
          subst hC
          obtain ⟨ov, hov⟩ : ∃ x, x = travV nx xl x0 ja := ⟨_, rfl⟩
          obtain ⟨oo, hoo⟩ : ∃ x, x = travOk nx xl x0 ja := ⟨_, rfl⟩
          have HLE : Hid (oo = true → nt ≤ ov) := hide (fun h => by rw [hov]; exact HLAW.out x0 (List.mem_of_getElem? hx) (hoo.symm.trans h))
          have HOV := hide (And.intro hov hoo)
          clear hx hov hoo
          have b0 := HX.out.2.1.1.2.1 0 _ rfl
          have b1 := HX.out.2.1.1.2.1 1 _ rfl
          have bz := HX.out.2.1.1.1
          go_wp2_with fail
          refine (specTravelTime_any nx x0 ja A1 q c1 xl _ HQ.out (Nat.le_trans HP.out.1 HP.out.2) HX.out.2.1.2).mono ?_
          rintro e w4 ⟨rfl, hb⟩
          rw [← HOV.out.1, ← HOV.out.2]
          replace HX := hide (And.intro (below_step HX.out.1 hb) (And.intro (HX.out.2.1.below hb) (HX.out.2.2.below hb)))
          clear hb b0 b1 bz c0 hbs HOV
          cases oo with
          | true =>
            have hle := HLE.out rfl
            have hlt' : (ov < nt) = False := eq_false (by omega)
            clear hle
            go_wp2_with fail
            go_roundg (gk - 1)
            case measure => have := HGK.out; omega
            case rel => exact ⟨v + 1, by go_num, by omega, hide (by have := HGK.out; omega), HX⟩
          | false =>
            go_wp2_with fail
            go_roundg (gk - 1)
            case measure => have := HGK.out; omega
            case rel => exact ⟨v + 1, by go_num, by omega, hide (by have := HGK.out; omega), HX⟩
        · have hvf : ((v : Int) < (p : Int)) = False := eq_false (by omega)
          have HBX := hide HX.out.1
          go_wp2_with fail
          go_meet
          exact HBX
  clear HB HT1 HRN HNN HP HQ HPN HL
  have HBW := hide hcut.out
  clear hcut
  as_aux_lemma =>
  go_wp2_with fail
  refine (DrawTownText_any B m k more _ H2.out.1 H2.out.2.1 H2.out.2.2.1 (H2.out.2.2.2.below HBW.out)).mono ?_
  rintro e w1 ⟨⟨ny, A1, c1, y, rfl, hl, ho⟩, hb⟩
  obtain ⟨q, hq⟩ : ∃ q, q = y.length := ⟨_, rfl⟩
  obtain ⟨p1, p2, p3, -⟩ := own_pre ho
  rw [← hq] at p1 hl ⊢
  have HP := hide (And.intro p1 p2)
  have HQ := hide hq
  have HL : Hid (q ≤ 1048576) := hide (by omega)
  have HB : Hid (Below w.heap.size w (w1.alloc (.cells #[.int .i64 ny, .slice A1 q c1] 26))) := hide (below_alloc (below_step HBW.out hb) _)
  have HT1 : Hid (Tn (w1.alloc (.cells #[.int .i64 ny, .slice A1 q c1] 26)) w1.heap.size ny A1 q c1 y) := hide (Tn.new p3)
  clear hl hq p1 p2 p3 ho hb HBW
  go_upto_region 57 with fail
  generalize w1.alloc (.cells #[.int .i64 ny, .slice A1 q c1] 26) = W1 at *
  generalize w1.heap.size = tb at *
  as_aux_lemma =>
  obtain ⟨tx, htx⟩ : ∃ x, x = txV ny y := ⟨_, rfl⟩
  obtain ⟨tw, htw⟩ : ∃ x, x = townB ny y := ⟨_, rfl⟩
  have HTX := hide htx
  have HTW := hide htw
  clear htx htw
  have b0 := HT1.out.1.2.1 0 _ rfl
  have b1 := HT1.out.1.2.1 1 _ rfl
  have bz := HT1.out.1.1
  go_wp2_with fail
  refine (implTownText_any ny A1 q c1 y _ HQ.out (Nat.le_trans HP.out.1 HP.out.2) (HE.out _ HB.out).txt.num.tab HT1.out.2).mono ?_
  rintro e w2 ⟨rfl, hb⟩
  rw [← HTX.out, ← HTW.out]
  replace HB := hide (below_step HB.out hb)
  replace HT1 := hide (HT1.out.below hb)
  clear hb b0 b1 bz
  have b0 := HT1.out.1.2.1 0 _ rfl
  have b1 := HT1.out.1.2.1 1 _ rfl
  have bz := HT1.out.1.1
  go_wp2_with fail
  refine (specTownText_any ny A1 q c1 y _ HQ.out (Nat.le_trans HP.out.1 HP.out.2) HT1.out.2).mono ?_
  rintro e w3 ⟨rfl, hb⟩
  rw [← HTX.out, ← HTW.out]
  replace HB := hide (below_step HB.out hb)
  replace HT1 := hide (HT1.out.below hb)
  clear hb b0 b1 bz
  go_wp2_with fail
  refine (DrawParseTown_any B m k more _ H2.out.1 H2.out.2.1 H2.out.2.2.1 (H2.out.2.2.2.below HB.out)).mono ?_
  rintro e w4 ⟨⟨s, rfl, hsz⟩, hb⟩
  have HSZ : Hid (s.size ≤ 1048576) := hide (by omega)
  replace HB := hide (below_step HB.out hb)
  replace HT1 := hide (HT1.out.below hb)
  clear hb hsz
  have P1 := hide (fun W (hb : Below w.heap.size w W) => implParseTown_any s W HSZ.out (HE.out W hb))
  have P2 := hide (fun W => specParseTown_any s W HSZ.out)
  rw [pt_same s] at P1
  have HOL := hide (outT_le s)
  obtain ⟨o, ho⟩ : ∃ o, o = ptS s := ⟨_, rfl⟩
  rw [← ho] at P1 P2 HOL
  clear ho
  obtain ⟨r, hr⟩ : ∃ x, x = (outL o).length := ⟨_, rfl⟩
  have HR := hide hr
  rw [← hr] at HOL
  clear hr
  go_wp2_with fail
  refine (P1.out _ HB.out).mono ?_
  rintro e w5 ⟨⟨v, rfl, ho⟩, hb⟩
  obtain ⟨A5, c5, rfl, -, -, q3, -⟩ := twn_out HR.out ho
  replace HB := hide (below_alloc (below_step HB.out hb) (.cells #[.int .i64 (outN o), .slice A5 r c5] 26))
  replace HT1 := hide ((HT1.out.below hb).alloc (.cells #[.int .i64 (outN o), .slice A5 r c5] 26))
  have HT_A5 : Hid (Tn (w5.alloc (.cells #[.int .i64 (outN o), .slice A5 r c5] 26)) w5.heap.size (outN o) A5 r c5 (outL o)) := hide (Tn.new q3)
  clear q3 ho hb
  go_upto_region 61 with fail
  generalize w5.alloc (.cells #[.int .i64 (outN o), .slice A5 r c5] 26) = W5 at *
  generalize w5.heap.size = b5 at *
  go_wp2_with fail
  refine (P2.out _).mono ?_
  rintro e w6 ⟨⟨v, rfl, ho⟩, hb⟩
  obtain ⟨A6, c6, rfl, -, -, q3, -⟩ := twn_out HR.out ho
  replace HB := hide (below_alloc (below_step HB.out hb) (.cells #[.int .i64 (outN o), .slice A6 r c6] 26))
  replace HT1 := hide ((HT1.out.below hb).alloc (.cells #[.int .i64 (outN o), .slice A6 r c6] 26))
  replace HT_A5 := hide ((HT_A5.out.below hb).alloc (.cells #[.int .i64 (outN o), .slice A6 r c6] 26))
  have HT_A6 : Hid (Tn (w6.alloc (.cells #[.int .i64 (outN o), .slice A6 r c6] 26)) w6.heap.size (outN o) A6 r c6 (outL o)) := hide (Tn.new q3)
  clear q3 ho hb
  go_upto_region 62 with fail
  generalize w6.alloc (.cells #[.int .i64 (outN o), .slice A6 r c6] 26) = W6 at *
  generalize w6.heap.size = b6 at *
  clear P1 P2
  generalize o.isSome = ob
  go_cut [440] from 440 to 440 (fun sx wx => sx = .bool false ∧ Hid (Below w.heap.size w wx ∧ Tn wx tb ny A1 q c1 y))
  case first => as_aux_lemma =>
    have QT := hide (pSameTown_same (outN o) A5 A6 r c5 c6 (outL o) W6 HR.out HOL.out HT_A5.out.2 HT_A6.out.2)
    have d0 := HT_A5.out.1.2.1 0 _ rfl
    have d1 := HT_A5.out.1.2.1 1 _ rfl
    have dz := HT_A5.out.1.1
    have e0 := HT_A6.out.1.2.1 0 _ rfl
    have e1 := HT_A6.out.1.2.1 1 _ rfl
    have ez := HT_A6.out.1.1
    go_wp2_with fail
    refine QT.out.mono ?_
    rintro e w7 ⟨rfl, hb⟩
    have HX := hide (And.intro (below_step HB.out hb) (HT1.out.below hb))
    clear hb d0 d1 dz e0 e1 ez QT HB HT1 HT_A5 HT_A6
    go_wp2_with fail
    go_meet
    exact ⟨rfl, HX⟩
  clear HB HT1 HT_A5 HT_A6 HR HOL HSZ
  obtain ⟨rfl, HX⟩ := hcut
  as_aux_lemma =>
  cases tw with
  | false => as_aux_lemma =>
    have HB := hide HX.out.1
    go_wp2_with fail
    go_ret
    exact ⟨rfl, HB.out⟩
  | true => as_aux_lemma =>
    have P3 := hide (fun W (hb : Below w.heap.size w W) => implParseTown_any tx W (by rw [HTX.out]; exact txV_size ny y) (HE.out W hb))
    have hpt : ptI tx = some (ny, y) := town_back_I HTW.out.symm (by rw [HTX.out, txV, if_pos HTW.out.symm])
    rw [hpt] at P3
    clear hpt
    go_wp2_with fail
    refine (P3.out _ HX.out.1).mono ?_
    rintro e w8 ⟨⟨v, rfl, ho⟩, hb⟩
    have ho1 : w8.ownsRow _ 39 3 v y.length (y.flatMap tcells) := ho
    obtain ⟨A9, c9, rfl, -, -, q3, -⟩ := twn_out HQ.out ho1
    rw [show outN (some (ny, y)) = ny from rfl]
    simp only [Option.isSome_some]
    have HT9 : Hid (Tn (w8.alloc (.cells #[.int .i64 ny, .slice A9 q c9] 26)) w8.heap.size ny A9 q c9 y) := hide (Tn.new q3)
    replace HX := hide (And.intro (below_alloc (below_step HX.out.1 hb) (.cells #[.int .i64 ny, .slice A9 q c9] 26)) ((HX.out.2.below hb).alloc (.cells #[.int .i64 ny, .slice A9 q c9] 26)))
    clear ho ho1 hb q3 P3
    go_upto_region 66 with fail
    generalize w8.alloc (.cells #[.int .i64 ny, .slice A9 q c9] 26) = w9 at *
    generalize w8.heap.size = b9 at *
    obtain ⟨mv, hmv⟩ : ∃ x, x = middleV ny y := ⟨_, rfl⟩
    obtain ⟨mw, hmw⟩ : ∃ x, x = middleW ny y := ⟨_, rfl⟩
    obtain ⟨mo, hmo⟩ : ∃ x, x = middleOk ny y := ⟨_, rfl⟩
    have HM := hide (And.intro hmv (And.intro hmw hmo))
    clear hmv hmw hmo
    have b0 := HX.out.2.1.2.1 0 _ rfl
    have b1 := HX.out.2.1.2.1 1 _ rfl
    have bz := HX.out.2.1.1
    go_wp2_with fail
    refine (implMiddleNode_any ny A1 q c1 y _ HQ.out HP.out.1 HP.out.2 HX.out.2.2).mono ?_
    rintro e w10 ⟨rfl, hb⟩
    rw [← HM.out.1, ← HM.out.2.1, ← HM.out.2.2]
    replace HX := hide (And.intro (below_step HX.out.1 hb) (HX.out.2.below hb))
    replace HT9 := hide (HT9.out.below hb)
    clear hb b0 b1 bz
    have b0 := HX.out.2.1.2.1 0 _ rfl
    have b1 := HX.out.2.1.2.1 1 _ rfl
    have bz := HX.out.2.1.1
    go_wp2_with fail
    refine (specMiddleNode_any ny A1 q c1 y _ HQ.out HP.out.1 HP.out.2 HX.out.2.2).mono ?_
    rintro e w11 ⟨rfl, hb⟩
    rw [← HM.out.1, ← HM.out.2.1, ← HM.out.2.2]
    replace HX := hide (And.intro (below_step HX.out.1 hb) (HX.out.2.below hb))
    replace HT9 := hide (HT9.out.below hb)
    clear hb b0 b1 bz
    have QS := hide (pSameTown_same ny A9 A1 q c9 c1 y _ HQ.out HL.out HT9.out.2 HX.out.2.2)
    have d0 := HT9.out.1.2.1 0 _ rfl
    have d1 := HT9.out.1.2.1 1 _ rfl
    have dz := HT9.out.1.1
    have b0 := HX.out.2.1.2.1 0 _ rfl
    have b1 := HX.out.2.1.2.1 1 _ rfl
    have bz := HX.out.2.1.1
    go_wp2_with fail
    refine QS.out.mono ?_
    rintro e w12 ⟨rfl, hb⟩
    have HB := hide (below_step HX.out.1 hb)
    clear hb d0 d1 dz b0 b1 bz QS HT9 HX
    go_wp2_with fail
    go_ret
    exact ⟨rfl, HB.out⟩
end Go.Proofs.YtbhnaakknfienaaGreatDoor

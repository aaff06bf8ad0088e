/- The law FnTravel: what the law's call returns. -/
import Derived.Test.YtbkhejkncmgdeaaTrC
import Derived.Deep.DeepCutAuto
import Derived.Deep.CutBlock
import Derived.Deep.LoopGhost
namespace Go.Proofs.Ytbkhejkncmgdeaa
open Go.RowKit
set_option linter.unusedVariables false

theorem byte_bd {l : List Int} (h : ∀ x ∈ l, (Lit.int .u8 x).wf = true) : ∀ x ∈ l, 0 ≤ x ∧ x ≤ 255 := fun x hx => by
  have := h x hx
  simp [Lit.wf] at this
  have e1 : IntKind.u8.min = 0 := rfl
  have e2 : IntKind.u8.max = 255 := rfl
  omega
/-- A town in a box, in memory that has only grown since w. -/
def TrF (w W : World) (tb : Nat) (nd : Int) (A : Option Addr) (n c : Nat) (l : List StT) : Prop := Below w.heap.size w W ∧ Row W tb [.int .i64 nd, .slice A n c] ∧ Rd W A (l.flatMap tcells)
theorem TrF.below {w W W' : World} {tb : Nat} {nd : Int} {A : Option Addr} {n c : Nat} {l : List StT} (h : TrF w W tb nd A n c l) (hb : Below W.heap.size W W') : TrF w W' tb nd A n c l := ⟨below_step h.1 hb, h.2.1.below hb, h.2.2.below hb⟩

set_option maxRecDepth 100000 in
set_option maxHeartbeats 16000000 in
theorem FnTravel_walk (A : Option Addr) (n c : Nat) (code : List Int) (B : Option Addr) (m k : Nat) (more : List Int) (w : World) (hn : n = code.length) (hnc : n ≤ c) (hc : c ≤ maxLen) (hr : Rd w A (code.map (Value.int .u8))) (hs : ∀ x ∈ code, (Lit.int .u8 x).wf = true)
    (hn2 : m = more.length) (hnc2 : m ≤ k) (hc2 : k ≤ maxLen) (hr2 : Rd w B (more.map (Value.int .u8))) (hs2 : ∀ x ∈ more, (Lit.int .u8 x).wf = true) :
    Calls Try.prog 4 #[.slice A n c, .slice B m k] w fun e w' => e = .returned (.bool true) ∧ Below w.heap.size w w' := by
  have H1 := hide (And.intro hn (And.intro (Nat.le_trans hnc hc) (And.intro (byte_bd hs) hr)))
  have H2 := hide (And.intro hn2 (And.intro (Nat.le_trans hnc2 hc2) (And.intro (byte_bd hs2) hr2)))
  have hb1 : n ≤ 9223372036854775807 := by unfold maxLen at hc; omega
  have hb2 : m ≤ 9223372036854775807 := by unfold maxLen at hc2; omega
  clear hn hr hs hn2 hr2 hs2 hnc hc hnc2 hc2
  go_enter Try.func4, Try.ntmps4
  go_wp2_with fail
  refine (big_any A B n c m k w hb1 hb2).mono ?_
  rintro e w' ⟨⟨bg, rfl⟩, rfl⟩
  cases bg with
  | true =>
    go_wp2
    go_ret
    exact ⟨rfl, Below.refl _ _⟩
  | false =>
    go_wp2_with fail
    refine (DrawRouteBetween_any A n c code _ H1.out.1 H1.out.2.1 H1.out.2.2.1 H1.out.2.2.2).mono ?_
    rintro e w1 ⟨⟨nd, A', c', l, i, j, rfl, hl, ho⟩, hb⟩
    obtain ⟨p1, p2, p3, -⟩ := own_pre ho
    have HP := hide (And.intro p1 p2)
    have hlm : l.length ≤ maxLen := Nat.le_trans p1 p2
    have HF : Hid (TrF w (w1.alloc (.cells #[.int .i64 nd, .slice A' l.length c'] 30)) w1.heap.size nd A' l.length c' l) := hide ⟨below_alloc hb _, Row.new _ _ _, p3.alloc _⟩
    have HLM := hide hlm
    clear p1 p2 p3 ho hb hl hlm H1
    go_upto_region 4 with fail
    generalize w1.alloc (.cells #[.int .i64 nd, .slice A' l.length c'] 30) = w2 at *
    generalize w1.heap.size = tb at *
    obtain ⟨q, hq0⟩ : ∃ q, q = l.length := ⟨_, rfl⟩
    rw [← hq0] at HF HP HLM ⊢
    have HQ := hide hq0
    clear hq0
    have b0 := HF.out.2.1.2.1 0 _ rfl
    have b1 := HF.out.2.1.2.1 1 _ rfl
    have bz := HF.out.2.1.1
    go_wp2_with fail
    refine (implTravelTime_any nd i j A' q c' l _ HQ.out HLM.out HF.out.2.2).mono ?_
    rintro e w3 ⟨rfl, hq⟩
    replace HF := hide (HF.out.below hq)
    clear b0 b1 bz hq
    have b0 := HF.out.2.1.2.1 0 _ rfl
    have b1 := HF.out.2.1.2.1 1 _ rfl
    have bz := HF.out.2.1.1
    go_wp2_with fail
    refine (specTravelTime_any nd i j A' q c' l _ HQ.out HLM.out HF.out.2.2).mono ?_
    rintro e w4 ⟨rfl, hq⟩
    replace HF := hide (HF.out.below hq)
    clear b0 b1 bz hq
    have b0 := HF.out.2.1.2.1 0 _ rfl
    have b1 := HF.out.2.1.2.1 1 _ rfl
    have bz := HF.out.2.1.1
    have HRL := hide (rbL_length nd l i j)
    go_wp2_with fail
    refine (implRouteBetween_any nd i j A' q c' l _ HQ.out HP.out.1 HP.out.2 HF.out.2.2).mono ?_
    rintro e w5 ⟨⟨v1, rfl, ho1⟩, hq⟩
    replace HF := hide (HF.out.below hq)
    obtain ⟨A1, k1, hv1, hr1, hk1, hk1', -⟩ := own_open ho1
    subst hv1
    have HR1 := hide hr1
    have HC1 := hide (And.intro hk1 hk1')
    clear ho1 hr1 hk1 hk1'
    clear b0 b1 bz hq
    have b0 := HF.out.2.1.2.1 0 _ rfl
    have b1 := HF.out.2.1.2.1 1 _ rfl
    have bz := HF.out.2.1.1
    go_wp2_with fail
    refine (specRouteBetween_any nd i j A' q c' l _ HQ.out HP.out.1 HP.out.2 HF.out.2.2).mono ?_
    rintro e w6 ⟨⟨v2, rfl, ho2⟩, hq⟩
    replace HF := hide (HF.out.below hq)
    replace HR1 := hide (HR1.out.below hq)
    obtain ⟨A2, k2, hv2, hr2, -⟩ := own_open ho2
    subst hv2
    have HR2 := hide hr2
    clear ho2 hr2
    clear b0 b1 bz hq
    have b0 := HF.out.2.1.2.1 0 _ rfl
    have b1 := HF.out.2.1.2.1 1 _ rfl
    have bz := HF.out.2.1.1
    go_wp2_with fail
    refine (implTimesFrom_any nd i A' q c' l _ HQ.out HLM.out HF.out.2.2).mono ?_
    rintro e w7 ⟨⟨v3, rfl, ho3⟩, hq⟩
    replace HF := hide (HF.out.below hq)
    replace HR1 := hide (HR1.out.below hq)
    replace HR2 := hide (HR2.out.below hq)
    obtain ⟨A3, k3, hv3, hr3, -⟩ := own_open ho3
    subst hv3
    have HR3 := hide hr3
    clear ho3 hr3
    clear b0 b1 bz hq
    have b0 := HF.out.2.1.2.1 0 _ rfl
    have b1 := HF.out.2.1.2.1 1 _ rfl
    have bz := HF.out.2.1.1
    go_wp2_with fail
    refine (specTimesFrom_any nd i A' q c' l _ HQ.out HLM.out HF.out.2.2).mono ?_
    rintro e w8 ⟨⟨v4, rfl, ho4⟩, hq⟩
    replace HF := hide (HF.out.below hq)
    replace HR1 := hide (HR1.out.below hq)
    replace HR2 := hide (HR2.out.below hq)
    replace HR3 := hide (HR3.out.below hq)
    obtain ⟨A4, k4, hv4, hr4, -⟩ := own_open ho4
    subst hv4
    have HR4 := hide hr4
    clear ho4 hr4
    clear b0 b1 bz hq
    rw [tr_one nd l i j]
    have HYES := hide (fun h => tr_yes (nd := nd) (l := l) (i := i) (j := j) h)
    have HNODE := hide (fun h => tr_node (nd := nd) (l := l) (i := i) h)
    have HT14 := hide (timesL_length nd l i)
    obtain ⟨n1, hn1⟩ : ∃ n1, n1 = (rbL nd l i j).length := ⟨_, rfl⟩
    obtain ⟨n3, hn3⟩ : ∃ n3, n3 = (timesL nd l i).length := ⟨_, rfl⟩
    rw [← hn1, ← hn3]
    have HN1 := hide hn1
    have HN3 := hide hn3
    clear hn1 hn3
    obtain ⟨tv, htv⟩ : ∃ tv, tv = travV nd l i j := ⟨_, rfl⟩
    rw [← htv]
    have HTV := hide htv
    clear htv
    obtain ⟨ok, hok⟩ : ∃ ok, ok = travOk nd l i j := ⟨_, rfl⟩
    rw [← hok]
    have HOK := hide hok
    clear hok
    obtain ⟨g, hg⟩ : ∃ g, g = goodB nd l i := ⟨_, rfl⟩
    rw [← hg]
    have HG := hide hg
    clear hg
    have HRS : Hid (∀ W, Below w8.heap.size w8 W → Rd W A1 ((rbL nd l i j).map (Value.int .i64)) ∧ Rd W A2 ((rbL nd l i j).map (Value.int .i64)) ∧ Rd W A3 ((timesL nd l i).map (Value.int .i64)) ∧ Rd W A4 ((timesL nd l i).map (Value.int .i64)) ∧ TrF w W tb nd A' q c' l) := hide (fun W hb => ⟨HR1.out.below hb, HR2.out.below hb, HR3.out.below hb, HR4.out.below hb, HF.out.below hb⟩)
    clear HF HR1 HR2 HR3 HR4
    obtain ⟨W8, hW8⟩ : ∃ W, W = w8 := ⟨_, rfl⟩
    have HBW : Hid (Below W8.heap.size W8 w8) := hide (by rw [hW8]; exact Below.refl _ _)
    rw [← hW8] at HRS
    clear hW8
    go_upto_region 10 with fail
    go_cut [128] (fun s wx => s = .bool false ∧ Hid (Below W8.heap.size W8 wx))
    case first => as_aux_lemma =>
      have HS1 := hide (fun W hb => sameInts_same A1 A2 n1 k1 k2 (rbL nd l i j) W HN1.out (by have := HN1.out; have := HRL.out; omega) (HRS.out W hb).1 (HRS.out W hb).2.1)
      have HS3 := hide (fun W hb => sameInts_same A3 A4 n3 k3 k4 (timesL nd l i) W HN3.out (by have := HN3.out; have := HT14.out; omega) (HRS.out W hb).2.2.1 (HRS.out W hb).2.2.2.1)
      cases ok with
      | true =>
        have hg : g = true := by rw [HG.out]; exact (HYES.out HOK.out.symm).good
        subst hg
        go_wp2_with fail
        refine (HS1.out _ HBW.out).mono ?_
        rintro e w9 ⟨rfl, hq⟩
        replace HBW := hide (below_step HBW.out hq)
        clear hq
        go_wp2_with fail
        refine (HS3.out _ HBW.out).mono ?_
        rintro e w10 ⟨rfl, hq⟩
        replace HBW := hide (below_step HBW.out hq)
        clear hq
        go_wp2_with fail
        go_meet
        exact ⟨rfl, HBW⟩
      | false =>
        go_wp2_with fail
        refine (HS1.out _ HBW.out).mono ?_
        rintro e w9 ⟨rfl, hq⟩
        replace HBW := hide (below_step HBW.out hq)
        clear hq
        cases g with
        | true =>
          go_wp2_with fail
          refine (HS3.out _ HBW.out).mono ?_
          rintro e w10 ⟨rfl, hq⟩
          replace HBW := hide (below_step HBW.out hq)
          clear hq
          go_wp2_with fail
          go_meet
          exact ⟨rfl, HBW⟩
        | false =>
          go_wp2_with fail
          refine (HS3.out _ HBW.out).mono ?_
          rintro e w10 ⟨rfl, hq⟩
          replace HBW := hide (below_step HBW.out hq)
          clear hq
          go_wp2_with fail
          go_meet
          exact ⟨rfl, HBW⟩
    clear HBW
    obtain ⟨rfl, HBW⟩ := hcut
    go_upto_if 129 with fail
    go_cut [] (fun wx => Hid (Below W8.heap.size W8 wx))
    case first => as_aux_lemma =>
      cases ok with
      | false =>
        go_wp2_with fail
        go_meet
        exact HBW
      | true =>
        have HY := hide (HYES.out HOK.out.symm)
        have Q1 := hide (fun W hb => implRouteTime_any nd A' q c' l A1 n1 k1 (rbL nd l i j) W HQ.out HP.out.1 HP.out.2 (HRS.out W hb).2.2.2.2.2.2 HN1.out (by have := HN1.out; have := HRL.out; omega) (by rw [HN1.out]; exact HC1.out.1) HC1.out.2 (HRS.out W hb).1)
        rw [HY.out.rok, HY.out.rval, ← HTV.out] at Q1
        have Q2 := hide (fun W hb => implTravelTime_any nd j i A' q c' l W HQ.out HLM.out (HRS.out W hb).2.2.2.2.2.2)
        rw [HY.out.bok, HY.out.bval, ← HTV.out] at Q2
        obtain ⟨b0, b1⟩ : wc.cell? ⟨tb, 0, none⟩ = some (.int .i64 nd) ∧ wc.cell? ⟨tb, 1, none⟩ = some (.slice A' q c') := ⟨(HRS.out _ HBW.out).2.2.2.2.2.1.2.1 0 _ rfl, (HRS.out _ HBW.out).2.2.2.2.2.1.2.1 1 _ rfl⟩
        have bz := (HRS.out _ HBW.out).2.2.2.2.2.1.1
        go_wp2_with fail
        refine (Q1.out _ HBW.out).mono ?_
        rintro e w9 ⟨rfl, hq⟩
        replace HBW := hide (below_step HBW.out hq)
        clear hq b0 b1 bz
        obtain ⟨b0, b1⟩ : w9.cell? ⟨tb, 0, none⟩ = some (.int .i64 nd) ∧ w9.cell? ⟨tb, 1, none⟩ = some (.slice A' q c') := ⟨(HRS.out _ HBW.out).2.2.2.2.2.1.2.1 0 _ rfl, (HRS.out _ HBW.out).2.2.2.2.2.1.2.1 1 _ rfl⟩
        have bz := (HRS.out _ HBW.out).2.2.2.2.2.1.1
        go_wp2_with fail
        refine (Q2.out _ HBW.out).mono ?_
        rintro e w10 ⟨rfl, hq⟩
        replace HBW := hide (below_step HBW.out hq)
        clear hq b0 b1 bz
        obtain ⟨jj, hjj⟩ := Int.eq_ofNat_of_zero_le HY.out.j0
        have hR := HRS.out _ HBW.out
        have hlast := HY.out.last
        have hfirst := HY.out.first
        have hat := HY.out.at_
        have hp := HY.out.pos
        have hjn : jj < n3 := by
          have h1 := (HNODE.out (show goodB nd l i = true from HY.out.good)).len
          have h2 := HY.out.jn
          have h3 := HN3.out
          omega
        rw [← HN1.out] at hlast hp
        rw [← HTV.out, hjj, Int.toNat_natCast] at hat
        obtain ⟨p1, rfl⟩ : ∃ p1, n1 = p1 + 1 := ⟨n1 - 1, by omega⟩
        rw [Nat.add_sub_cancel] at hlast
        obtain ⟨ba, oa, rfl, za, ca⟩ := hR.2.1.get1 (k := 0) (u := .int .i64 i) (by rw [List.getElem?_map, hfirst]; rfl)
        obtain ⟨bb, ob, hbb, zb, cb⟩ := hR.2.1.get1 (k := p1) (u := .int .i64 j) (by rw [List.getElem?_map, hlast]; rfl)
        cases hbb
        obtain ⟨bt, ot, rfl, zt, ct⟩ := hR.2.2.2.1.get1 (k := jj) (u := .int .i64 tv) (by rw [List.getElem?_map, hat]; rfl)
        subst hjj
        have e1 : IntKind.i64.wrap (((p1 + 1 : Nat) : Int) - 1) = (p1 : Int) := by rw [IntWalk.i64_in _ (by have := HN1.out; have := HRL.out; omega)]; omega
        have e2 : (0 : Int) ≤ (p1 : Int) := by omega
        have e3 : (p1 : Int) < ((p1 + 1 : Nat) : Int) := by omega
        have e4 : (0 : Int) < ((p1 + 1 : Nat) : Int) := by omega
        have e7 : p1 ≤ 1048576 := by have := HN1.out; have := HRL.out; omega
        have e5 : (jj : Int) < (n3 : Int) := by omega
        have e6 : (0 : Int) ≤ (jj : Int) := by omega
        rw [Nat.add_zero] at ca
        clear hR hlast hfirst hat hjn
        go_wp2_with fail
        go_meet
        exact HBW
    clear HBW
    replace HBW := hide hcut.out
    clear hcut
    go_upto_if 184 with fail
    go_cut [] (fun wx => Hid (Below W8.heap.size W8 wx))
    case first => as_aux_lemma =>
      cases g with
      | false =>
        go_wp2_with fail
        go_meet
        exact HBW
      | true =>
        have HND := hide (HNODE.out HG.out.symm)
        obtain ⟨ii, hii⟩ := Int.eq_ofNat_of_zero_le HND.out.i0
        have hR := HRS.out _ HBW.out
        have hown := HND.out.own
        rw [hii, Int.toNat_natCast, ← hii] at hown
        have hlen := HND.out.len
        rw [← HN3.out] at hlen
        obtain ⟨bt, ot, rfl, zt, ct⟩ := hR.2.2.2.1.get1 (k := ii) (u := .int .i64 0) (by rw [List.getElem?_map, hown]; rfl)
        have hi2 := (List.getElem?_eq_some_iff.1 hown).1
        rw [← HN3.out] at hi2
        have hi0 : (0 : Int) ≤ (ii : Int) := by omega
        have hi1 : (ii : Int) < (n3 : Int) := by omega
        have hnd14 : nd ≤ 14 := HND.out.hi
        obtain ⟨b0, b1⟩ : wc.cell? ⟨tb, 0, none⟩ = some (.int .i64 nd) ∧ wc.cell? ⟨tb, 1, none⟩ = some (.slice A' q c') := ⟨hR.2.2.2.2.2.1.2.1 0 _ rfl, hR.2.2.2.2.2.1.2.1 1 _ rfl⟩
        have bz := hR.2.2.2.2.2.1.1
        have HLEN := hide hlen
        rw [← hlen] at b0
        clear hR hown hi2 hlen
        subst hii
        go_wp2_with fail
        clear b0 b1 bz ct zt hi0 hi1
        go_loopg [200] q (fun g t wr => ∃ p : Nat, t = .int .i64 (p : Int) ∧ p ≤ q ∧ Hid (q ≤ g + p) ∧ Hid (Below W8.heap.size W8 wr))
        case atStart => exact ⟨0, rfl, by omega, hide (by omega), HBW⟩
        case round =>
          clear HBW
          obtain ⟨p, rfl, hp, HGK, HBW⟩ := hrel
          by_cases hlt : p < q
          · obtain ⟨⟨x0, x1, x2⟩, hx⟩ : ∃ x, l[p]? = some x := ⟨_, List.getElem?_eq_getElem (by rw [← HQ.out]; exact hlt)⟩
            obtain ⟨a, b, h1, h2, h3, h4, h5, h6, ⟨a0, a1⟩, ⟨c0, c1⟩, ⟨s1, s2⟩, hiff, himp⟩ := HND.out.street _ (List.mem_of_getElem? hx)
            dsimp only at h1 h2 h3 h4 h5 h6 s1 s2 himp
            obtain ⟨y0, rfl⟩ := Int.eq_ofNat_of_zero_le h1
            obtain ⟨y1, rfl⟩ := Int.eq_ofNat_of_zero_le h2
            rw [Int.toNat_natCast] at h5 h6
            have hR := HRS.out _ HBW.out
            obtain ⟨bs, os, rfl, zs, t0, t1, t2⟩ := hR.2.2.2.2.2.2.get3 (fun _ => rfl) hx rfl
            dsimp only at t0 t1 t2
            obtain ⟨bt2, ot2, hbt, zt, ca⟩ := hR.2.2.2.1.get1 (k := y0) (u := .int .i64 a) (by rw [List.getElem?_map, h5]; rfl)
            cases hbt
            obtain ⟨bt2, ot2, hbt, zt', cb⟩ := hR.2.2.2.1.get1 (k := y1) (u := .int .i64 b) (by rw [List.getElem?_map, h6]; rfl)
            cases hbt
            have hl := HLEN.out
            have u0 : (0 : Int) ≤ (y0 : Int) := by omega
            have u1 : (y0 : Int) < (n3 : Int) := by omega
            have u2 : (0 : Int) ≤ (y1 : Int) := by omega
            have u3 : (y1 : Int) < (n3 : Int) := by omega
            have u4 : (0 : Int) ≤ (p : Int) := by omega
            have u5 : (p : Int) < (q : Int) := by omega
            have HIF := hide hiff
            have HIM := hide himp
            have HQ5 := hide (show q ≤ maxLen from HLM.out)
            clear hx h1 h2 h3 h4 h5 h6 hiff himp hR zt' hl
            go_wp2_with fail
            have HSB := hide (Row.new wr #[.int .i64 (y0 : Int), .int .i64 (y1 : Int), .int .i64 x2] 34)
            refine wp_region_later (by kernel_rfl) (by kernel_rfl) ?_
            repeat (go_big_quiet_step (fail))
            refine wpQuiet_nil ?_
            refine later_intro fun w5 hb5 => ?_
            have HB5 := hide (below_step (below_alloc HBW.out (.cells #[.int .i64 (y0 : Int), .int .i64 (y1 : Int), .int .i64 x2] 34)) hb5)
            have r2 := (HSB.out.below hb5).2.1 2 _ rfl
            have rz := (HSB.out.below hb5).1
            clear hb5 t0 t1 t2 ca cb zs zt u0 u1 u2 u3 HBW
            have hp1 : IntKind.i64.wrap ((p : Int) + 1) = (p : Int) + 1 := IntWalk.i64_in _ (by have := HLM.out; unfold maxLen at this; omega)
            by_cases ha : a < 0
            · have hb : b < 0 := HIF.out.1 ha
              have ha' : decide (a < 0) = true := by simpa using ha
              have hb' : decide (b < 0) = true := by simpa using hb
              have ha2 : decide (0 ≤ a) = false := by simp; omega
              go_wp2
              go_roundg (gk - 1)
              case rel => exact ⟨p + 1, by go_num, by omega, hide (by have := HGK.out; omega), HB5⟩
              case measure => have := HGK.out; omega
            · have hb : ¬ b < 0 := fun h => ha (HIF.out.2 h)
              have ha' : decide (a < 0) = false := by simpa using ha
              have hb' : decide (b < 0) = false := by simpa using hb
              have ha2 : decide (0 ≤ a) = true := by simp; omega
              obtain ⟨g1, g2⟩ := HIM.out (by omega)
              have g1' : decide (b + x2 < a) = false := by simp; omega
              have g2' : decide (a + x2 < b) = false := by simp; omega
              go_wp2
              go_roundg (gk - 1)
              case rel => exact ⟨p + 1, by go_num, by omega, hide (by have := HGK.out; omega), HB5⟩
              case measure => have := HGK.out; omega
          · have hkn : ((p : Int) < (q : Int)) = False := by simp; omega
            go_wp2_with fail
            go_meet
            exact HBW
    clear HBW
    replace HBW := hide (HRS.out _ hcut.out).2.2.2.2.1
    clear hcut HRS HNODE HYES HT14 HN1 HN3 HTV HOK HG HQ HLM HP HRL HC1
    go_wp2_with fail
    refine (DrawRouteTime_any B m k more _ H2.out.1 H2.out.2.1 H2.out.2.2.1 (H2.out.2.2.2.below HBW.out)).mono ?_
    rintro e w20 ⟨⟨nd2, A5, c5, l2, A6, c6, R, rfl, -, ho2, hR2, ho3⟩, hb⟩
    obtain ⟨p1, p2, p3, -⟩ := own_pre ho2
    obtain ⟨A6', c6', hv, p4, p5, p6, -⟩ := own_open ho3
    simp only [Value.slice.injEq, true_and] at hv
    obtain ⟨rfl, rfl⟩ := hv
    have HP := hide (And.intro p1 p2)
    have HF : Hid (TrF w (w20.alloc (.cells #[.int .i64 nd2, .slice A5 l2.length c5] 30)) w20.heap.size nd2 A5 l2.length c5 l2) := hide ⟨below_alloc (below_step HBW.out hb) _, Row.new _ _ _, p3.alloc _⟩
    have HR := hide (p4.alloc (.cells #[.int .i64 nd2, .slice A5 l2.length c5] 30))
    have HC := hide (And.intro p5 p6)
    have HRL := hide hR2
    clear p1 p2 p3 p4 p5 p6 ho2 ho3 hb hR2 HBW
    obtain ⟨q2, hq2⟩ : ∃ q, q = l2.length := ⟨_, rfl⟩
    obtain ⟨r2, hr2⟩ : ∃ r, r = R.length := ⟨_, rfl⟩
    rw [← hq2] at HF HP HR ⊢
    rw [← hr2] at HC ⊢
    have HQ := hide hq2
    have HRN := hide hr2
    clear hq2 hr2
    go_wp2_with fail
    generalize w20.alloc (.cells #[.int .i64 nd2, .slice A5 q2 c5] 30) = w21 at *
    generalize w20.heap.size = tb2 at *
    have b0 := HF.out.2.1.2.1 0 _ rfl
    have b1 := HF.out.2.1.2.1 1 _ rfl
    have bz := HF.out.2.1.1
    refine (implRouteTime_any nd2 A5 q2 c5 l2 A6 r2 c6 R _ HQ.out HP.out.1 HP.out.2 HF.out.2.2 HRN.out (by have := HRN.out; have := HRL.out; omega) HC.out.1 HC.out.2 HR.out).mono ?_
    rintro e w22 ⟨rfl, hq⟩
    replace HF := hide (HF.out.below hq)
    replace HR := hide (HR.out.below hq)
    clear b0 b1 bz hq
    have b0 := HF.out.2.1.2.1 0 _ rfl
    have b1 := HF.out.2.1.2.1 1 _ rfl
    have bz := HF.out.2.1.1
    go_wp2_with fail
    refine (specRouteTime_any nd2 A5 q2 c5 l2 A6 r2 c6 R _ HQ.out HP.out.1 HP.out.2 HF.out.2.2 HRN.out (by have := HRN.out; have := HRL.out; omega) HC.out.1 HC.out.2 HR.out).mono ?_
    rintro e w23 ⟨rfl, hq⟩
    replace HF := hide (HF.out.below hq)
    replace HR := hide (HR.out.below hq)
    clear b0 b1 bz hq
    cases hf : rtOk nd2 l2 R with
    | false =>
      go_wp2
      go_ret
      exact ⟨rfl, HF.out.1⟩
    | true =>
      obtain ⟨a, b, htr⟩ := tr_route hf
      have HTR := hide htr
      have QI := hide (fun W h => implTravelTime_any nd2 a b A5 q2 c5 l2 W HQ.out (Nat.le_trans HP.out.1 HP.out.2) h)
      have QS := hide (fun W h => specTravelTime_any nd2 a b A5 q2 c5 l2 W HQ.out (Nat.le_trans HP.out.1 HP.out.2) h)
      rw [htr.ok] at QI QS
      have hle := htr.le
      have h14 := htr.hi
      have hpos := htr.pos
      have hfirst := htr.first
      have hlast := htr.last
      rw [← HRN.out] at h14 hpos hlast
      generalize travV nd2 l2 a b = tv2 at *
      generalize rtV nd2 l2 R = sm at *
      obtain ⟨p1, rfl⟩ : ∃ p1, r2 = p1 + 1 := ⟨r2 - 1, by omega⟩
      rw [Nat.add_sub_cancel] at hlast
      obtain ⟨ba, oa, rfl, za, ca⟩ := HR.out.get1 (k := 0) (u := .int .i64 a) (by rw [List.getElem?_map, hfirst]; rfl)
      obtain ⟨bb, ob, hbb, zb, cb⟩ := HR.out.get1 (k := p1) (u := .int .i64 b) (by rw [List.getElem?_map, hlast]; rfl)
      cases hbb
      have e1 : IntKind.i64.wrap (((p1 + 1 : Nat) : Int) - 1) = (p1 : Int) := by rw [IntWalk.i64_in _ (by omega)]; omega
      have e2 : (0 : Int) ≤ (p1 : Int) := by omega
      have e3 : (p1 : Int) < ((p1 + 1 : Nat) : Int) := by omega
      have e4 : (0 : Int) < ((p1 + 1 : Nat) : Int) := by omega
      rw [Nat.add_zero] at ca
      have HA := hide (fun W (hb : Below w23.heap.size w23 W) => (HR.out.below hb))
      clear hf htr hfirst hlast hpos
      have b0 := HF.out.2.1.2.1 0 _ rfl
      have b1 := HF.out.2.1.2.1 1 _ rfl
      have bz := HF.out.2.1.1
      go_wp2_with fail
      refine wpAnyS_start (fun w' => ∃ n : Later w23, w' = n.w) (n := 16) (by kernel_rfl) rfl rfl ?_
      refine wpAnyS_take_allE [0, 1, 2, 3, 4, 5, 6, 7, 8, 9] 6 rfl (by kernel_rfl) (by intro c a d v w h; cases d <;> exact h) (by kernel_rfl) (by simp; rfl) rfl (later_drew _) ?_
      repeat (go_big_quiet_step (fail))
      refine wpQuiet_nil ?_
      refine wpAnyS_only 10 (by kernel_rfl) (by simp; rfl) rfl rfl (fun K hK => ?_)
      go_wp2_with fail
      refine (QI.out _ (HF.out.2.2.below (Below.refl _ _).drew)).mono ?_
      rintro e w24 ⟨rfl, hq0⟩
      have hq : Below w23.heap.size w23 w24 := below_step (Below.refl _ _).drew hq0
      have HL := hide hq
      replace HF := hide (HF.out.below hq)
      replace HR := hide (HR.out.below hq)
      go_wp2_with fail
      refine ⟨later_of HL.out, ?_⟩
      refine wpAnyS_take_allE [11, 12, 13, 14, 15] 0 rfl (by kernel_rfl) (by intro c a d v w h; cases d <;> exact h) (by kernel_rfl) (by simp; rfl) rfl (later_of HL.out) ?_
      repeat (go_big_quiet_step (fail))
      refine wpQuiet_nil ?_
      refine wpAnyH_done (by kernel_rfl) ?_ _
      clear HL hq hq0
      clear b0 b1 bz za zb ca cb
      obtain ⟨bb, ob, hbb, za, ca⟩ := HR.out.get1 (k := 0) (u := .int .i64 a) (by rw [List.getElem?_map, HTR.out.first]; rfl)
      cases hbb
      obtain ⟨bb, ob, hbb, zb, cb⟩ := HR.out.get1 (k := p1) (u := .int .i64 b) (by rw [List.getElem?_map, show R[p1]? = some b from by have := HTR.out.last; rwa [← HRN.out, Nat.add_sub_cancel] at this]; rfl)
      cases hbb
      rw [Nat.add_zero] at ca
      have b0 := HF.out.2.1.2.1 0 _ rfl
      have b1 := HF.out.2.1.2.1 1 _ rfl
      have bz := HF.out.2.1.1
      go_wp2_with fail
      refine wpAnyS_start (fun w' => ∃ n : Later w24, w' = n.w) (n := 16) (by kernel_rfl) rfl rfl ?_
      refine wpAnyS_take_allE [0, 1, 2, 3, 4, 5, 6, 7, 8, 9] 6 rfl (by kernel_rfl) (by intro c a d v w h; cases d <;> exact h) (by kernel_rfl) (by simp; rfl) rfl (later_drew _) ?_
      repeat (go_big_quiet_step (fail))
      refine wpQuiet_nil ?_
      refine wpAnyS_only 10 (by kernel_rfl) (by simp; rfl) rfl rfl (fun K hK => ?_)
      go_wp2_with fail
      refine (QS.out _ (HF.out.2.2.below (Below.refl _ _).drew)).mono ?_
      rintro e w25 ⟨rfl, hq0⟩
      have hq : Below w24.heap.size w24 w25 := below_step (Below.refl _ _).drew hq0
      have HL := hide hq
      replace HF := hide (HF.out.below hq)
      replace HR := hide (HR.out.below hq)
      go_wp2_with fail
      refine ⟨later_of HL.out, ?_⟩
      refine wpAnyS_take_allE [11, 12, 13, 14, 15] 0 rfl (by kernel_rfl) (by intro c a d v w h; cases d <;> exact h) (by kernel_rfl) (by simp; rfl) rfl (later_of HL.out) ?_
      repeat (go_big_quiet_step (fail))
      refine wpQuiet_nil ?_
      refine wpAnyH_done (by kernel_rfl) ?_ _
      clear HL hq hq0
      clear b0 b1 bz za zb ca cb
      clear HA QI QS
      go_wp2
      go_ret
      exact ⟨rfl, HF.out.1⟩
end Go.Proofs.Ytbkhejkncmgdeaa

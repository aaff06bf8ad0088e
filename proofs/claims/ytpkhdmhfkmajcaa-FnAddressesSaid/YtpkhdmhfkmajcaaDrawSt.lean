/- Draws of stretches: a road's name, a stretch, a house. -/
import Derived.Test.YtpkhdmhfkmajcaaDrawBx
import Derived.Test.YtpkhdmhfkmajcaaStrA
import Derived.Deep.DeepCutAuto
import Derived.Deep.CutBlock
namespace Go.Proofs.Ytpkhdmhfkmajcaa
open Go.RowKit
set_option linter.unusedVariables false

/-- A drawn text. -/
def DrwTxt (d : Drw) (M : Nat) (w : World) (e : Ending) (w' : World) : Prop := (∃ v : ByteArray, e = .returned (.string v) ∧ v.size ≤ 20) ∧ d.st M w' ∧ w.grownBy w' (some d.g)

set_option maxHeartbeats 4000000 in
theorem roadName_any (d : Drw) (N : Nat) (w : World) (hd : d.ok) (h : d.st N w) (hN : N ≤ 100000000000) :
    Calls Try.prog 51 #[.pointer (some ⟨d.g, 0, none⟩)] w (DrwTxt d (N + 4) w) := by
  have H := hide h
  clear h
  go_enter Try.func51, Try.ntmps51
  go_wp2_with fail
  refine (of_lit d N [⟨#[]⟩, ⟨#[79, 97, 107]⟩, ⟨#[101, 108, 101, 118, 101, 110, 99, 104, 97, 114, 115]⟩] _ _ (by simp) hd H.out (by omega) (by simp) (by simp)).mono ?_
  rintro e w1 ⟨⟨v, rfl, hv⟩, hs, hg⟩
  have hvs : v.size ≤ 20 := by
    simp only [List.mem_cons, List.not_mem_nil, or_false] at hv
    rcases hv with rfl | rfl | rfl <;> decide
  have HV := hide hvs
  have HS := hide hs
  have HG := hide hg
  clear hv hvs hs hg H
  go_wp2_with fail
  refine (of_lit d (N + 2) [⟨#[109, 105, 108, 108]⟩, ⟨#[109, 105, 108, 108]⟩, ⟨#[111, 97, 107]⟩, ⟨#[101, 108, 109]⟩, ⟨#[109, 105, 108]⟩, ⟨#[109, 108, 105, 108]⟩, ⟨#[109, 105, 108, 107]⟩, ⟨#[110, 111, 114, 116, 104]⟩, ⟨#[116, 101, 110, 108, 101, 116, 116, 101, 114, 115]⟩, v] _ _ (by simp) hd HS.out (by omega) (by simp) (by simp)).mono ?_
  rintro e w2 ⟨⟨u, rfl, hu⟩, hs, hg⟩
  have hus : u.size ≤ 20 := by
    have hv := HV.out
    simp only [List.mem_cons, List.not_mem_nil, or_false] at hu
    rcases hu with rfl | rfl | rfl | rfl | rfl | rfl | rfl | rfl | rfl | rfl <;> first | exact hv | decide
  have HU := hide hus
  have HS2 := hide hs
  have HG2 := hide (grown_trans HG.out hg)
  clear hu hus hs hg
  go_wp2
  go_ret
  exact ⟨⟨_, rfl, HU.out⟩, HS2.out, HG2.out⟩

set_option maxHeartbeats 4000000 in
theorem houseOf_any (d : Drw) (N : Nat) (w : World) (hd : d.ok) (h : d.st N w) (hN : N ≤ 100000000000) :
    Calls Try.prog 59 #[.pointer (some ⟨d.g, 0, none⟩)] w fun e w' => (∃ v : Int, e = .returned (.int .i64 v) ∧ I64 v) ∧ d.st (N + 8) w' ∧ w.grownBy w' (some d.g) := by
  have H := hide h
  clear h
  go_enter Try.func59, Try.ntmps59
  go_wp2_with fail
  refine (pick_any d N 80 _ hd H.out (by omega) (by omega)).mono ?_
  rintro e w1 ⟨⟨p, rfl, hp0, hp1, hp2⟩, hs, hg⟩
  have HS := hide hs
  have HG := hide hg
  clear hs hg H
  go_wp2_with fail
  refine (pick_any d (N + 2) 80 _ hd HS.out (by omega) (by omega)).mono ?_
  rintro e w2 ⟨⟨q, rfl, hq0, hq1, hq2⟩, hs, hg⟩
  replace HS := hide hs
  replace HG := hide (grown_trans HG.out hg)
  clear hs hg
  go_wp2_with fail
  refine (among_lit d (N + 4) [0, 1000, -9223372036854775808] _ _ (by simp) hd HS.out (by omega) (by simp) (by simp)).mono ?_
  rintro e w3 ⟨⟨y, rfl, hy⟩, hs, hg⟩
  replace HS := hide hs
  replace HG := hide (grown_trans HG.out hg)
  have HY : Hid (I64 y) := hide (by simp at hy; unfold I64; omega)
  clear hs hg hy
  go_wp2_with fail
  refine (among_lit d (N + 6) [1, 1 + p, 1 + q, 999, y] _ _ (by simp) hd HS.out (by omega) (by simp) (by simp)).mono ?_
  rintro e w4 ⟨⟨z, rfl, hz⟩, hs, hg⟩
  replace HS := hide hs
  replace HG := hide (grown_trans HG.out hg)
  have HZ : Hid (I64 z) := hide (by have h := HY.out; simp at hz; unfold I64 at *; omega)
  clear hs hg hz
  go_wp2
  go_ret
  exact ⟨⟨_, rfl, HZ.out⟩, HS.out, HG.out⟩

/-- A drawn stretch. -/
def DrwStr (d : Drw) (M : Nat) (w : World) (e : Ending) (w' : World) : Prop :=
  (∃ (r : ByteArray) (a b c k : Int), e = .returned (.agg #[.string r, .int .i64 a, .int .i64 b, .int .i64 c, .int .i64 k]) ∧ r.size ≤ 20 ∧ I64 a ∧ I64 b ∧ I64 c ∧ I64 k) ∧ d.st M w' ∧ w.grownBy w' (some d.g)
def strC (r : ByteArray) (a b c k : Int) : List Value := [.string r, .int .i64 a, .int .i64 b, .int .i64 c, .int .i64 k]

set_option maxRecDepth 100000 in
set_option maxHeartbeats 8000000 in
theorem stretch_any (d : Drw) (N : Nat) (w : World) (hd : d.ok) (h : d.st N w) (hN : N ≤ 10000000000) :
    Calls Try.prog 26 #[.pointer (some ⟨d.g, 0, none⟩)] w (DrwStr d (N + 20) w) := by
  have H := hide h
  have HD := hide (show d.g < w.heap.size ∧ d.W0.heap.size ≤ d.g from ⟨h.lt, hd.2.2.2.2⟩)
  clear h
  go_enter Try.func26, Try.ntmps26
  go_wp2_with fail
  have HR := hide (Row.new w #[.string ByteArray.empty, .int .i64 0, .int .i64 0, .int .i64 0, .int .i64 0] 25)
  refine (pick_any d N 60 _ hd (H.out.alloc _) (by omega) (by omega)).mono ?_
  rintro e w1 ⟨⟨p, rfl, hp0, hp1, hp2⟩, hs, hg⟩
  replace HR := hide (HR.out.grown hg (fun e => by injection e with e; have := HD.out; omega))
  have HS := hide hs
  have HG := hide (grown_trans (grown_of_below ((Below.refl _ _).alloc (Nat.le_refl _) (.cells #[.string ByteArray.empty, .int .i64 0, .int .i64 0, .int .i64 0, .int .i64 0] 25)) _) hg)
  have hp7 : p ≤ 59 := by omega
  clear hs hg hp1 hp2 H
  go_wp2_with fail
  refine (of_lit d (N + 2) [⟨#[109, 105, 108, 108]⟩, ⟨#[111, 97, 107]⟩, ⟨#[101, 108, 109]⟩, ⟨#[110, 111, 114, 116, 104]⟩, ⟨#[109, 105, 108, 107]⟩] _ _ (by simp) hd HS.out (by omega) (by simp) (by simp)).mono ?_
  rintro e w2 ⟨⟨r, rfl, hr⟩, hs, hg⟩
  have HV : Hid (r.size ≤ 20) := hide (by
    simp only [List.mem_cons, List.not_mem_nil, or_false] at hr
    rcases hr with rfl | rfl | rfl | rfl | rfl <;> decide)
  replace HS := hide hs
  replace HR := hide (HR.out.grown hg (fun e => by injection e with e; have := HD.out; omega))
  replace HG := hide (grown_trans HG.out hg)
  clear hs hg hr
  go_wp2_with fail
  refine (among_lit d (N + 4) [0, 1, 5, 20] _ _ (by simp) hd HS.out (by omega) (by simp) (by simp)).mono ?_
  rintro e w3 ⟨⟨a, rfl, ha⟩, hs, hg⟩
  have ha2 : 0 ≤ a ∧ a ≤ 20 := by simp at ha; omega
  obtain ⟨ha0, ha1⟩ := ha2
  replace HS := hide hs
  replace HR := hide (HR.out.grown hg (fun e => by injection e with e; have := HD.out; omega))
  replace HG := hide (grown_trans HG.out hg)
  clear hs hg ha
  go_wp2_with fail
  refine (pick_any d (N + 6) 6 _ hd HS.out (by omega) (by omega)).mono ?_
  rintro e w4 ⟨⟨node, rfl, hn0, hn1, hn2⟩, hs, hg⟩
  replace HS := hide hs
  replace HR := hide (HR.out.grown hg (fun e => by injection e with e; have := HD.out; omega))
  replace HG := hide (grown_trans HG.out hg)
  have hn5 : node ≤ 5 := by omega
  clear hs hg hn1 hn2
  go_wp2_with fail
  refine (pick_any d (N + 8) 5 _ hd HS.out (by omega) (by omega)).mono ?_
  rintro e w5 ⟨⟨k, rfl, hk0, hk1, hk2⟩, hs, hg⟩
  replace HS := hide hs
  replace HR := hide (HR.out.grown hg (fun e => by injection e with e; have := HD.out; omega))
  replace HG := hide (grown_trans HG.out hg)
  have hk5 : k ≤ 4 := by omega
  clear hs hg hk1 hk2
  go_upto_region 3 with fail
  obtain ⟨low, hlow⟩ : ∃ low, low = 1 + p := ⟨_, rfl⟩
  obtain ⟨high, hhigh⟩ : ∃ high, high = 1 + p + a := ⟨_, rfl⟩
  obtain ⟨risk, hrisk⟩ : ∃ risk, risk = 1 + k := ⟨_, rfl⟩
  rw [← hhigh, ← hlow, ← hrisk]
  have hl1 : 1 ≤ low ∧ low ≤ 60 := by omega
  have hh1 : 1 ≤ high ∧ high ≤ 80 := by omega
  have hr1 : 1 ≤ risk ∧ risk ≤ 5 := by omega
  obtain ⟨l0, l1⟩ := hl1
  obtain ⟨g0, g1⟩ := hh1
  obtain ⟨r0, r1⟩ := hr1
  clear hlow hhigh hrisk ha0 ha1 hp0 hp7 hk0 hk5
  have HT : Hid (BxAt d w w.heap.size w5.heap.size [.string ByteArray.empty, .int .i64 0, .int .i64 0, .int .i64 0, .int .i64 0] [.string r, .int .i64 low, .int .i64 high, .int .i64 node, .int .i64 risk] (N + 10) (w5.alloc (.cells #[.string r, .int .i64 low, .int .i64 high, .int .i64 node, .int .i64 risk] 25))) := hide ⟨HD.out.2, HS.out.alloc _, grown_new HG.out _, HR.out.alloc _, Row.new _ _ _, ⟨HD.out.1, Nat.le_refl _, HR.out.1⟩⟩
  clear HR HS HG
  generalize w5.alloc (.cells #[.string r, .int .i64 low, .int .i64 high, .int .i64 node, .int .i64 risk] 25) = w6 at *
  generalize w5.heap.size = tb at *
  obtain ⟨rb, hrb⟩ : ∃ rb, rb = w.heap.size := ⟨_, rfl⟩
  rw [← hrb] at HT ⊢
  clear hrb HD
  go_wp2_with fail
  refine (pick_any d (N + 10) 40 _ hd HT.out.st (by omega) (by omega)).mono ?_
  rintro e w7 ⟨⟨q, rfl, hq0, hq1, hq2⟩, hs, hg⟩
  replace HT := hide (HT.out.draw hs hg)
  clear hs hg
  go_upto_block 0 with fail
  go_cut [] (fun wx => ∃ (r : ByteArray) (a b c k : Int), r.size ≤ 20 ∧ Hid (I64 a ∧ I64 b ∧ I64 c ∧ I64 k) ∧ Hid (BxAt d w rb tb [.string ByteArray.empty, .int .i64 0, .int .i64 0, .int .i64 0, .int .i64 0] (strC r a b c k) (N + 20) wx))
  case first => as_aux_lemma =>
    have i0 : I64 low := by unfold I64; omega
    have i1 : I64 high := by unfold I64; omega
    have i2 : I64 node := by unfold I64; omega
    have i3 : I64 risk := by unfold I64; omega
    by_cases h0 : q = 0
    · subst h0
      clear hq0 hq1 hq2
      have b2 := HT.out.box.2.1 2 _ rfl
      have bz := HT.out.box.1
      go_wp2_with fail
      refine (among_lit d (N + 12) [0, high + 1, -9223372036854775808] _ _ (by simp) hd HT.out.st (by omega) (by simp) (by simp)).mono ?_
      rintro e w9 ⟨⟨z, rfl, hz⟩, hs, hg⟩
      have HZ : Hid (I64 z) := hide (by simp at hz; unfold I64; omega)
      replace HT := hide (HT.out.draw hs hg)
      clear hs hg hz b2 bz
      have f0 := HT.out.box.free 1
      have e0 := HT.out.box.2.1 1 _ rfl
      have bz := HT.out.box.1
      go_wp2_with fail
      go_meet
      exact ⟨r, z, high, node, risk, HV.out, hide ⟨HZ.out, i1, i2, i3⟩, hide ((HT.out.set (k := 1) (show 1 < 5 by omega) _).more (by omega))⟩
    have h0' : (q == 0) = false := by simpa using h0
    by_cases h1 : q = 1
    · subst h1
      clear hq0 hq1 hq2
      go_wp2_with fail
      refine (among_lit d (N + 12) [999, 1000] _ _ (by simp) hd HT.out.st (by omega) (by simp) (by simp)).mono ?_
      rintro e w9 ⟨⟨z, rfl, hz⟩, hs, hg⟩
      have HZ : Hid (I64 z) := hide (by simp at hz; unfold I64; omega)
      replace HT := hide (HT.out.draw hs hg)
      clear hs hg hz
      have f0 := HT.out.box.free 2
      have e0 := HT.out.box.2.1 2 _ rfl
      have bz := HT.out.box.1
      go_wp2_with fail
      go_meet
      exact ⟨r, low, z, node, risk, HV.out, hide ⟨i0, HZ.out, i2, i3⟩, hide ((HT.out.set (k := 2) (show 2 < 5 by omega) _).more (by omega))⟩
    have h1' : (q == 1) = false := by simpa using h1
    by_cases h2 : q = 2
    · subst h2
      clear hq0 hq1 hq2
      go_wp2_with fail
      refine (among_lit d (N + 12) [13, 14, -1] _ _ (by simp) hd HT.out.st (by omega) (by simp) (by simp)).mono ?_
      rintro e w9 ⟨⟨z, rfl, hz⟩, hs, hg⟩
      have HZ : Hid (I64 z) := hide (by simp at hz; unfold I64; omega)
      replace HT := hide (HT.out.draw hs hg)
      clear hs hg hz
      have f0 := HT.out.box.free 3
      have e0 := HT.out.box.2.1 3 _ rfl
      have bz := HT.out.box.1
      go_wp2_with fail
      go_meet
      exact ⟨r, low, high, z, risk, HV.out, hide ⟨i0, i1, HZ.out, i3⟩, hide ((HT.out.set (k := 3) (show 3 < 5 by omega) _).more (by omega))⟩
    have h2' : (q == 2) = false := by simpa using h2
    by_cases h3 : q = 3
    · subst h3
      clear hq0 hq1 hq2
      go_wp2_with fail
      refine (among_lit d (N + 12) [0, 6] _ _ (by simp) hd HT.out.st (by omega) (by simp) (by simp)).mono ?_
      rintro e w9 ⟨⟨z, rfl, hz⟩, hs, hg⟩
      have HZ : Hid (I64 z) := hide (by simp at hz; unfold I64; omega)
      replace HT := hide (HT.out.draw hs hg)
      clear hs hg hz
      have f0 := HT.out.box.free 4
      have e0 := HT.out.box.2.1 4 _ rfl
      have bz := HT.out.box.1
      go_wp2_with fail
      go_meet
      exact ⟨r, low, high, node, z, HV.out, hide ⟨i0, i1, i2, HZ.out⟩, hide ((HT.out.set (k := 4) (show 4 < 5 by omega) _).more (by omega))⟩
    have h3' : (q == 3) = false := by simpa using h3
    by_cases h4 : q = 4
    · subst h4
      clear hq0 hq1 hq2
      go_wp2_with fail
      refine (roadName_any d (N + 12) _ hd HT.out.st (by omega)).mono ?_
      rintro e w9 ⟨⟨z, rfl, hz⟩, hs, hg⟩
      replace HT := hide (HT.out.draw hs hg)
      clear hs hg
      have f0 := HT.out.box.free 0
      have e0 := HT.out.box.2.1 0 _ rfl
      have bz := HT.out.box.1
      go_wp2_with fail
      go_meet
      exact ⟨z, low, high, node, risk, hz, hide ⟨i0, i1, i2, i3⟩, hide ((HT.out.set (k := 0) (show 0 < 5 by omega) _).more (by omega))⟩
    have h4' : (q == 4) = false := by simpa using h4
    clear hq0 hq1 hq2 h0 h1 h2 h3 h4
    go_wp2_with fail
    go_meet
    exact ⟨r, low, high, node, risk, HV.out, hide ⟨i0, i1, i2, i3⟩, hide (HT.out.more (by omega))⟩
  clear HT HV
  obtain ⟨s, x1, x2, x3, x4, hs, HI, HT⟩ := hcut
  have b0 := HT.out.box.2.1 0 _ rfl
  have b1 := HT.out.box.2.1 1 _ rfl
  have b2 := HT.out.box.2.1 2 _ rfl
  have b3 := HT.out.box.2.1 3 _ rfl
  have b4 := HT.out.box.2.1 4 _ rfl
  have bz := HT.out.box.1
  have u0 := HT.out.res.2.1 0 _ rfl
  have u1 := HT.out.res.2.1 1 _ rfl
  have u2 := HT.out.res.2.1 2 _ rfl
  have u3 := HT.out.res.2.1 3 _ rfl
  have u4 := HT.out.res.2.1 4 _ rfl
  have uz := HT.out.res.1
  have f0 := HT.out.res.free 0
  have f1 := HT.out.res.free 1
  have f2 := HT.out.res.free 2
  have f3 := HT.out.res.free 3
  have f4 := HT.out.res.free 4
  have HF := hide (((((HT.out.setR (k := 0) (show 0 < 5 by omega) (.string s)).setR (k := 1) (show 1 < 5 by omega) (.int .i64 x1)).setR (k := 2) (show 2 < 5 by omega) (.int .i64 x2)).setR (k := 3) (show 3 < 5 by omega) (.int .i64 x3)).setR (k := 4) (show 4 < 5 by omega) (.int .i64 x4))
  go_wp2
  exact bodyPost_ret (v := .agg #[.string s, .int .i64 x1, .int .i64 x2, .int .i64 x3, .int .i64 x4]) (by simp [results, Try.results26, go_sem, *]) rfl ⟨⟨_, _, _, _, _, rfl, hs, HI.out⟩, HF.out.st, HF.out.gr⟩
end Go.Proofs.Ytpkhdmhfkmajcaa

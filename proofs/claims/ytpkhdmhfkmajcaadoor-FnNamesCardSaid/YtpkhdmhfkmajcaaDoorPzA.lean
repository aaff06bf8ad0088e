/- Several texts in one. Draws that make one struct in a box: what is known while it is made. Draws of stretches: a road's name, a stretch, a house. Draws of stretches: a list of them. Draws of the address chapter. Draws of the address chapter: a text to read. -/
import Derived.Test.YtpkhdmhfkmajcaaDoorDrawSp
import Derived.Test.YtpkhdmhfkmajcaaDoorRow
import Derived.Test.YtpkhdmhfkmajcaaDoorStrA
import Derived.Test.YtpkhdmhfkmajcaaDoorPzC
import Derived.Test.YtpkhdmhfkmajcaaDoorListX
import Derived.Deep.DeepCutAuto
import Derived.Deep.CutBlock
import Derived.Deep.LoopGhost
namespace Go.Proofs.YtpkhdmhfkmajcaaDoor
open Go.RowKit
set_option linter.unusedVariables false

theorem grown_under {w w1 w2 : World} {row r2 : Option Nat} (h : w.grownBy w1 row) (k : w1.grownBy w2 r2) (hr : ∀ j, r2 = some j → w.heap.size ≤ j) : w.grownBy w2 row :=
  ⟨k.os.trans h.os, k.tape.trans h.tape, k.output.trans h.output, Nat.le_trans h.size k.size, fun i hi hne => (k.block i (Nat.lt_of_lt_of_le hi h.size) (fun e => by have := hr i e.symm; omega)).trans (h.block i hi hne)⟩

/-- While a struct is made: the result's box rb, the struct's box tb, the drawer behind N steps. -/
structure BxAt (d : Drw) (w : World) (rb tb : Nat) (xs ys : List Value) (N : Nat) (wr : World) : Prop where
  gle : d.W0.heap.size ≤ d.g
  st : d.st N wr
  gr : w.grownBy wr (some d.g)
  res : Row wr rb xs
  box : Row wr tb ys
  ord : d.g < w.heap.size ∧ w.heap.size ≤ rb ∧ rb < tb
section
variable {d : Drw} {w wr w' : World} {rb tb N M : Nat} {xs ys : List Value}
theorem BxAt.draw (h : BxAt d w rb tb xs ys N wr) (hs : d.st M w') (hg : wr.grownBy w' (some d.g)) : BxAt d w rb tb xs ys M w' :=
  ⟨h.gle, hs, grown_trans h.gr hg, h.res.grown hg (fun e => by injection e with e; have := h.ord; omega), h.box.grown hg (fun e => by injection e with e; have := h.ord; omega), h.ord⟩
theorem BxAt.below (h : BxAt d w rb tb xs ys N wr) (hb : Below wr.heap.size wr w') : BxAt d w rb tb xs ys N w' :=
  ⟨h.gle, h.st.below hb, grown_trans h.gr (grown_of_below hb _), h.res.below hb, h.box.below hb, h.ord⟩
theorem BxAt.alloc (h : BxAt d w rb tb xs ys N wr) (o : Obj) : BxAt d w rb tb xs ys N (wr.alloc o) := h.below ((Below.refl _ _).alloc (Nat.le_refl _) o)
theorem BxAt.more (h : BxAt d w rb tb xs ys N wr) (hM : N ≤ M) : BxAt d w rb tb xs ys M wr := { h with st := h.st.more hM }
theorem BxAt.base (h : BxAt d w rb tb xs ys N wr) : d.W0.heap.size ≤ w.heap.size := Nat.le_of_lt (Nat.lt_of_le_of_lt h.gle h.ord.1)
theorem BxAt.set (h : BxAt d w rb tb xs ys N wr) {k : Nat} (hk : k < ys.length) (u : Value) : BxAt d w rb tb xs (ys.set k u) N (wr.setCell ⟨tb, k, none⟩ u) := by
  have h0 : w.heap.size ≤ tb := by have := h.ord; omega
  have h1 : tb ≠ d.g := by have := h.ord; omega
  exact ⟨h.gle, h.st.put (p := ⟨tb, k, none⟩) (Nat.le_trans h.base h0) h1 _, grown_put h.gr (p := ⟨tb, k, none⟩) h0 _, h.res.far (p := ⟨tb, k, none⟩) (by have := h.ord; simp; omega) _, h.box.set hk _, h.ord⟩
theorem BxAt.setR (h : BxAt d w rb tb xs ys N wr) {k : Nat} (hk : k < xs.length) (u : Value) : BxAt d w rb tb (xs.set k u) ys N (wr.setCell ⟨rb, k, none⟩ u) := by
  have h0 : w.heap.size ≤ rb := h.ord.2.1
  have h1 : rb ≠ d.g := by have := h.ord; omega
  exact ⟨h.gle, h.st.put (p := ⟨rb, k, none⟩) (Nat.le_trans h.base h0) h1 _, grown_put h.gr (p := ⟨rb, k, none⟩) h0 _, h.res.set hk _, h.box.far (p := ⟨rb, k, none⟩) (by have := h.ord; simp; omega) _, h.ord⟩
theorem BxAt.castB (h : BxAt d w rb tb xs ys N wr) {zs : List Value} (e : ys = zs) : BxAt d w rb tb xs zs N wr := e ▸ h
end
end Go.Proofs.YtpkhdmhfkmajcaaDoor
namespace Go.Proofs.YtpkhdmhfkmajcaaDoor
open Go.RowKit
set_option linter.unusedVariables false

/-- A drawn text. -/
def DrwTxt (d : Drw) (M : Nat) (w : World) (e : Ending) (w' : World) : Prop := (∃ v : ByteArray, e = .returned (.string v) ∧ v.size ≤ 20) ∧ d.st M w' ∧ w.grownBy w' (some d.g)

set_option maxHeartbeats 4000000 in
theorem roadName_any (d : Drw) (N : Nat) (w : World) (hd : d.ok) (h : d.st N w) (hN : N ≤ 100000000000) :
    Calls Tryd.prog 27 #[.pointer (some ⟨d.g, 0, none⟩)] w (DrwTxt d (N + 4) w) := by
  have H := hide h
  clear h
  go_enter Tryd.func27, Tryd.ntmps27
  go_wp2_with fail
  refine (of_lit d N [⟨#[]⟩, ⟨#[79, 97, 107]⟩, ⟨#[101, 108, 101, 118, 101, 110, 99, 104, 97, 114, 115]⟩] _ _ (by simp) hd H.out (by omega) (by simp) (by simp)).mono ?_
  rintro e w1 ⟨⟨v, rfl, hv⟩, hs, hg⟩
  have hvs : v.size ≤ 20 := by
    simp only [List.mem_cons, List.not_mem_nil, or_false] at hv
    rcases hv with rfl | rfl | rfl <;> decide
  have HV := hide hvs
  have HS := hide hs
  have HG := hide hg
  clear hv hvs hs hg H
  go_wp2_with fail
  refine (of_lit d (N + 2) [⟨#[109, 105, 108, 108]⟩, ⟨#[109, 105, 108, 108]⟩, ⟨#[111, 97, 107]⟩, ⟨#[101, 108, 109]⟩, ⟨#[109, 105, 108]⟩, ⟨#[109, 108, 105, 108]⟩, ⟨#[109, 105, 108, 107]⟩, ⟨#[110, 111, 114, 116, 104]⟩, ⟨#[116, 101, 110, 108, 101, 116, 116, 101, 114, 115]⟩, v] _ _ (by simp) hd HS.out (by omega) (by simp) (by simp)).mono ?_
  rintro e w2 ⟨⟨u, rfl, hu⟩, hs, hg⟩
  have hus : u.size ≤ 20 := by
    have hv := HV.out
    simp only [List.mem_cons, List.not_mem_nil, or_false] at hu
    rcases hu with rfl | rfl | rfl | rfl | rfl | rfl | rfl | rfl | rfl | rfl <;> first | exact hv | decide
  have HU := hide hus
  have HS2 := hide hs
  have HG2 := hide (grown_trans HG.out hg)
  clear hu hus hs hg
  go_wp2
  go_ret
  exact ⟨⟨_, rfl, HU.out⟩, HS2.out, HG2.out⟩

set_option maxHeartbeats 4000000 in
theorem houseOf_any (d : Drw) (N : Nat) (w : World) (hd : d.ok) (h : d.st N w) (hN : N ≤ 100000000000) :
    Calls Tryd.prog 49 #[.pointer (some ⟨d.g, 0, none⟩)] w fun e w' => (∃ v : Int, e = .returned (.int .i64 v) ∧ I64 v) ∧ d.st (N + 8) w' ∧ w.grownBy w' (some d.g) := by
  have H := hide h
  clear h
  go_enter Tryd.func49, Tryd.ntmps49
  go_wp2_with fail
  refine (pick_any d N 80 _ hd H.out (by omega) (by omega)).mono ?_
  rintro e w1 ⟨⟨p, rfl, hp0, hp1, hp2⟩, hs, hg⟩
  have HS := hide hs
  have HG := hide hg
  clear hs hg H
  go_wp2_with fail
  refine (pick_any d (N + 2) 80 _ hd HS.out (by omega) (by omega)).mono ?_
  rintro e w2 ⟨⟨q, rfl, hq0, hq1, hq2⟩, hs, hg⟩
  replace HS := hide hs
  replace HG := hide (grown_trans HG.out hg)
  clear hs hg
  go_wp2_with fail
  refine (among_lit d (N + 4) [0, 1000, -9223372036854775808] _ _ (by simp) hd HS.out (by omega) (by simp) (by simp)).mono ?_
  rintro e w3 ⟨⟨y, rfl, hy⟩, hs, hg⟩
  replace HS := hide hs
  replace HG := hide (grown_trans HG.out hg)
  have HY : Hid (I64 y) := hide (by simp at hy; unfold I64; omega)
  clear hs hg hy
  go_wp2_with fail
  refine (among_lit d (N + 6) [1, 1 + p, 1 + q, 999, y] _ _ (by simp) hd HS.out (by omega) (by simp) (by simp)).mono ?_
  rintro e w4 ⟨⟨z, rfl, hz⟩, hs, hg⟩
  replace HS := hide hs
  replace HG := hide (grown_trans HG.out hg)
  have HZ : Hid (I64 z) := hide (by have h := HY.out; simp at hz; unfold I64 at *; omega)
  clear hs hg hz
  go_wp2
  go_ret
  exact ⟨⟨_, rfl, HZ.out⟩, HS.out, HG.out⟩

/-- A drawn stretch. -/
def DrwStr (d : Drw) (M : Nat) (w : World) (e : Ending) (w' : World) : Prop :=
  (∃ (r : ByteArray) (a b c k : Int), e = .returned (.agg #[.string r, .int .i64 a, .int .i64 b, .int .i64 c, .int .i64 k]) ∧ r.size ≤ 20 ∧ I64 a ∧ I64 b ∧ I64 c ∧ I64 k) ∧ d.st M w' ∧ w.grownBy w' (some d.g)
def strC (r : ByteArray) (a b c k : Int) : List Value := [.string r, .int .i64 a, .int .i64 b, .int .i64 c, .int .i64 k]

set_option maxRecDepth 100000 in
set_option maxHeartbeats 8000000 in
theorem stretch_any (d : Drw) (N : Nat) (w : World) (hd : d.ok) (h : d.st N w) (hN : N ≤ 10000000000) :
    Calls Tryd.prog 56 #[.pointer (some ⟨d.g, 0, none⟩)] w (DrwStr d (N + 20) w) := by
  have H := hide h
  have HD := hide (show d.g < w.heap.size ∧ d.W0.heap.size ≤ d.g from ⟨h.lt, hd.2.2.2.2⟩)
  clear h
  go_enter Tryd.func56, Tryd.ntmps56
  go_wp2_with fail
  have HR := hide (Row.new w #[.string ByteArray.empty, .int .i64 0, .int .i64 0, .int .i64 0, .int .i64 0] 39)
  refine (pick_any d N 60 _ hd (H.out.alloc _) (by omega) (by omega)).mono ?_
  rintro e w1 ⟨⟨p, rfl, hp0, hp1, hp2⟩, hs, hg⟩
  replace HR := hide (HR.out.grown hg (fun e => by injection e with e; have := HD.out; omega))
  have HS := hide hs
  have HG := hide (grown_trans (grown_of_below ((Below.refl _ _).alloc (Nat.le_refl _) (.cells #[.string ByteArray.empty, .int .i64 0, .int .i64 0, .int .i64 0, .int .i64 0] 39)) _) hg)
  have hp7 : p ≤ 59 := by omega
  clear hs hg hp1 hp2 H
  go_wp2_with fail
  refine (of_lit d (N + 2) [⟨#[109, 105, 108, 108]⟩, ⟨#[111, 97, 107]⟩, ⟨#[101, 108, 109]⟩, ⟨#[110, 111, 114, 116, 104]⟩, ⟨#[109, 105, 108, 107]⟩] _ _ (by simp) hd HS.out (by omega) (by simp) (by simp)).mono ?_
  rintro e w2 ⟨⟨r, rfl, hr⟩, hs, hg⟩
  have HV : Hid (r.size ≤ 20) := hide (by
    simp only [List.mem_cons, List.not_mem_nil, or_false] at hr
    rcases hr with rfl | rfl | rfl | rfl | rfl <;> decide)
  replace HS := hide hs
  replace HR := hide (HR.out.grown hg (fun e => by injection e with e; have := HD.out; omega))
  replace HG := hide (grown_trans HG.out hg)
  clear hs hg hr
  go_wp2_with fail
  refine (among_lit d (N + 4) [0, 1, 5, 20] _ _ (by simp) hd HS.out (by omega) (by simp) (by simp)).mono ?_
  rintro e w3 ⟨⟨a, rfl, ha⟩, hs, hg⟩
  have ha2 : 0 ≤ a ∧ a ≤ 20 := by simp at ha; omega
  obtain ⟨ha0, ha1⟩ := ha2
  replace HS := hide hs
  replace HR := hide (HR.out.grown hg (fun e => by injection e with e; have := HD.out; omega))
  replace HG := hide (grown_trans HG.out hg)
  clear hs hg ha
  go_wp2_with fail
  refine (pick_any d (N + 6) 6 _ hd HS.out (by omega) (by omega)).mono ?_
  rintro e w4 ⟨⟨node, rfl, hn0, hn1, hn2⟩, hs, hg⟩
  replace HS := hide hs
  replace HR := hide (HR.out.grown hg (fun e => by injection e with e; have := HD.out; omega))
  replace HG := hide (grown_trans HG.out hg)
  have hn5 : node ≤ 5 := by omega
  clear hs hg hn1 hn2
  go_wp2_with fail
  refine (pick_any d (N + 8) 5 _ hd HS.out (by omega) (by omega)).mono ?_
  rintro e w5 ⟨⟨k, rfl, hk0, hk1, hk2⟩, hs, hg⟩
  replace HS := hide hs
  replace HR := hide (HR.out.grown hg (fun e => by injection e with e; have := HD.out; omega))
  replace HG := hide (grown_trans HG.out hg)
  have hk5 : k ≤ 4 := by omega
  clear hs hg hk1 hk2
  go_upto_region 3 with fail
  obtain ⟨low, hlow⟩ : ∃ low, low = 1 + p := ⟨_, rfl⟩
  obtain ⟨high, hhigh⟩ : ∃ high, high = 1 + p + a := ⟨_, rfl⟩
  obtain ⟨risk, hrisk⟩ : ∃ risk, risk = 1 + k := ⟨_, rfl⟩
  rw [← hhigh, ← hlow, ← hrisk]
  have hl1 : 1 ≤ low ∧ low ≤ 60 := by omega
  have hh1 : 1 ≤ high ∧ high ≤ 80 := by omega
  have hr1 : 1 ≤ risk ∧ risk ≤ 5 := by omega
  obtain ⟨l0, l1⟩ := hl1
  obtain ⟨g0, g1⟩ := hh1
  obtain ⟨r0, r1⟩ := hr1
  clear hlow hhigh hrisk ha0 ha1 hp0 hp7 hk0 hk5
  have HT : Hid (BxAt d w w.heap.size w5.heap.size [.string ByteArray.empty, .int .i64 0, .int .i64 0, .int .i64 0, .int .i64 0] [.string r, .int .i64 low, .int .i64 high, .int .i64 node, .int .i64 risk] (N + 10) (w5.alloc (.cells #[.string r, .int .i64 low, .int .i64 high, .int .i64 node, .int .i64 risk] 39))) := hide ⟨HD.out.2, HS.out.alloc _, grown_new HG.out _, HR.out.alloc _, Row.new _ _ _, ⟨HD.out.1, Nat.le_refl _, HR.out.1⟩⟩
  clear HR HS HG
  generalize w5.alloc (.cells #[.string r, .int .i64 low, .int .i64 high, .int .i64 node, .int .i64 risk] 39) = w6 at *
  generalize w5.heap.size = tb at *
  obtain ⟨rb, hrb⟩ : ∃ rb, rb = w.heap.size := ⟨_, rfl⟩
  rw [← hrb] at HT ⊢
  clear hrb HD
  go_wp2_with fail
  refine (pick_any d (N + 10) 40 _ hd HT.out.st (by omega) (by omega)).mono ?_
  rintro e w7 ⟨⟨q, rfl, hq0, hq1, hq2⟩, hs, hg⟩
  replace HT := hide (HT.out.draw hs hg)
  clear hs hg
  go_upto_block 0 with fail
  go_cut [] (fun wx => ∃ (r : ByteArray) (a b c k : Int), r.size ≤ 20 ∧ Hid (I64 a ∧ I64 b ∧ I64 c ∧ I64 k) ∧ Hid (BxAt d w rb tb [.string ByteArray.empty, .int .i64 0, .int .i64 0, .int .i64 0, .int .i64 0] (strC r a b c k) (N + 20) wx))
  case first => as_aux_lemma =>
    have i0 : I64 low := by unfold I64; omega
    have i1 : I64 high := by unfold I64; omega
    have i2 : I64 node := by unfold I64; omega
    have i3 : I64 risk := by unfold I64; omega
    by_cases h0 : q = 0
    · subst h0
      clear hq0 hq1 hq2
      have b2 := HT.out.box.2.1 2 _ rfl
      have bz := HT.out.box.1
      go_wp2_with fail
      refine (among_lit d (N + 12) [0, high + 1, -9223372036854775808] _ _ (by simp) hd HT.out.st (by omega) (by simp) (by simp)).mono ?_
      rintro e w9 ⟨⟨z, rfl, hz⟩, hs, hg⟩
      have HZ : Hid (I64 z) := hide (by simp at hz; unfold I64; omega)
      replace HT := hide (HT.out.draw hs hg)
      clear hs hg hz b2 bz
      have f0 := HT.out.box.free 1
      have e0 := HT.out.box.2.1 1 _ rfl
      have bz := HT.out.box.1
      go_wp2_with fail
      go_meet
      exact ⟨r, z, high, node, risk, HV.out, hide ⟨HZ.out, i1, i2, i3⟩, hide ((HT.out.set (k := 1) (show 1 < 5 by omega) _).more (by omega))⟩
    have h0' : (q == 0) = false := by simpa using h0
    by_cases h1 : q = 1
    · subst h1
      clear hq0 hq1 hq2
      go_wp2_with fail
      refine (among_lit d (N + 12) [999, 1000] _ _ (by simp) hd HT.out.st (by omega) (by simp) (by simp)).mono ?_
      rintro e w9 ⟨⟨z, rfl, hz⟩, hs, hg⟩
      have HZ : Hid (I64 z) := hide (by simp at hz; unfold I64; omega)
      replace HT := hide (HT.out.draw hs hg)
      clear hs hg hz
      have f0 := HT.out.box.free 2
      have e0 := HT.out.box.2.1 2 _ rfl
      have bz := HT.out.box.1
      go_wp2_with fail
      go_meet
      exact ⟨r, low, z, node, risk, HV.out, hide ⟨i0, HZ.out, i2, i3⟩, hide ((HT.out.set (k := 2) (show 2 < 5 by omega) _).more (by omega))⟩
    have h1' : (q == 1) = false := by simpa using h1
    by_cases h2 : q = 2
    · subst h2
      clear hq0 hq1 hq2
      go_wp2_with fail
      refine (among_lit d (N + 12) [13, 14, -1] _ _ (by simp) hd HT.out.st (by omega) (by simp) (by simp)).mono ?_
      rintro e w9 ⟨⟨z, rfl, hz⟩, hs, hg⟩
      have HZ : Hid (I64 z) := hide (by simp at hz; unfold I64; omega)
      replace HT := hide (HT.out.draw hs hg)
      clear hs hg hz
      have f0 := HT.out.box.free 3
      have e0 := HT.out.box.2.1 3 _ rfl
      have bz := HT.out.box.1
      go_wp2_with fail
      go_meet
      exact ⟨r, low, high, z, risk, HV.out, hide ⟨i0, i1, HZ.out, i3⟩, hide ((HT.out.set (k := 3) (show 3 < 5 by omega) _).more (by omega))⟩
    have h2' : (q == 2) = false := by simpa using h2
    by_cases h3 : q = 3
    · subst h3
      clear hq0 hq1 hq2
      go_wp2_with fail
      refine (among_lit d (N + 12) [0, 6] _ _ (by simp) hd HT.out.st (by omega) (by simp) (by simp)).mono ?_
      rintro e w9 ⟨⟨z, rfl, hz⟩, hs, hg⟩
      have HZ : Hid (I64 z) := hide (by simp at hz; unfold I64; omega)
      replace HT := hide (HT.out.draw hs hg)
      clear hs hg hz
      have f0 := HT.out.box.free 4
      have e0 := HT.out.box.2.1 4 _ rfl
      have bz := HT.out.box.1
      go_wp2_with fail
      go_meet
      exact ⟨r, low, high, node, z, HV.out, hide ⟨i0, i1, i2, HZ.out⟩, hide ((HT.out.set (k := 4) (show 4 < 5 by omega) _).more (by omega))⟩
    have h3' : (q == 3) = false := by simpa using h3
    by_cases h4 : q = 4
    · subst h4
      clear hq0 hq1 hq2
      go_wp2_with fail
      refine (roadName_any d (N + 12) _ hd HT.out.st (by omega)).mono ?_
      rintro e w9 ⟨⟨z, rfl, hz⟩, hs, hg⟩
      replace HT := hide (HT.out.draw hs hg)
      clear hs hg
      have f0 := HT.out.box.free 0
      have e0 := HT.out.box.2.1 0 _ rfl
      have bz := HT.out.box.1
      go_wp2_with fail
      go_meet
      exact ⟨z, low, high, node, risk, hz, hide ⟨i0, i1, i2, i3⟩, hide ((HT.out.set (k := 0) (show 0 < 5 by omega) _).more (by omega))⟩
    have h4' : (q == 4) = false := by simpa using h4
    clear hq0 hq1 hq2 h0 h1 h2 h3 h4
    go_wp2_with fail
    go_meet
    exact ⟨r, low, high, node, risk, HV.out, hide ⟨i0, i1, i2, i3⟩, hide (HT.out.more (by omega))⟩
  clear HT HV
  obtain ⟨s, x1, x2, x3, x4, hs, HI, HT⟩ := hcut
  have b0 := HT.out.box.2.1 0 _ rfl
  have b1 := HT.out.box.2.1 1 _ rfl
  have b2 := HT.out.box.2.1 2 _ rfl
  have b3 := HT.out.box.2.1 3 _ rfl
  have b4 := HT.out.box.2.1 4 _ rfl
  have bz := HT.out.box.1
  have u0 := HT.out.res.2.1 0 _ rfl
  have u1 := HT.out.res.2.1 1 _ rfl
  have u2 := HT.out.res.2.1 2 _ rfl
  have u3 := HT.out.res.2.1 3 _ rfl
  have u4 := HT.out.res.2.1 4 _ rfl
  have uz := HT.out.res.1
  have f0 := HT.out.res.free 0
  have f1 := HT.out.res.free 1
  have f2 := HT.out.res.free 2
  have f3 := HT.out.res.free 3
  have f4 := HT.out.res.free 4
  have HF := hide (((((HT.out.setR (k := 0) (show 0 < 5 by omega) (.string s)).setR (k := 1) (show 1 < 5 by omega) (.int .i64 x1)).setR (k := 2) (show 2 < 5 by omega) (.int .i64 x2)).setR (k := 3) (show 3 < 5 by omega) (.int .i64 x3)).setR (k := 4) (show 4 < 5 by omega) (.int .i64 x4))
  go_wp2
  exact bodyPost_ret (v := .agg #[.string s, .int .i64 x1, .int .i64 x2, .int .i64 x3, .int .i64 x4]) (by simp [results, Tryd.results56, go_sem, *]) rfl ⟨⟨_, _, _, _, _, rfl, hs, HI.out⟩, HF.out.st, HF.out.gr⟩
end Go.Proofs.YtpkhdmhfkmajcaaDoor
namespace Go.Proofs.YtpkhdmhfkmajcaaDoor
open Go.RowKit
set_option linter.unusedVariables false

theorem strs_road {l : List StrT} (h : strsB l = true) : l.length ≤ 30 ∧ ∀ x ∈ l, x.1.size ≤ 20 := by
  refine ⟨?_, fun x hx => ?_⟩
  · rw [strsB, Bool.and_eq_true, decide_eq_true_eq] at h
    exact h.2
  · have := strsB_elem h hx
    simp only [strP, strB, roadB, Bool.and_eq_true, inB_iff] at this
    omega
theorem asO_road (l : List StrT) (s : StrT) : ((asO l s).getD []).length ≤ 30 ∧ ∀ x ∈ (asO l s).getD [], x.1.size ≤ 20 := by
  unfold asO
  split
  · split
    · rename_i h; exact strs_road h
    · exact ⟨by simp, by simp⟩
  · exact ⟨by simp, by simp⟩
/-- What the draw of a list of stretches leaves. -/
def DrwStrs (d : Drw) (M : Nat) (w : World) (e : Ending) (w' : World) : Prop :=
  (∃ (A : Option Addr) (c : Nat) (l : List StrT), e = .returned (.slice A l.length c) ∧ l.length ≤ 32 ∧ (∀ x ∈ l, x.1.size ≤ 20) ∧ w'.ownsRow w.heap.size 39 5 (.slice A l.length c) l.length (l.flatMap scells)) ∧ d.st M w' ∧ w.grownBy w' (some d.g)
/-- What a function that asks for stretches wants of them. -/
theorem own_strs {w : World} {B c : Nat} {A : Option Addr} {l : List StrT} (h : w.ownsRow B 39 5 (.slice A l.length c) l.length (l.flatMap scells)) :
    l.length ≤ c ∧ c ≤ maxLen ∧ Rd w A (l.flatMap scells) ∧ ((A = none ∧ l.length = 0 ∧ c = 0) ∨ ∃ b off, A = some ⟨b, off, none⟩) := by
  obtain ⟨A', cap, hv, hr, hn, hc, h0, h1⟩ := own_open h
  simp only [Value.slice.injEq, true_and] at hv
  obtain ⟨rfl, rfl⟩ := hv
  refine ⟨hn, hc, hr, ?_⟩
  cases A with
  | none => obtain ⟨a, b, -⟩ := h0 rfl; exact .inl ⟨rfl, a, b⟩
  | some ad =>
    obtain ⟨b, off, sp⟩ := ad
    obtain ⟨rfl, rfl, -⟩ := h1 b off sp rfl
    exact .inr ⟨b, 0, rfl⟩
/-- While a list of stretches is made. -/
def SxAt (d : Drw) (w : World) (A : Option Addr) (c : Nat) (l : List StrT) (N : Nat) (wr : World) : Prop :=
  (l.length ≤ 32 ∧ ∀ x ∈ l, x.1.size ≤ 20) ∧ wr.ownsRow w.heap.size 39 5 (.slice A l.length c) l.length (l.flatMap scells) ∧ d.st N wr ∧ w.grownBy wr (some d.g)

theorem SxAt.draw {d : Drw} {w wr w' : World} {A : Option Addr} {c N M : Nat} {l : List StrT} (h : SxAt d w A c l N wr) (h0 : d.g < w.heap.size) (hs : d.st M w') (hg : wr.grownBy w' (some d.g)) : SxAt d w A c l M w' :=
  ⟨h.1, own_far h.2.1 hg h0, hs, grown_trans h.2.2.2 hg⟩
theorem SxAt.more {d : Drw} {w wr : World} {A : Option Addr} {c N M : Nat} {l : List StrT} (h : SxAt d w A c l N wr) (hM : N ≤ M) : SxAt d w A c l M wr := ⟨h.1, h.2.1, h.2.2.1.more hM, h.2.2.2⟩
theorem sx_set {l : List StrT} {k : Nat} (hk : k < l.length) (s0 : ByteArray) (s1 s2 s3 s4 : Int) :
    (((((l.flatMap scells).set (k * 5) (.string s0)).set (k * 5 + 1) (.int .i64 s1)).set (k * 5 + 2) (.int .i64 s2)).set (k * 5 + 3) (.int .i64 s3)).set (k * 5 + 4) (.int .i64 s4) = (l.set k (s0, s1, s2, s3, s4)).flatMap scells := by
  obtain ⟨⟨x0, x1, x2, x3, x4⟩, hx⟩ : ∃ x, l[k]? = some x := ⟨_, List.getElem?_eq_getElem hk⟩
  have g : ∀ b : StrT, (l.set k b)[k]? = some b := fun b => by simp [hk]
  rw [show k * 5 = k * 5 + 0 from rfl, flat_set scells 5 (fun _ => rfl) 0 (by omega) (.string s0) (s0, x1, x2, x3, x4) l k _ hx rfl,
    show k * 5 + 0 + 1 = k * 5 + 1 from rfl, flat_set scells 5 (fun _ => rfl) 1 (by omega) (.int .i64 s1) (s0, s1, x2, x3, x4) _ k _ (g (s0, x1, x2, x3, x4)) rfl, List.set_set,
    show k * 5 + 0 + 2 = k * 5 + 2 from rfl, flat_set scells 5 (fun _ => rfl) 2 (by omega) (.int .i64 s2) (s0, s1, s2, x3, x4) _ k _ (g (s0, s1, x2, x3, x4)) rfl, List.set_set,
    show k * 5 + 0 + 3 = k * 5 + 3 from rfl, flat_set scells 5 (fun _ => rfl) 3 (by omega) (.int .i64 s3) (s0, s1, s2, s3, x4) _ k _ (g (s0, s1, s2, x3, x4)) rfl, List.set_set,
    show k * 5 + 0 + 4 = k * 5 + 4 from rfl, flat_set scells 5 (fun _ => rfl) 4 (by omega) (.int .i64 s4) (s0, s1, s2, s3, s4) _ k _ (g (s0, s1, s2, s3, x4)) rfl, List.set_set]

set_option maxRecDepth 100000 in
set_option maxHeartbeats 16000000 in
theorem stretches_any (d : Drw) (N : Nat) (w : World) (hd : d.ok) (h : d.st N w) (hN : N ≤ 1000000000) :
    Calls Tryd.prog 39 #[.pointer (some ⟨d.g, 0, none⟩)] w (DrwStrs d (N + 1000) w) := by
  have H := hide h
  have HD := hide (show d.g < w.heap.size ∧ d.W0.heap.size ≤ w.heap.size from ⟨h.lt, h.base⟩)
  obtain ⟨i0, hi0, hz0, hz1, hz2⟩ := info_parts infoStretch
  have Hi := hide hi0
  have Hz := hide (And.intro hz0 (And.intro hz1 hz2))
  clear h hi0 hz0 hz1 hz2
  go_enter Tryd.func39, Tryd.ntmps39
  go_wp2_with fail
  refine (pick_any d N 9 w hd H.out (by omega) (by omega)).mono ?_
  rintro e w1 ⟨⟨x, rfl, hx0, hx1, hx2⟩, hs, hg⟩
  obtain ⟨q0, rfl⟩ := Int.eq_ofNat_of_zero_le hx0
  have hq9 : q0 ≤ 8 := by omega
  have HT : Hid (SxAt d w none 0 [] (N + 2) w1) := hide ⟨⟨by simp, by simp⟩, World.ownsRow_nil _ _ _ _, hs, hg⟩
  clear hs hg hx0 hx1 hx2 H
  go_wp2_with fail
  go_loopg [3, 4] 9 (fun g tl tn wr => ∃ (q : Nat) (A : Option Addr) (c : Nat) (l : List StrT), tl = .slice A l.length c ∧ tn = .int .i64 (q : Int) ∧ q ≤ 8 ∧ Hid (q ≤ g) ∧ Hid (SxAt d w A c l (N + 2 + 20 * (8 - q)) wr))
  case atStart => exact ⟨q0, none, 0, [], rfl, rfl, hq9, hide (by omega), hide ⟨HT.out.1, HT.out.2.1, HT.out.2.2.1.more (by omega), HT.out.2.2.2⟩⟩
  case round =>
    clear HT
    obtain ⟨q, A, c, l, rfl, rfl, hq, HGK, HT⟩ := hrel
    by_cases h0 : 0 < q
    · have h0' : (0 : Int) < (q : Int) := by omega
      have hL32 := HT.out.1.1
      go_wp2_with fail
      refine (stretch_any d (N + 2 + 20 * (8 - q)) wr hd HT.out.2.2.1 (by omega)).mono ?_
      rintro e w2 ⟨⟨s0, s1, s2, s3, s4, rfl, hz, -⟩, hs, hg⟩
      have HO := hide (own_far HT.out.2.1 hg HD.out.1)
      have HS := hide hs
      have HG := hide (grown_trans HT.out.2.2.2 hg)
      have HR := hide HT.out.1
      have HZ := hide hz
      obtain ⟨p1, p2, p3, p4⟩ := own_strs HO.out
      have HP := hide (And.intro p1 (And.intro p2 (And.intro p3 p4)))
      clear hs hg hz HT p1 p2 p3 p4
      go_wp2_with fail
      refine (specAddStretch_all A l.length c l s0 s1 s2 s3 s4 _ rfl HP.out.1 HP.out.2.1 (by omega) (fun x hx => Nat.le_trans (HR.out.2 x hx) (by unfold maxLen; omega)) HP.out.2.2.1 (Nat.le_trans HZ.out (by unfold maxLen; omega)) HP.out.2.2.2).mono ?_
      rintro e w3 ⟨⟨v, rfl, ho⟩, hb⟩
      have HAR := hide (asO_road l (s0, s1, s2, s3, s4))
      have HO2 := hide (own_le ho HG.out.size)
      replace HO := hide (own_below HO.out hb)
      replace HS := hide (HS.out.below hb)
      replace HG := hide (grown_trans HG.out (grown_of_below hb _))
      clear ho hb HP
      generalize asO l (s0, s1, s2, s3, s4) = o at *
      cases o with
      | none =>
        simp only [Option.isSome_none]
        go_wp2_with fail
        go_roundg (gk - 1)
        case rel => exact ⟨q - 1, A, c, l, rfl, by go_num, by omega, hide (by have := HGK.out; omega), hide ⟨HR.out, HO.out, HS.out.more (by omega), HG.out⟩⟩
        case measure => have := HGK.out; omega
      | some r =>
        simp only [Option.isSome_some]
        obtain ⟨A2, c2, rfl, -⟩ := own_open HO2.out
        have HR2 : Hid (r.length ≤ 32 ∧ ∀ x ∈ r, x.1.size ≤ 20) := hide ⟨Nat.le_trans HAR.out.1 (by omega), HAR.out.2⟩
        go_wp2_with fail
        go_roundg (gk - 1)
        case rel => exact ⟨q - 1, A2, c2, r, rfl, by go_num, by omega, hide (by have := HGK.out; omega), hide ⟨HR2.out, HO2.out, HS.out.more (by omega), HG.out⟩⟩
        case measure => have := HGK.out; omega
    · obtain rfl : q = 0 := by omega
      go_wp2_with fail
      refine (one_any d (N + 2 + 20 * (8 - 0)) 16 wr hd HT.out.2.2.1 (by omega) (by omega)).mono ?_
      rintro e w4 ⟨⟨b, rfl⟩, hs, hg⟩
      replace HT := hide (HT.out.draw HD.out.1 hs hg)
      clear hs hg
      go_upto_if 25 with fail
      go_cut [3] (fun s wx => ∃ (A : Option Addr) (c : Nat) (l : List StrT), s = .slice A l.length c ∧ Hid (SxAt d w A c l (N + 400) wx))
      case first =>
        cases b with
        | false =>
          go_wp2_with fail
          go_meet
          exact ⟨A, c, l, rfl, hide (HT.out.more (by omega))⟩
        | true =>
          go_wp2_with fail
          refine (pick_any d (N + 2 + 20 * (8 - 0) + 2) 2 w4 hd HT.out.2.2.1 (by omega) (by omega)).mono ?_
          rintro e w5 ⟨⟨x, rfl, hx0, hx1, hx2⟩, hs, hg⟩
          have HT2 : Hid (SxAt d w none 0 [] (N + 200) w5) := hide ⟨⟨by simp, by simp⟩, World.ownsRow_nil _ _ _ _, hs.more (by omega), grown_trans HT.out.2.2.2 hg⟩
          obtain ⟨m, hm⟩ := Int.eq_ofNat_of_zero_le (show 0 ≤ 30 + x by omega)
          have hm1 : m ≤ 31 := by omega
          clear hs hg HT
          go_upto_region 11 with fail
          clear hx0 hx1 hx2 hm
          go_loopg [3] m (fun g tl wr => ∃ (A : Option Addr) (c : Nat) (l : List StrT), tl = .slice A l.length c ∧ l.length ≤ m ∧ Hid (m ≤ g + l.length) ∧ Hid (SxAt d w A c l (N + 200 + 2 * l.length) wr))
          case atStart => exact ⟨none, 0, [], rfl, by simp, hide (by simp), HT2⟩
          case round =>
            clear HT2
            obtain ⟨A, c, l, rfl, hlm, HGK, HT⟩ := hrel
            obtain ⟨k, hk⟩ : ∃ k, k = l.length := ⟨_, rfl⟩
            rw [← hk] at HGK HT hlm ⊢
            have HK := hide hk
            clear hk
            by_cases hlt : k < m
            · go_wp2_with fail
              refine (pick_any d (N + 200 + 2 * k) 2 wr hd HT.out.2.2.1 (by omega) (by omega)).mono ?_
              rintro e w6 ⟨⟨y, rfl, hy0, hy1, hy2⟩, hs, hg⟩
              replace HT := hide (HT.out.draw HD.out.1 hs hg)
              have hy3 : y ≤ 1 := by omega
              clear hs hg hy1 hy2
              have hk31 : k ≤ 30 := by omega
              skip
              obtain ⟨nd, hnd, hnd1⟩ : ∃ nd : Nat, Int.tmod (k : Int) 14 = (nd : Int) ∧ nd ≤ 14 := ⟨k % 14, by rw [Int.tmod_eq_emod_of_nonneg (by omega)]; omega, by omega⟩
              have HBA := hide (Row.new w6 #[.string ⟨#[111, 97, 107]⟩, .int .i64 (3 * (k : Int) + 1), .int .i64 (3 * (k : Int) + 1 + y), .int .i64 (nd : Int), .int .i64 1] 39)
              have HOA := hide (World.ownsRow.alloc HT.out.2.1 (.cells #[.string ⟨#[111, 97, 107]⟩, .int .i64 (3 * (k : Int) + 1), .int .i64 (3 * (k : Int) + 1 + y), .int .i64 (nd : Int), .int .i64 1] 39))
              have HGA := hide (grown_new HT.out.2.2.2 (.cells #[.string ⟨#[111, 97, 107]⟩, .int .i64 (3 * (k : Int) + 1), .int .i64 (3 * (k : Int) + 1 + y), .int .i64 (nd : Int), .int .i64 1] 39))
              have HSA := hide (HT.out.2.2.1.alloc (.cells #[.string ⟨#[111, 97, 107]⟩, .int .i64 (3 * (k : Int) + 1), .int .i64 (3 * (k : Int) + 1 + y), .int .i64 (nd : Int), .int .i64 1] 39))
              have HNA := hide HT.out.1
              clear HT
              rw [← HK.out] at HOA
              have HSZ := hide (show w.heap.size ≤ (w6.alloc (.cells #[.string ⟨#[111, 97, 107]⟩, .int .i64 (3 * (k : Int) + 1), .int .i64 (3 * (k : Int) + 1 + y), .int .i64 (nd : Int), .int .i64 1] 39)).heap.size from HGA.out.size)
              go_wp2_with (at_builtin; refine wpList_append_any rfl (.tmp 35) (.tmp 48) 23 rfl w.heap.size 39 i0 _ 5 48 Tryd.underlying23 Hi.out Hz.out.1 Hz.out.2.1 Hz.out.2.2 rfl (by decide) (.slice A k c) k (l.flatMap scells) rfl HOA.out (some ⟨w6.heap.size, 0, none⟩) 1 1 (scells (⟨#[111, 97, 107]⟩, 3 * (k : Int) + 1, 3 * (k : Int) + 1 + y, (nd : Int), 1)) rfl rfl (fun e => by cases e) (fun ad e j u hu => by cases e; rw [Addr.add_lit, Nat.zero_add]; exact HBA.out.2.1 j u hu) (fun u hu => scells_one [(⟨#[111, 97, 107]⟩, 3 * (k : Int) + 1, 3 * (k : Int) + 1 + y, (nd : Int), 1)] u (by simpa using hu)) (by unfold maxLen; omega) (by omega) HSZ.out ?_)
              intro v7 w7 hown hgrow
              have HO7 : Hid (w7.ownsRow w.heap.size 39 5 v7 (k + 1) ((l ++ [((⟨#[111, 97, 107]⟩ : ByteArray), 3 * (k : Int) + 1, 3 * (k : Int) + 1 + y, (nd : Int), (1 : Int))]).flatMap scells)) := hide (by rw [List.flatMap_append]; simpa using hown)
              have HS7 := hide (HSA.out.grown hgrow (fun j hj => by have h1 := (HOA.out.lt _ hj).1; have h2 := HD.out; omega))
              have HG7 : Hid (w.grownBy w7 (some d.g)) := hide (grown_under HGA.out hgrow (fun j hj => (HOA.out.lt _ hj).1))
              clear hown hgrow HOA HBA HSZ HSA HGA
              obtain ⟨A7, c7, rfl, -⟩ := own_open HO7.out
              have HLL : Hid ((l ++ [((⟨#[111, 97, 107]⟩ : ByteArray), 3 * (k : Int) + 1, 3 * (k : Int) + 1 + y, (nd : Int), (1 : Int))]).length = k + 1) := hide (by rw [List.length_append, ← HK.out]; rfl)
              have HNN : Hid (∀ x ∈ l ++ [((⟨#[111, 97, 107]⟩ : ByteArray), 3 * (k : Int) + 1, 3 * (k : Int) + 1 + y, (nd : Int), (1 : Int))], x.1.size ≤ 20) := hide (fun x hx => by
                rcases List.mem_append.1 hx with hx | hx
                · exact HNA.out.2 x hx
                · rw [List.mem_singleton.1 hx]; exact (by decide : (3 : Nat) ≤ 20))
              generalize l ++ [((⟨#[111, 97, 107]⟩ : ByteArray), 3 * (k : Int) + 1, 3 * (k : Int) + 1 + y, (nd : Int), (1 : Int))] = l7 at *
              go_wp2_with fail
              go_roundg (gk - 1)
              case rel => exact ⟨A7, c7, l7, by rw [HLL.out], by rw [HLL.out]; omega, hide (by rw [HLL.out]; have := HGK.out; omega), hide ⟨⟨by rw [HLL.out]; omega, HNN.out⟩, by rw [HLL.out]; exact HO7.out, HS7.out.more (by rw [HLL.out]; omega), HG7.out⟩⟩
              case measure => have := HGK.out; omega
            · have hkm : ((k : Int) < (m : Int)) = False := by simp; omega
              go_wp2_with fail
              go_meet
              exact ⟨A, c, l, by rw [← HK.out], hide (HT.out.more (by omega))⟩
      clear HT
      obtain ⟨A, c, l, rfl, HT⟩ := hcut
      obtain ⟨k, hk⟩ : ∃ k, k = l.length := ⟨_, rfl⟩
      have HK := hide hk
      rw [← hk]
      clear hk
      cases hz : decide (0 < k) with
      | false =>
        have hz0 : k = 0 := by simpa using hz
        subst hz0
        go_wp2_with fail
        go_ret
        exact ⟨⟨A, c, l, by rw [← HK.out]; rfl, HT.out.1.1, HT.out.1.2, HT.out.2.1⟩, HT.out.2.2.1.more (by omega), HT.out.2.2.2⟩
      | true =>
        have hz0 : 0 < k := by simpa using hz
        go_wp2_with fail
        refine (one_any d (N + 400) 20 _ hd HT.out.2.2.1 (by omega) (by omega)).mono ?_
        rintro e w7 ⟨⟨b2, rfl⟩, hs, hg⟩
        replace HT := hide (HT.out.draw HD.out.1 hs hg)
        clear hs hg
        cases b2 with
        | false =>
          go_wp2_with fail
          go_ret
          exact ⟨⟨A, c, l, by rw [← HK.out]; rfl, HT.out.1.1, HT.out.1.2, HT.out.2.1⟩, HT.out.2.2.1.more (by omega), HT.out.2.2.2⟩
        | true =>
          go_wp2_with fail
          refine (pick_any d (N + 402) (k : Int) _ hd HT.out.2.2.1 (by omega) (by have := HT.out.1.1; have := HK.out; omega)).mono ?_
          rintro e w8 ⟨⟨x, rfl, hx0, hx1, hx2⟩, hs, hg⟩
          replace HT := hide (HT.out.draw HD.out.1 hs hg)
          obtain ⟨j, rfl⟩ := Int.eq_ofNat_of_zero_le hx0
          have hjk : j < k := by omega
          clear hs hg hx0 hx1 hx2
          go_wp2_with fail
          refine (stretch_any d (N + 404) _ hd HT.out.2.2.1 (by omega)).mono ?_
          rintro e w9 ⟨⟨s0, s1, s2, s3, s4, rfl, hsz, -⟩, hs, hg⟩
          replace HT := hide (HT.out.draw HD.out.1 hs hg)
          have HSZ := hide hsz
          clear hs hg hsz
          have HO := HT.out.2.1
          rw [← HK.out] at HO
          obtain ⟨g, cap, hv, hg1, hg2, -⟩ := own_some HO (by omega)
          simp only [Value.slice.injEq, true_and] at hv
          obtain ⟨rfl, rfl⟩ := hv
          have HON := hide HO
          have HGG := hide (And.intro hg1 hg2)
          have HLN : Hid ((l.flatMap scells).length = k * 5) := hide (by rw [flat_length scells 5 (fun _ => rfl), ← HK.out, Nat.mul_comm])
          obtain ⟨u0, hu0⟩ : ∃ u, (l.flatMap scells)[j * 5]? = some u := ⟨_, List.getElem?_eq_getElem (by have := HLN.out; omega)⟩
          obtain ⟨u1, hu1⟩ : ∃ u, (l.flatMap scells)[j * 5 + 1]? = some u := ⟨_, List.getElem?_eq_getElem (by have := HLN.out; omega)⟩
          obtain ⟨u2, hu2⟩ : ∃ u, (l.flatMap scells)[j * 5 + 2]? = some u := ⟨_, List.getElem?_eq_getElem (by have := HLN.out; omega)⟩
          obtain ⟨u3, hu3⟩ : ∃ u, (l.flatMap scells)[j * 5 + 3]? = some u := ⟨_, List.getElem?_eq_getElem (by have := HLN.out; omega)⟩
          obtain ⟨u4, hu4⟩ : ∃ u, (l.flatMap scells)[j * 5 + 4]? = some u := ⟨_, List.getElem?_eq_getElem (by have := HLN.out; omega)⟩
          have c0 := (HO.cellAt (j * 5) (by have := HLN.out; omega)).trans hu0
          have c1 := (HO.cellAt (j * 5 + 1) (by have := HLN.out; omega)).trans hu1
          have c2 := (HO.cellAt (j * 5 + 2) (by have := HLN.out; omega)).trans hu2
          have c3 := (HO.cellAt (j * 5 + 3) (by have := HLN.out; omega)).trans hu3
          have c4 := (HO.cellAt (j * 5 + 4) (by have := HLN.out; omega)).trans hu4
          have f0 := HO.frozenAt (j * 5)
          have f1 := HO.frozenAt (j * 5 + 1)
          have f2 := HO.frozenAt (j * 5 + 2)
          have f3 := HO.frozenAt (j * 5 + 3)
          have f4 := HO.frozenAt (j * 5 + 4)
          have HS := hide (World.ownsRow.stored ((World.ownsRow.stored ((World.ownsRow.stored ((World.ownsRow.stored ((World.ownsRow.stored HO (j * 5) (.string s0)).1) (j * 5 + 1) (.int .i64 s1)).1) (j * 5 + 2) (.int .i64 s2)).1) (j * 5 + 3) (.int .i64 s3)).1) (j * 5 + 4) (.int .i64 s4)).1
          have HSE := hide (sx_set (l := l) (k := j) (by rw [← HK.out]; exact hjk) s0 s1 s2 s3 s4)
          have hj0 : (0 : Int) ≤ (j : Int) := by omega
          have hj1 : (j : Int) < (k : Int) := by omega
          have hgd : g ≠ d.g := by have := HD.out; omega
          have HPU := hide (fun i u (W : World) (h : d.st (N + 424) W ∧ w.grownBy W (some d.g)) => And.intro (h.1.put (p := ⟨g, i, none⟩) (by have := HGG.out; have := HD.out; dsimp only; omega) hgd u) (grown_put h.2 (p := ⟨g, i, none⟩) (by have := HGG.out; dsimp only; omega) u))
          have HXX := hide (HPU.out (j * 5 + 4) (.int .i64 s4) _ (HPU.out (j * 5 + 3) (.int .i64 s3) _ (HPU.out (j * 5 + 2) (.int .i64 s2) _ (HPU.out (j * 5 + 1) (.int .i64 s1) _ (HPU.out (j * 5) (.string s0) _ ⟨HT.out.2.2.1, HT.out.2.2.2⟩)))))
          have HNM : Hid (∀ x ∈ l.set j (s0, s1, s2, s3, s4), x.1.size ≤ 20) := hide (fun x hx => by
            rcases List.mem_or_eq_of_mem_set hx with hx | hx
            · exact HT.out.1.2 x hx
            · rw [hx]; exact HSZ.out)
          have HKL : Hid (k ≤ 32) := hide (by have := HT.out.1.1; have := HK.out; omega)
          clear HO HT HON hu0 hu1 hu2 hu3 hu4 hg1 hg2 HPU
          go_wp2_with fail
          go_ret
          refine ⟨⟨some ⟨g, 0, none⟩, c, l.set j (s0, s1, s2, s3, s4), ?_, ?_, HNM.out, ?_⟩, HXX.out.1.more (by omega), HXX.out.2⟩
          · rw [List.length_set, ← HK.out]; rfl
          · rw [List.length_set, ← HK.out]; exact HKL.out
          · rw [List.length_set, ← HK.out, ← HSE.out]; exact HS.out
end Go.Proofs.YtpkhdmhfkmajcaaDoor
namespace Go.Proofs.YtpkhdmhfkmajcaaDoor
open Go.RowKit
set_option linter.unusedVariables false
set_option linter.unusedSimpArgs false

theorem drw_start (w : World) (A : Option Addr) (n c : Nat) (code : List Int) (t : TypeId) (hn : n = code.length) (hm : n ≤ maxLen) (hb : ∀ x ∈ code, 0 ≤ x ∧ x ≤ 255) (hr : Rd w A (code.map (Value.int .u8))) :
    (Drw.mk w w.heap.size A n c code).ok ∧ (Drw.mk w w.heap.size A n c code).st 0 (w.alloc (.cells #[.slice A n c, .int .i64 0, .int .u64 0] t)) :=
  ⟨⟨hn, hm, hb, hr, Nat.le_refl _⟩, (Below.refl _ _).alloc (Nat.le_refl _) _, 0, 0, Nat.le_refl _, ⟨by omega, by omega⟩, Row.new w _ t⟩
/-- Drawn stretches, as they are handed on. -/
def Strs (w w' : World) (A : Option Addr) (c : Nat) (l : List StrT) : Prop := (l.length ≤ 32 ∧ ∀ x ∈ l, x.1.size ≤ 20) ∧ w'.ownsRow w.heap.size 39 5 (.slice A l.length c) l.length (l.flatMap scells)
theorem Strs.below {w w1 w2 : World} {A : Option Addr} {c : Nat} {l : List StrT} (h : Strs w w1 A c l) (hb : Below w1.heap.size w1 w2) : Strs w w2 A c l := ⟨h.1, own_below h.2 hb⟩
/-- Stretches and a road. -/
def StrsRoad (w : World) (e : Ending) (w' : World) : Prop := (∃ (A : Option Addr) (c : Nat) (l : List StrT) (r : ByteArray), e = .returned (.tuple #[.slice A l.length c, .string r]) ∧ r.size ≤ 20 ∧ Strs w w' A c l) ∧ Below w.heap.size w w'
/-- Stretches, a road and a house. -/
def StrsHouse (w : World) (e : Ending) (w' : World) : Prop := (∃ (A : Option Addr) (c : Nat) (l : List StrT) (r : ByteArray) (h : Int), e = .returned (.tuple #[.slice A l.length c, .string r, .int .i64 h]) ∧ r.size ≤ 20 ∧ Strs w w' A c l) ∧ Below w.heap.size w w'

set_option maxHeartbeats 4000000 in
theorem DrawHousesOf_any (A : Option Addr) (n c : Nat) (code : List Int) (w : World) (hn : n = code.length) (hm : n ≤ maxLen) (hb : ∀ x ∈ code, 0 ≤ x ∧ x ≤ 255) (hr : Rd w A (code.map (Value.int .u8))) :
    Calls Tryd.prog 18 #[.slice A n c] w (StrsRoad w) := by
  have HD := hide (drw_start w A n c code 50 hn hm hb hr)
  clear hn hm hb hr
  obtain ⟨d, hd⟩ : ∃ d, d = Drw.mk w w.heap.size A n c code := ⟨_, rfl⟩
  rw [← hd] at HD
  have HGE := hide (show w.heap.size = d.g by rw [hd])
  have HWE := hide (show d.W0 = w by rw [hd])
  clear hd
  go_enter Tryd.func18, Tryd.ntmps18
  go_wp2_with fail
  rw [HGE.out]
  refine (stretches_any d 0 _ HD.out.1 HD.out.2 (by omega)).mono ?_
  rintro e w1 ⟨⟨A1, c1, l, rfl, hl, hx, ho⟩, hs, hg1⟩
  have HS1 := hide hs
  have HL := hide (And.intro hl hx)
  have HO1 := hide ho
  have HG0 := hide HD.out.2.lt
  clear hs hg1 hl ho hx
  go_wp2_with fail
  refine (roadName_any d 1000 _ HD.out.1 (HS1.out.more (by omega)) (by omega)).mono ?_
  rintro e w2 ⟨⟨r, rfl, hr⟩, hs, hg⟩
  have HO2 := hide (own_far HO1.out hg HG0.out)
  have HB : Hid (Below w.heap.size w w2) := hide (by have := hs.1; rwa [HWE.out] at this)
  have HR := hide hr
  clear hs hg hr
  go_wp2
  refine bodyPost_ret (v := .tuple #[.slice A1 l.length c1, .string r]) (by simp [results, Tryd.results18, go_sem, *]) rfl ?_
  exact ⟨⟨A1, c1, l, r, rfl, HR.out, HL.out, own_le HO2.out (by simp)⟩, HB.out⟩

set_option maxHeartbeats 4000000 in
theorem DrawSimilarRoads_any (A : Option Addr) (n c : Nat) (code : List Int) (w : World) (hn : n = code.length) (hm : n ≤ maxLen) (hb : ∀ x ∈ code, 0 ≤ x ∧ x ≤ 255) (hr : Rd w A (code.map (Value.int .u8))) :
    Calls Tryd.prog 4 #[.slice A n c] w (StrsRoad w) := by
  have Q := hide (DrawHousesOf_any A n c code w hn hm hb hr)
  clear hn hm hb hr
  go_enter Tryd.func4, Tryd.ntmps4
  go_wp2_with fail
  refine Q.out.mono ?_
  rintro e w2 ⟨⟨A1, c1, l, r, rfl, hr, ho⟩, hb⟩
  have HO := hide (And.intro hr (And.intro ho hb))
  clear hr ho hb
  go_wp2
  refine bodyPost_ret (v := .tuple #[.slice A1 l.length c1, .string r]) (by simp [results, Tryd.results4, go_sem, *]) rfl ?_
  exact ⟨⟨A1, c1, l, r, rfl, HO.out.1, HO.out.2.1⟩, HO.out.2.2⟩
set_option maxRecDepth 100000 in
set_option maxHeartbeats 8000000 in
theorem DrawFindAddress_any (A : Option Addr) (n c : Nat) (code : List Int) (w : World) (hn : n = code.length) (hm : n ≤ maxLen) (hb : ∀ x ∈ code, 0 ≤ x ∧ x ≤ 255) (hr : Rd w A (code.map (Value.int .u8))) :
    Calls Tryd.prog 25 #[.slice A n c] w (StrsHouse w) := by
  have HD := hide (drw_start w A n c code 50 hn hm hb hr)
  clear hn hm hb hr
  obtain ⟨d, hd⟩ : ∃ d, d = Drw.mk w w.heap.size A n c code := ⟨_, rfl⟩
  rw [← hd] at HD
  have HGE := hide (show w.heap.size = d.g by rw [hd])
  have HWE := hide (show d.W0 = w by rw [hd])
  clear hd
  go_enter Tryd.func25, Tryd.ntmps25
  go_wp2_with fail
  rw [HGE.out]
  refine (stretches_any d 0 _ HD.out.1 HD.out.2 (by omega)).mono ?_
  rintro e w1 ⟨⟨A1, c1, l, rfl, hl, hx, ho⟩, hs, hg1⟩
  have HS := hide hs
  have HL := hide (And.intro hl hx)
  have HO := hide ho
  have HG0 := hide HD.out.2.lt
  clear hs hg1 hl ho hx
  obtain ⟨k, hk⟩ : ∃ k, k = l.length := ⟨_, rfl⟩
  have HK := hide hk
  rw [← hk]
  clear hk
  cases hz : decide (0 < k) with
  | false =>
    have hz0 : k = 0 := by simpa using hz
    subst hz0
    clear hz
    go_wp2_with fail
    refine (roadName_any d 1000 _ HD.out.1 (HS.out.more (by omega)) (by omega)).mono ?_
    rintro e w3 ⟨⟨r, rfl, hr⟩, hs, hg⟩
    replace HO := hide (own_far HO.out hg HG0.out)
    replace HS := hide hs
    have HR := hide hr
    clear hs hg hr
    go_wp2_with fail
    refine (houseOf_any d 1004 _ HD.out.1 HS.out (by omega)).mono ?_
    rintro e w4 ⟨⟨h, rfl, -⟩, hs, hg⟩
    replace HO := hide (own_far HO.out hg HG0.out)
    have HB : Hid (Below w.heap.size w w4) := hide (by have := hs.1; rwa [HWE.out] at this)
    clear hs hg
    go_wp2
    refine bodyPost_ret (v := .tuple #[.slice A1 0 c1, .string r, .int .i64 h]) (by simp [results, Tryd.results25, go_sem, *]) rfl ?_
    exact ⟨⟨A1, c1, l, r, h, by rw [← HK.out], HR.out, HL.out, own_le HO.out (by simp)⟩, HB.out⟩
  | true =>
    have hz0 : 0 < k := by simpa using hz
    clear hz
    go_wp2_with fail
    refine (one_any d 1000 4 _ HD.out.1 (HS.out.more (by omega)) (by omega) (by omega)).mono ?_
    rintro e w2 ⟨⟨b, rfl⟩, hs, hg⟩
    replace HO := hide (own_far HO.out hg HG0.out)
    replace HS := hide hs
    clear hs hg
    cases b with
    | true =>
      go_wp2_with fail
      refine (roadName_any d 1002 _ HD.out.1 HS.out (by omega)).mono ?_
      rintro e w3 ⟨⟨r, rfl, hr⟩, hs, hg⟩
      replace HO := hide (own_far HO.out hg HG0.out)
      replace HS := hide hs
      have HR := hide hr
      clear hs hg hr
      go_wp2_with fail
      refine (houseOf_any d 1006 _ HD.out.1 HS.out (by omega)).mono ?_
      rintro e w4 ⟨⟨h, rfl, -⟩, hs, hg⟩
      replace HO := hide (own_far HO.out hg HG0.out)
      have HB : Hid (Below w.heap.size w w4) := hide (by have := hs.1; rwa [HWE.out] at this)
      clear hs hg
      go_wp2
      refine bodyPost_ret (v := .tuple #[.slice A1 k c1, .string r, .int .i64 h]) (by simp [results, Tryd.results25, go_sem, *]) rfl ?_
      exact ⟨⟨A1, c1, l, r, h, by rw [HK.out], HR.out, HL.out, own_le HO.out (by simp)⟩, HB.out⟩
    | false =>
      go_wp2_with fail
      refine (pick_any d 1002 (k : Int) _ HD.out.1 HS.out (by omega) (by have := HL.out.1; have := HK.out; omega)).mono ?_
      rintro e w3 ⟨⟨x, rfl, hx0, hx1, hx2⟩, hs, hg⟩
      replace HO := hide (own_far HO.out hg HG0.out)
      replace HS := hide hs
      obtain ⟨j, rfl⟩ := Int.eq_ofNat_of_zero_le hx0
      have hjk : j < k := by omega
      clear hs hg hx0 hx1 hx2
      obtain ⟨⟨x0, x1, x2, x3, x4⟩, hx⟩ : ∃ x, l[j]? = some x := ⟨_, List.getElem?_eq_getElem (by rw [← HK.out]; exact hjk)⟩
      have HX := hide (show x0.size ≤ 20 from HL.out.2 _ (List.mem_of_getElem? hx))
      obtain ⟨b, off, rfl, hbs, c0, c1', c2, c3, c4⟩ := (own_rd HO.out).get5 (fun _ => rfl) hx rfl
      dsimp only at c0 c1' c2 c3 c4
      have hj0 : (0 : Int) ≤ (j : Int) := by omega
      have hj1 : (j : Int) < (k : Int) := by omega
      clear hx
      go_upto_region 5 with fail
      have HS3 := HS
      have HBX := hide (Row.new w3 #[.string x0, .int .i64 x1, .int .i64 x2, .int .i64 x3, .int .i64 x4] 39)
      replace HS := hide (HS.out.alloc (.cells #[.string x0, .int .i64 x1, .int .i64 x2, .int .i64 x3, .int .i64 x4] 39))
      replace HO := hide (World.ownsRow.alloc HO.out (.cells #[.string x0, .int .i64 x1, .int .i64 x2, .int .i64 x3, .int .i64 x4] 39))
      have tg : w3.heap.size ≠ d.g := by have := HS3.out.lt; omega
      clear c0 c1' c2 c3 c4 hbs
      generalize w3.alloc (.cells #[.string x0, .int .i64 x1, .int .i64 x2, .int .i64 x3, .int .i64 x4] 39) = w4 at *
      generalize w3.heap.size = tb at *
      have r0 := HBX.out.2.1 0 _ rfl
      have r1 := HBX.out.2.1 1 _ rfl
      have r2 := HBX.out.2.1 2 _ rfl
      have rz := HBX.out.1
      obtain ⟨lo, hlo⟩ : ∃ lo, IntKind.i64.wrap (x1 - 1) = lo := ⟨_, rfl⟩
      go_wp2_with fail
      refine wpAnyS_start (fun w' => ∃ n : LaterX w4 d.g, w' = n.w) (n := 22) (by kernel_rfl) rfl rfl ?_
      refine wpAnyS_take_allE [0, 1, 2, 3, 4, 5, 6, 7, 8, 9, 10, 11, 12, 13, 14] 7 rfl (by kernel_rfl) (by intro c a d v w h; cases d <;> exact h) (by kernel_rfl) (by simp; rfl) rfl (laterX_drew _ _) ?_
      repeat (go_big_quiet_step (fail))
      refine wpQuiet_nil ?_
      have HLX : Hid (∃ n : LaterX w4 d.g, w4.drew = n.w) := hide (laterX_drew _ _)
      have HG4 : Hid (w4.grownBy w4.drew (some d.g)) := hide (grown_of_below (Below.refl _ _).drew _)
      replace HS := hide HS.out.drew
      replace HO := hide (own_below HO.out (Below.refl _ _).drew)
      clear r0 r1 r2 rz hlo
      generalize w4.drew = V0 at *
      refine wpAnyS_only 15 (by kernel_rfl) (by simp; rfl) rfl rfl (fun K hK => ?_)
      go_wp2_with fail
      refine (l1Least_any x2 999 _).mono ?_
      rintro e V1 ⟨rfl, rfl⟩
      generalize min x2 999 = v
      obtain ⟨hi, hhi⟩ : ∃ hi, IntKind.i64.wrap (v + 1) = hi := ⟨_, rfl⟩
      go_wp2_with fail
      refine ⟨laterX_of HG4.out, ?_⟩
      refine wpAnyS_take_allE [16] 5 rfl (by kernel_rfl) (by intro c a d v w h; cases d <;> exact h) (by kernel_rfl) (by simp; rfl) rfl (laterX_of HG4.out) ?_
      repeat (go_big_quiet_step (fail))
      refine wpQuiet_nil ?_
      clear hhi
      refine wpAnyS_only 17 (by kernel_rfl) (by simp; rfl) rfl rfl (fun K hK => ?_)
      have HB5 := hide (Row.new V0 #[.int .i64 x1, .int .i64 x2, .int .i64 x2, .int .i64 lo, .int .i64 hi] 3)
      have HBG : Hid (V0.heap.size ≠ d.g) := hide (by have := HS.out.lt; omega)
      replace HS := hide (HS.out.alloc (.cells #[.int .i64 x1, .int .i64 x2, .int .i64 x2, .int .i64 lo, .int .i64 hi] 3))
      replace HO := hide (World.ownsRow.alloc HO.out (.cells #[.int .i64 x1, .int .i64 x2, .int .i64 x2, .int .i64 lo, .int .i64 hi] 3))
      replace HG4 := hide (grown_new HG4.out (.cells #[.int .i64 x1, .int .i64 x2, .int .i64 x2, .int .i64 lo, .int .i64 hi] 3))
      refine wp_ints5 x1 x2 x2 lo hi (.tmp 33) (.tmp 35) (.tmp 37) (.tmp 40) (.tmp 44) rfl rfl rfl rfl rfl rfl (hK _ _ ⟨laterX_of HG4.out, ?_⟩)
      simp only [Act.put, List.setIfInBounds_toArray, List.set_cons_succ, List.set_cons_zero]
      generalize V0.alloc (.cells #[.int .i64 x1, .int .i64 x2, .int .i64 x2, .int .i64 lo, .int .i64 hi] 3) = V2 at *
      generalize V0.heap.size = lb at *
      refine wpAnyS_only 18 (by kernel_rfl) (by simp; rfl) rfl rfl (fun K hK => ?_)
      go_wp2_with fail
      refine (among_any d 1004 (some ⟨lb, 0, none⟩) 5 5 [x1, x2, x2, lo, hi] _ HD.out.1 HS.out (by omega) rfl (by omega) (by omega) (by exact HB5.out.rd) (fun b o sp e => by injection e with e; injection e with e; have := HBG.out; omega)).mono ?_
      rintro e V3 ⟨⟨z, rfl, -⟩, hs, hg⟩
      replace HO := hide (own_far HO.out hg HG0.out)
      replace HG4 := hide (grown_trans HG4.out hg)
      have HB : Hid (Below w.heap.size w V3) := hide (by have := hs.1; rwa [HWE.out] at this)
      clear hs hg HB5
      go_wp2_with fail
      refine ⟨laterX_of HG4.out, ?_⟩
      refine wpAnyS_take_allE [19, 20, 21] 0 rfl (by kernel_rfl) (by intro c a d v w h; cases d <;> exact h) (by kernel_rfl) (by simp; rfl) rfl (laterX_of HG4.out) ?_
      repeat (go_big_quiet_step (fail))
      refine wpQuiet_nil ?_
      refine wpAnyH_done (by kernel_rfl) ?_ _
      go_wp2
      refine bodyPost_ret (v := .tuple #[.slice (some ⟨b, off, none⟩) k c1, .string x0, .int .i64 z]) (by simp [results, Tryd.results25, go_sem, *]) rfl ?_
      exact ⟨⟨some ⟨b, off, none⟩, c1, l, x0, z, by rw [HK.out], HX.out, HL.out, own_le HO.out (by simp)⟩, HB.out⟩

set_option maxHeartbeats 4000000 in
theorem DrawLikelyAddress_any (A : Option Addr) (n c : Nat) (code : List Int) (w : World) (hn : n = code.length) (hm : n ≤ maxLen) (hb : ∀ x ∈ code, 0 ≤ x ∧ x ≤ 255) (hr : Rd w A (code.map (Value.int .u8))) :
    Calls Tryd.prog 7 #[.slice A n c] w (StrsHouse w) := by
  have Q := hide (DrawFindAddress_any A n c code (w.alloc (.cells #[.slice A n c, .int .i64 0, .int .u64 0] 50)) hn hm hb (hr.alloc _))
  have HD := hide (drw_start w A n c code 50 hn hm hb hr)
  clear hn hm hb hr
  obtain ⟨d, hd⟩ : ∃ d, d = Drw.mk w w.heap.size A n c code := ⟨_, rfl⟩
  rw [← hd] at HD
  have HGE := hide (show w.heap.size = d.g by rw [hd])
  have HWE := hide (show d.W0 = w by rw [hd])
  clear hd
  go_enter Tryd.func7, Tryd.ntmps7
  go_wp2_with fail
  refine Q.out.mono ?_
  rintro e w1 ⟨⟨A1, c1, l, r, h, rfl, hr, ho⟩, hb⟩
  have HR := hide hr
  have HO := hide ho
  have HS := hide (HD.out.2.below hb)
  have HZ := hide (show w.heap.size ≤ (w.alloc (.cells #[.slice A n c, .int .i64 0, .int .u64 0] 50)).heap.size by simp)
  have HG0 := hide HD.out.2.lt
  clear hr ho hb Q
  go_wp2_with fail
  rw [HGE.out]
  refine (one_any d 0 2 _ HD.out.1 HS.out (by omega) (by omega)).mono ?_
  rintro e w2 ⟨⟨b, rfl⟩, hs, hg⟩
  have HO2 : Hid (w2.ownsRow w.heap.size 39 5 (.slice A1 l.length c1) l.length (l.flatMap scells)) := hide (own_le (own_far HO.out.2 hg HG0.out) HZ.out)
  have HL := hide HO.out.1
  have HO3 := hide (own_far HO.out.2 hg HG0.out)
  replace HS := hide hs
  clear hs hg HO
  cases b with
  | false =>
    have HB : Hid (Below w.heap.size w w2) := hide (by have := HS.out.1; rwa [HWE.out] at this)
    go_wp2
    refine bodyPost_ret (v := .tuple #[.slice A1 l.length c1, .string r, .int .i64 h]) (by simp [results, Tryd.results7, go_sem, *]) rfl ?_
    exact ⟨⟨A1, c1, l, r, h, rfl, HR.out, HL.out, HO2.out⟩, HB.out⟩
  | true =>
    go_wp2_with fail
    refine (roadName_any d 2 _ HD.out.1 HS.out (by omega)).mono ?_
    rintro e w3 ⟨⟨r2, rfl, hr2⟩, hs, hg⟩
    replace HO3 := hide (own_far HO3.out hg HG0.out)
    have HB : Hid (Below w.heap.size w w3) := hide (by have := hs.1; rwa [HWE.out] at this)
    have HR2 := hide hr2
    clear hs hg hr2 HO2
    go_wp2
    refine bodyPost_ret (v := .tuple #[.slice A1 l.length c1, .string r2, .int .i64 h]) (by simp [results, Tryd.results7, go_sem, *]) rfl ?_
    exact ⟨⟨A1, c1, l, r2, h, rfl, HR2.out, HL.out, own_le HO3.out HZ.out⟩, HB.out⟩

end Go.Proofs.YtpkhdmhfkmajcaaDoor
namespace Go.Proofs.YtpkhdmhfkmajcaaDoor
open Go.RowKit
set_option linter.unusedVariables false
set_option linter.unusedSimpArgs false

set_option maxRecDepth 100000 in
set_option maxHeartbeats 8000000 in
theorem DrawParseAddress_any (A : Option Addr) (n c : Nat) (code : List Int) (w : World) (hn : n = code.length) (hm : n ≤ maxLen) (hb : ∀ x ∈ code, 0 ≤ x ∧ x ≤ 255) (hr : Rd w A (code.map (Value.int .u8))) :
    Calls Tryd.prog 10 #[.slice A n c] w fun e w' => (∃ s : ByteArray, e = .returned (.string s) ∧ s.size ≤ 4000) ∧ Below w.heap.size w w' := by
  have HD := hide (drw_start w A n c code 50 hn hm hb hr)
  clear hn hm hb hr
  obtain ⟨d, hd⟩ : ∃ d, d = Drw.mk w w.heap.size A n c code := ⟨_, rfl⟩
  rw [← hd] at HD
  have HGE := hide (show w.heap.size = d.g by rw [hd])
  have HWE := hide (show d.W0 = w by rw [hd])
  clear hd
  go_enter Tryd.func10, Tryd.ntmps10
  go_wp2_with fail
  rw [HGE.out]
  refine (of_lit d 0 [⟨#[109, 105, 108, 108, 32, 53]⟩, ⟨#[111, 97, 107, 32, 57, 57, 57]⟩, ⟨#[101, 108, 109, 32, 49]⟩, ⟨#[109, 105, 108, 108]⟩, ⟨#[109, 105, 108, 108, 32, 48, 53]⟩, ⟨#[109, 105, 108, 108, 32, 49, 48, 48, 48]⟩, ⟨#[111, 97, 107, 32, 48]⟩, ⟨#[32, 53]⟩, ⟨#[]⟩, ⟨#[77, 105, 108, 108, 32, 53]⟩, ⟨#[97, 32, 98, 32, 53]⟩] _ _ (by have := HGE.out; simp; omega) HD.out.1 HD.out.2 (by omega) (by simp) (by simp)).mono ?_
  rintro e w1 ⟨⟨v, rfl, hv⟩, hs, hg⟩
  have HV : Hid (v.size ≤ 20) := hide (by
    simp only [List.mem_cons, List.not_mem_nil, or_false] at hv
    rcases hv with rfl | rfl | rfl | rfl | rfl | rfl | rfl | rfl | rfl | rfl | rfl <;> decide)
  have HS := hide hs
  clear hv hs hg
  go_wp2_with fail
  refine (one_any d 2 4 _ HD.out.1 HS.out (by omega) (by omega)).mono ?_
  rintro e w2 ⟨⟨b, rfl⟩, hs, hg⟩
  replace HS := hide hs
  clear hs hg
  cases b with
  | false =>
    have HB : Hid (Below w.heap.size w w2) := hide (by have := HS.out.1; rwa [HWE.out] at this)
    go_wp2
    go_ret
    exact ⟨⟨v, rfl, by have := HV.out; omega⟩, HB.out⟩
  | true =>
    go_wp2_with fail
    refine (spoilt_any d 4 v ⟨#[109, 105, 108, 32, 48, 53, 57]⟩ _ HD.out.1 HS.out (by omega) (by have := HV.out; omega) (by decide) (by decide)).mono ?_
    rintro e w4 ⟨⟨u, rfl, hu⟩, hs, hg⟩
    have HB : Hid (Below w.heap.size w w4) := hide (by have := hs.1; rwa [HWE.out] at this)
    clear hs hg
    go_wp2
    go_ret
    exact ⟨⟨u, rfl, by have := HV.out; omega⟩, HB.out⟩
end Go.Proofs.YtpkhdmhfkmajcaaDoor

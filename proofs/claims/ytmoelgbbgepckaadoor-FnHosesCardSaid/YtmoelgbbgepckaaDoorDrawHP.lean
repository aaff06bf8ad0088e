/- Draws of the hose chapter: lines, hoses, texts. -/
import Derived.Test.YtmoelgbbgepckaaDoorDrawHB
import Derived.Test.YtmoelgbbgepckaaDoorDrawSp
import Derived.Test.YtmoelgbbgepckaaDoorHoseU
namespace Go.Proofs.YtmoelgbbgepckaaDoor
open Go.RowKit
set_option linter.unusedVariables false
set_option linter.unusedSimpArgs false

/-- A drawn line, as it is handed on. -/
def DrwL (w : World) (v : Value) (w' : World) : Prop := ∃ (B : Option Addr) (m k : Nat) (hs : List (Int × Int)), v = .slice B m k ∧ m = hs.length ∧ m ≤ 13 ∧ Rd w' B (hs.flatMap hcells)

set_option maxHeartbeats 4000000 in
theorem DrawGreatestFlow_any (A : Option Addr) (n c : Nat) (code : List Int) (w : World) (hn : n = code.length) (hm : n ≤ maxLen) (hb : ∀ x ∈ code, 0 ≤ x ∧ x ≤ 255) (hr : Rd w A (code.map (Value.int .u8))) :
    Calls Tryd.prog 19 #[.slice A n c] w fun e w' => (∃ (B : Option Addr) (m k : Nat) (hs : List (Int × Int)) (f : Int), e = .returned (.tuple #[.slice B m k, .int .i64 f]) ∧ m = hs.length ∧ m ≤ 13 ∧ Rd w' B (hs.flatMap hcells) ∧ I64 f) ∧ Below w.heap.size w w' := by
  have HD := hide (drw_new w A n c code 95 hn hm hb hr)
  clear hn hm hb hr
  obtain ⟨d, hd⟩ : ∃ d, d = Drw.mk w w.heap.size A n c code := ⟨_, rfl⟩
  rw [← hd] at HD
  have HGE := hide (show w.heap.size = d.g by rw [hd])
  have HWE := hide (show d.W0 = w by rw [hd])
  clear hd
  go_enter Tryd.func19, Tryd.ntmps19
  go_wp2_with fail
  rw [HGE.out]
  have HG0 := hide HD.out.2.lt
  refine (hoses_any d 0 _ HD.out.1 HD.out.2 (by omega)).mono ?_
  rintro e w1 ⟨⟨v, hs', rfl, hl, ho⟩, hs, hg1⟩
  have HS1 := hide hs
  have HL := hide hl
  obtain ⟨B1, k1, rfl, -⟩ := own_open ho
  have HO1 := hide ho
  clear hs hg1 hl ho
  go_wp2_with fail
  refine (pressureOf_any d 200 _ HD.out.1 HS1.out (by omega)).mono ?_
  rintro e w5 ⟨⟨f, rfl, hf⟩, hs, hg5⟩
  have HO5 := hide (own_far HO1.out hg5 HG0.out)
  have HB : Hid (Below w.heap.size w w5) := hide (by have := hs.1; rwa [HWE.out] at this)
  clear hs hg5
  go_wp2
  refine bodyPost_ret (v := .tuple #[.slice B1 hs'.length k1, .int .i64 f]) (by simp [results, Tryd.results19, go_sem, *]) rfl ?_
  exact ⟨⟨B1, _, k1, hs', f, rfl, rfl, HL.out, own_rd HO5.out, hf⟩, HB.out⟩
set_option maxHeartbeats 4000000 in
theorem DrawLineLoss_any (A : Option Addr) (n c : Nat) (code : List Int) (w : World) (hn : n = code.length) (hm : n ≤ maxLen) (hb : ∀ x ∈ code, 0 ≤ x ∧ x ≤ 255) (hr : Rd w A (code.map (Value.int .u8))) :
    Calls Tryd.prog 22 #[.slice A n c] w fun e w' => (∃ (B : Option Addr) (m k : Nat) (hs : List (Int × Int)) (f : Int), e = .returned (.tuple #[.slice B m k, .int .i64 f]) ∧ m = hs.length ∧ m ≤ 13 ∧ Rd w' B (hs.flatMap hcells) ∧ I64 f) ∧ Below w.heap.size w w' := by
  have HD := hide (drw_new w A n c code 95 hn hm hb hr)
  clear hn hm hb hr
  obtain ⟨d, hd⟩ : ∃ d, d = Drw.mk w w.heap.size A n c code := ⟨_, rfl⟩
  rw [← hd] at HD
  have HGE := hide (show w.heap.size = d.g by rw [hd])
  have HWE := hide (show d.W0 = w by rw [hd])
  clear hd
  go_enter Tryd.func22, Tryd.ntmps22
  go_wp2_with fail
  rw [HGE.out]
  have HG0 := hide HD.out.2.lt
  refine (hoses_any d 0 _ HD.out.1 HD.out.2 (by omega)).mono ?_
  rintro e w1 ⟨⟨v, hs', rfl, hl, ho⟩, hs, hg1⟩
  have HS1 := hide hs
  have HL := hide hl
  obtain ⟨B1, k1, rfl, -⟩ := own_open ho
  have HO1 := hide ho
  clear hs hg1 hl ho
  go_wp2_with fail
  refine (flowOf_any d 200 _ HD.out.1 HS1.out (by omega)).mono ?_
  rintro e w5 ⟨⟨f, rfl, hf⟩, hs, hg5⟩
  have HO5 := hide (own_far HO1.out hg5 HG0.out)
  have HB : Hid (Below w.heap.size w w5) := hide (by have := hs.1; rwa [HWE.out] at this)
  clear hs hg5
  go_wp2
  refine bodyPost_ret (v := .tuple #[.slice B1 hs'.length k1, .int .i64 f]) (by simp [results, Tryd.results22, go_sem, *]) rfl ?_
  exact ⟨⟨B1, _, k1, hs', f, rfl, rfl, HL.out, own_rd HO5.out, hf⟩, HB.out⟩

set_option maxHeartbeats 4000000 in
theorem DrawHoseText_any (A : Option Addr) (n c : Nat) (code : List Int) (w : World) (hn : n = code.length) (hm : n ≤ maxLen) (hb : ∀ x ∈ code, 0 ≤ x ∧ x ≤ 255) (hr : Rd w A (code.map (Value.int .u8))) :
    Calls Tryd.prog 28 #[.slice A n c] w fun e w' => (∃ (B : Option Addr) (m k : Nat) (hs : List (Int × Int)), e = .returned (.slice B m k) ∧ m = hs.length ∧ m ≤ 13 ∧ Rd w' B (hs.flatMap hcells)) ∧ Below w.heap.size w w' := by
  have HD := hide (drw_new w A n c code 95 hn hm hb hr)
  clear hn hm hb hr
  obtain ⟨d, hd⟩ : ∃ d, d = Drw.mk w w.heap.size A n c code := ⟨_, rfl⟩
  rw [← hd] at HD
  have HGE := hide (show w.heap.size = d.g by rw [hd])
  have HWE := hide (show d.W0 = w by rw [hd])
  clear hd
  go_enter Tryd.func28, Tryd.ntmps28
  go_wp2_with fail
  rw [HGE.out]
  refine (hoses_any d 0 _ HD.out.1 HD.out.2 (by omega)).mono ?_
  rintro e w1 ⟨⟨v, hs', rfl, hl, ho⟩, hs, hg1⟩
  have HB : Hid (Below w.heap.size w w1) := hide (by have := hs.1; rwa [HWE.out] at this)
  have HL := hide hl
  obtain ⟨B1, k1, rfl, -⟩ := own_open ho
  have HO1 := hide ho
  clear hs hg1 hl ho
  go_wp2
  go_ret
  exact ⟨⟨B1, _, k1, hs', rfl, rfl, HL.out, own_rd HO1.out⟩, HB.out⟩

set_option maxHeartbeats 4000000 in
theorem DrawHoseLoss_any (A : Option Addr) (n c : Nat) (code : List Int) (w : World) (hn : n = code.length) (hm : n ≤ maxLen) (hb : ∀ x ∈ code, 0 ≤ x ∧ x ≤ 255) (hr : Rd w A (code.map (Value.int .u8))) :
    Calls Tryd.prog 25 #[.slice A n c] w fun e w' => (∃ k l f : Int, e = .returned (.tuple #[.agg #[.int .i64 k, .int .i64 l], .int .i64 f]) ∧ I64 k ∧ I64 l ∧ I64 f) ∧ Below w.heap.size w w' := by
  have HD := hide (drw_new (w.alloc (.cells #[.int .i64 0, .int .i64 0] 40)) A n c code 95 hn hm hb (hr.alloc _))
  have HF0 := hide ((Row.new w #[.int .i64 0, .int .i64 0] 40).alloc (.cells #[.slice A n c, .int .i64 0, .int .u64 0] 95))
  clear hn hm hb hr
  have HWS := hide (show (w.alloc (.cells #[.int .i64 0, .int .i64 0] 40)).heap.size = w.heap.size + 1 by simp)
  have HWB := hide (show Below w.heap.size w (w.alloc (.cells #[.int .i64 0, .int .i64 0] 40)) from below_alloc (Below.refl _ _) _)
  obtain ⟨d, hd⟩ : ∃ d, d = Drw.mk (w.alloc (.cells #[.int .i64 0, .int .i64 0] 40)) (w.alloc (.cells #[.int .i64 0, .int .i64 0] 40)).heap.size A n c code := ⟨_, rfl⟩
  rw [← hd] at HD
  have HGE := hide (show w.heap.size + 1 = d.g by rw [hd]; exact HWS.out.symm)
  have HWE := hide (show Below w.heap.size w d.W0 by rw [hd]; exact HWB.out)
  have HWZ := hide (show w.heap.size ≤ d.W0.heap.size by rw [hd]; dsimp only; rw [HWS.out]; omega)
  clear hd
  go_enter Tryd.func25, Tryd.ntmps25
  go_wp2_with fail
  rw [HGE.out]
  refine (hose_any d 0 _ HD.out.1 HD.out.2 (by omega)).mono ?_
  rintro e w1 ⟨⟨k, l, rfl, hk, hl⟩, hs, hg1⟩
  have HS1 := hide hs
  have HF1 := hide (HF0.out.grown hg1 (fun e => by injection e with e; have := HGE.out; omega))
  have HKL := hide (And.intro hk hl)
  clear hs hg1 hk hl
  go_wp2_with fail
  refine (flowOf_any d 10 _ HD.out.1 HS1.out (by omega)).mono ?_
  rintro e w2 ⟨⟨f, rfl, hf⟩, hs, hg2⟩
  have HF2 := hide (HF1.out.grown hg2 (fun e => by injection e with e; have := HGE.out; omega))
  have HB : Hid (Below w.heap.size w w2) := hide (HWE.out.trans (hs.1.mono HWZ.out))
  have HFF := hide hf
  have e0 := HF2.out.2.1 0 _ rfl
  have e1 := HF2.out.2.1 1 _ rfl
  have f0 := HF2.out.free 0
  have f1 := HF2.out.free 1
  clear hs hg2 hf HF0 HF1 HS1
  go_wp2
  exact bodyPost_ret (v := .tuple #[.agg #[.int .i64 k, .int .i64 l], .int .i64 f]) (by simp [results, Tryd.results25, go_sem, *]) rfl ⟨⟨k, l, f, rfl, HKL.out.1, HKL.out.2, HFF.out⟩, (HB.out.setCell (by simp) _).setCell (by simp) _⟩

set_option maxRecDepth 100000 in
set_option maxHeartbeats 8000000 in
theorem DrawParseHoses_any (A : Option Addr) (n c : Nat) (code : List Int) (w : World) (hn : n = code.length) (hm : n ≤ maxLen) (hb : ∀ x ∈ code, 0 ≤ x ∧ x ≤ 255) (hr : Rd w A (code.map (Value.int .u8))) :
    Calls Tryd.prog 29 #[.slice A n c] w fun e w' => (∃ s : ByteArray, e = .returned (.string s) ∧ s.size ≤ 4000) ∧ Below w.heap.size w w' := by
  have HD := hide (drw_new w A n c code 95 hn hm hb hr)
  clear hn hm hb hr
  obtain ⟨d, hd⟩ : ∃ d, d = Drw.mk w w.heap.size A n c code := ⟨_, rfl⟩
  rw [← hd] at HD
  have HGE := hide (show w.heap.size = d.g by rw [hd])
  have HWE := hide (show d.W0 = w by rw [hd])
  clear hd
  go_enter Tryd.func29, Tryd.ntmps29
  go_wp2_with fail
  rw [HGE.out]
  refine (hoses_any d 0 _ HD.out.1 HD.out.2 (by omega)).mono ?_
  rintro e w1 ⟨⟨v, hs', rfl, hl, ho⟩, hs, hg1⟩
  obtain ⟨B1, k1, rfl, -⟩ := own_open ho
  have HS1 := hide hs
  have HL := hide hl
  have HR1 := hide (own_rd ho)
  clear hs hg1 hl ho
  have QG := hide (hoGood_any B1 hs'.length k1 hs' w1 rfl (by have := HL.out; omega) HR1.out)
  cases hb : lineB hs' with
  | false =>
    rw [hb] at QG
    clear hb
    go_wp2_with fail
    refine QG.out.mono ?_
    rintro e w2 ⟨rfl, hq⟩
    have HS2 := hide (HS1.out.below hq)
    have HX := hide (show (⟨#[98, 50, 48, 48, 59]⟩ : ByteArray).size ≤ 3000 from by decide)
    clear hq QG HS1 HR1
    generalize (⟨#[98, 50, 48, 48, 59]⟩ : ByteArray) = sx at HX
    go_wp2_with fail
    refine (pick_any d 200 5 _ HD.out.1 HS2.out (by omega) (by omega)).mono ?_
    rintro e w3 ⟨⟨q, rfl, hq0, hq1, hq2⟩, hs, hg⟩
    have HS3 := hide hs
    clear hs hg
    by_cases h0 : q = 0
    · subst h0
      clear hq0 hq1 hq2
      go_wp2_with fail
      refine (spoilt_any d 202 sx ⟨#[97, 98, 99, 100, 59, 48, 57]⟩ _ HD.out.1 HS3.out (by omega) (by have := HX.out; omega) (by decide) (by decide)).mono ?_
      rintro e w4 ⟨⟨v, rfl, hv⟩, hs, hg⟩
      have HB : Hid (Below w.heap.size w w4) := hide (by have := hs.1; rwa [HWE.out] at this)
      clear hs hg
      go_wp2
      go_ret
      exact ⟨⟨v, rfl, by have := HX.out; omega⟩, HB.out⟩
    · have h0' : (q == 0) = false := by simpa using h0
      by_cases h1 : q = 1
      · subst h1
        clear hq0 hq1 hq2 h0 h0'
        go_wp2_with fail
        refine (of_lit d 202 [⟨#[]⟩, ⟨#[59]⟩, ⟨#[98, 50, 48, 48]⟩, ⟨#[101, 50, 48, 48, 59]⟩, ⟨#[98, 48, 50, 48, 48, 59]⟩, ⟨#[98, 59]⟩, ⟨#[98, 53, 48, 48, 49, 59]⟩] _ _ rfl HD.out.1 HS3.out (by omega) (by simp) (by simp)).mono ?_
        rintro e w4 ⟨⟨v, rfl, hv⟩, hs, hg⟩
        have HB : Hid (Below w.heap.size w w4) := hide (by have := hs.1; rwa [HWE.out] at this)
        have hvs : v.size ≤ 4000 := by
          simp only [List.mem_cons, List.not_mem_nil, or_false] at hv
          rcases hv with rfl | rfl | rfl | rfl | rfl | rfl | rfl <;> decide
        clear hs hg hv
        go_wp2
        go_ret
        exact ⟨⟨v, rfl, hvs⟩, HB.out⟩
      · have h1' : (q == 1) = false := by simpa using h1
        have HB : Hid (Below w.heap.size w w3) := hide (by have := HS3.out.1; rwa [HWE.out] at this)
        clear hq0 hq1 hq2 h0 h1
        go_wp2
        go_ret
        exact ⟨⟨sx, rfl, by have := HX.out; omega⟩, HB.out⟩
  | true =>
    rw [hb] at QG
    have QX := hide (fun W h => hoText_any hs'.length k1 B1 hs' W rfl hb (HR1.out.below h))
    have HX := hide (show (thN hs' hs'.length).size ≤ 3000 from Nat.le_trans (thN_size hb _) (by have := HL.out; omega))
    clear hb
    generalize thN hs' hs'.length = sx at *
    go_wp2_with fail
    refine QG.out.mono ?_
    rintro e w2' ⟨rfl, hq⟩
    have HX2 := hide hq
    clear hq QG
    go_wp2_with fail
    refine (QX.out _ HX2.out).mono ?_
    rintro e w2 ⟨rfl, hq⟩
    have HS2 := hide (HS1.out.below (below_step HX2.out hq))
    clear hq QX HX2 HS1 HR1
    go_wp2_with fail
    refine (pick_any d 200 5 _ HD.out.1 HS2.out (by omega) (by omega)).mono ?_
    rintro e w3 ⟨⟨q, rfl, hq0, hq1, hq2⟩, hs, hg⟩
    have HS3 := hide hs
    clear hs hg
    by_cases h0 : q = 0
    · subst h0
      clear hq0 hq1 hq2
      go_wp2_with fail
      refine (spoilt_any d 202 sx ⟨#[97, 98, 99, 100, 59, 48, 57]⟩ _ HD.out.1 HS3.out (by omega) (by have := HX.out; omega) (by decide) (by decide)).mono ?_
      rintro e w4 ⟨⟨v, rfl, hv⟩, hs, hg⟩
      have HB : Hid (Below w.heap.size w w4) := hide (by have := hs.1; rwa [HWE.out] at this)
      clear hs hg
      go_wp2
      go_ret
      exact ⟨⟨v, rfl, by have := HX.out; omega⟩, HB.out⟩
    · have h0' : (q == 0) = false := by simpa using h0
      by_cases h1 : q = 1
      · subst h1
        clear hq0 hq1 hq2 h0 h0'
        go_wp2_with fail
        refine (of_lit d 202 [⟨#[]⟩, ⟨#[59]⟩, ⟨#[98, 50, 48, 48]⟩, ⟨#[101, 50, 48, 48, 59]⟩, ⟨#[98, 48, 50, 48, 48, 59]⟩, ⟨#[98, 59]⟩, ⟨#[98, 53, 48, 48, 49, 59]⟩] _ _ rfl HD.out.1 HS3.out (by omega) (by simp) (by simp)).mono ?_
        rintro e w4 ⟨⟨v, rfl, hv⟩, hs, hg⟩
        have HB : Hid (Below w.heap.size w w4) := hide (by have := hs.1; rwa [HWE.out] at this)
        have hvs : v.size ≤ 4000 := by
          simp only [List.mem_cons, List.not_mem_nil, or_false] at hv
          rcases hv with rfl | rfl | rfl | rfl | rfl | rfl | rfl <;> decide
        clear hs hg hv
        go_wp2
        go_ret
        exact ⟨⟨v, rfl, hvs⟩, HB.out⟩
      · have h1' : (q == 1) = false := by simpa using h1
        have HB : Hid (Below w.heap.size w w3) := hide (by have := HS3.out.1; rwa [HWE.out] at this)
        clear hq0 hq1 hq2 h0 h1
        go_wp2
        go_ret
        exact ⟨⟨sx, rfl, by have := HX.out; omega⟩, HB.out⟩
end Go.Proofs.YtmoelgbbgepckaaDoor

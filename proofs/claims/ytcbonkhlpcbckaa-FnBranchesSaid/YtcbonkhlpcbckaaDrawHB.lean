/- Draws of the hose chapter: the arguments that the laws draw. -/
import Derived.Test.YtcbonkhlpcbckaaDrawH
namespace Go.Proofs.Ytcbonkhlpcbckaa
open Go.RowKit
set_option linter.unusedVariables false

theorem drw_new (w : World) (A : Option Addr) (n c : Nat) (code : List Int) (t : TypeId) (hn : n = code.length) (hm : n ≤ maxLen) (hb : ∀ x ∈ code, 0 ≤ x ∧ x ≤ 255) (hr : Rd w A (code.map (Value.int .u8))) :
    (Drw.mk w w.heap.size A n c code).ok ∧ (Drw.mk w w.heap.size A n c code).st 0 (w.alloc (.cells #[.slice A n c, .int .i64 0, .int .u64 0] t)) :=
  ⟨⟨hn, hm, hb, hr, Nat.le_refl _⟩, (Below.refl _ _).alloc (Nat.le_refl _) _, 0, 0, Nat.le_refl _, ⟨by omega, by omega⟩, Row.new w _ t⟩
def DrwTwo (w : World) (e : Ending) (w' : World) : Prop := (∃ a f : Int, e = .returned (.tuple #[.int .i64 a, .int .i64 f]) ∧ I64 a ∧ I64 f) ∧ Below w.heap.size w w'

set_option maxHeartbeats 4000000 in
theorem DrawBranchPressure_any (A : Option Addr) (n c : Nat) (code : List Int) (w : World) (hn : n = code.length) (hm : n ≤ maxLen) (hb : ∀ x ∈ code, 0 ≤ x ∧ x ≤ 255) (hr : Rd w A (code.map (Value.int .u8))) :
    Calls Try.prog 4 #[.slice A n c] w (DrwTwo w) := by
  have HD := hide (drw_new w A n c code 42 hn hm hb hr)
  clear hn hm hb hr
  obtain ⟨d, hd⟩ : ∃ d, d = Drw.mk w w.heap.size A n c code := ⟨_, rfl⟩
  rw [← hd] at HD
  have HGE := hide (show w.heap.size = d.g by rw [hd])
  have HWE := hide (show d.W0 = w by rw [hd])
  clear hd
  go_enter Try.func4, Try.ntmps4
  go_wp2_with fail
  rw [HGE.out]
  refine (nozzleOf_any d 0 _ HD.out.1 HD.out.2 (by omega)).mono ?_
  rintro e w1 ⟨⟨x, rfl, hx⟩, hs, hg1⟩
  have HS1 := hide hs
  clear hs hg1
  go_wp2_with fail
  refine (flowOf_any d 6 _ HD.out.1 HS1.out (by omega)).mono ?_
  rintro e w2 ⟨⟨y, rfl, hy⟩, hs, hg2⟩
  have HB : Hid (Below w.heap.size w w2) := hide (by have := hs.1; rwa [HWE.out] at this)
  clear hs hg2
  go_wp2
  go_ret2
  exact ⟨⟨x, y, rfl, hx, hy⟩, HB.out⟩
set_option maxHeartbeats 4000000 in
theorem DrawBranchFlow_any (A : Option Addr) (n c : Nat) (code : List Int) (w : World) (hn : n = code.length) (hm : n ≤ maxLen) (hb : ∀ x ∈ code, 0 ≤ x ∧ x ≤ 255) (hr : Rd w A (code.map (Value.int .u8))) :
    Calls Try.prog 7 #[.slice A n c] w (DrwTwo w) := by
  have HD := hide (drw_new w A n c code 42 hn hm hb hr)
  clear hn hm hb hr
  obtain ⟨d, hd⟩ : ∃ d, d = Drw.mk w w.heap.size A n c code := ⟨_, rfl⟩
  rw [← hd] at HD
  have HGE := hide (show w.heap.size = d.g by rw [hd])
  have HWE := hide (show d.W0 = w by rw [hd])
  clear hd
  go_enter Try.func7, Try.ntmps7
  go_wp2_with fail
  rw [HGE.out]
  refine (nozzleOf_any d 0 _ HD.out.1 HD.out.2 (by omega)).mono ?_
  rintro e w1 ⟨⟨x, rfl, hx⟩, hs, hg1⟩
  have HS1 := hide hs
  clear hs hg1
  go_wp2_with fail
  refine (pressureOf_any d 6 _ HD.out.1 HS1.out (by omega)).mono ?_
  rintro e w2 ⟨⟨y, rfl, hy⟩, hs, hg2⟩
  have HB : Hid (Below w.heap.size w w2) := hide (by have := hs.1; rwa [HWE.out] at this)
  clear hs hg2
  go_wp2
  go_ret2
  exact ⟨⟨x, y, rfl, hx, hy⟩, HB.out⟩

theorem fldHose0 (x l : Int) (w : World) : (Instr.field 37 (.agg #[.int .i64 x, .int .i64 l]) 0).run Try.prog w = .ok (.int .i64 x) w := by kernel_rfl

set_option maxHeartbeats 4000000 in
theorem DrawLongestHose_any (A : Option Addr) (n c : Nat) (code : List Int) (w : World) (hn : n = code.length) (hm : n ≤ maxLen) (hb : ∀ x ∈ code, 0 ≤ x ∧ x ≤ 255) (hr : Rd w A (code.map (Value.int .u8))) :
    Calls Try.prog 13 #[.slice A n c] w fun e w' => (∃ a f p : Int, e = .returned (.tuple #[.int .i64 a, .int .i64 f, .int .i64 p]) ∧ I64 a ∧ I64 f ∧ I64 p) ∧ Below w.heap.size w w' := by
  have HD := hide (drw_new w A n c code 42 hn hm hb hr)
  clear hn hm hb hr
  obtain ⟨d, hd⟩ : ∃ d, d = Drw.mk w w.heap.size A n c code := ⟨_, rfl⟩
  rw [← hd] at HD
  have HGE := hide (show w.heap.size = d.g by rw [hd])
  have HWE := hide (show d.W0 = w by rw [hd])
  clear hd
  go_enter Try.func13, Try.ntmps13
  go_wp2_with fail
  rw [HGE.out]
  refine (hose_any d 0 _ HD.out.1 HD.out.2 (by omega)).mono ?_
  rintro e w1 ⟨⟨x, l, rfl, hx, hl⟩, hs, hg1⟩
  have HS1 := hide hs
  have hfl := fun W => fldHose0 x l W
  clear hs hg1
  go_wp2_with fail
  refine (flowOf_any d 10 _ HD.out.1 HS1.out (by omega)).mono ?_
  rintro e w2 ⟨⟨y, rfl, hy⟩, hs, hg2⟩
  have HS2 := hide hs
  clear hs hg2
  go_wp2_with fail
  refine (pressureOf_any d 16 _ HD.out.1 HS2.out (by omega)).mono ?_
  rintro e w3 ⟨⟨z, rfl, hz⟩, hs, hg3⟩
  have HB : Hid (Below w.heap.size w w3) := hide (by have := hs.1; rwa [HWE.out] at this)
  clear hs hg3
  go_wp2
  go_ret3
  exact ⟨⟨x, y, z, rfl, hx, hy, hz⟩, HB.out⟩

set_option maxHeartbeats 4000000 in
theorem DrawHosesFor_any (A : Option Addr) (n c : Nat) (code : List Int) (w : World) (hn : n = code.length) (hm : n ≤ maxLen) (hb : ∀ x ∈ code, 0 ≤ x ∧ x ≤ 255) (hr : Rd w A (code.map (Value.int .u8))) :
    Calls Try.prog 16 #[.slice A n c] w (DrwTwo w) := by
  have HD := hide (drw_new w A n c code 42 hn hm hb hr)
  clear hn hm hb hr
  obtain ⟨d, hd⟩ : ∃ d, d = Drw.mk w w.heap.size A n c code := ⟨_, rfl⟩
  rw [← hd] at HD
  have HGE := hide (show w.heap.size = d.g by rw [hd])
  have HWE := hide (show d.W0 = w by rw [hd])
  clear hd
  go_enter Try.func16, Try.ntmps16
  go_wp2_with fail
  rw [HGE.out]
  refine (among_lit d 0 [-1, 100001] _ _ (by simp; exact HGE.out) HD.out.1 HD.out.2 (by omega) (by simp) (by simp)).mono ?_
  rintro e w1 ⟨⟨x, rfl, hx⟩, hs, hg1⟩
  have HS1 := hide hs
  have HX := hide (show I64 x by simp at hx; unfold I64; omega)
  clear hs hg1 hx
  go_wp2_with fail
  refine (among_lit d 2 [0, 1, 1000, 1818, 1819, 3000, 100000, x] _ _ (by simp) HD.out.1 HS1.out (by omega) (by simp) (by simp)).mono ?_
  rintro e w2 ⟨⟨y, rfl, hy⟩, hs, hg2⟩
  have HS2 := hide hs
  have HY := hide (show I64 y by have h := HX.out; simp at hy; unfold I64 at h ⊢; omega)
  clear hs hg2 hy
  go_wp2_with fail
  refine (among_lit d 4 [0, 5001] _ _ (by simp) HD.out.1 HS2.out (by omega) (by simp) (by simp)).mono ?_
  rintro e w3 ⟨⟨z, rfl, hz⟩, hs, hg3⟩
  have HS3 := hide hs
  have HZ := hide (show I64 z by simp at hz; unfold I64; omega)
  clear hs hg3 hz
  go_wp2_with fail
  refine (among_lit d 6 [200, 150, 1, 5000, z] _ _ (by simp) HD.out.1 HS3.out (by omega) (by simp) (by simp)).mono ?_
  rintro e w4 ⟨⟨v, rfl, hv⟩, hs, hg4⟩
  have HV := hide (show I64 v by have h := HZ.out; simp at hv; unfold I64 at h ⊢; omega)
  have HB : Hid (Below w.heap.size w w4) := hide (by have := hs.1; rwa [HWE.out] at this)
  clear hs hg4 hv
  go_wp2
  go_ret2
  exact ⟨⟨y, v, rfl, HY.out, HV.out⟩, HB.out⟩

set_option maxHeartbeats 4000000 in
theorem DrawPumpPressure_any (A : Option Addr) (n c : Nat) (code : List Int) (w : World) (hn : n = code.length) (hm : n ≤ maxLen) (hb : ∀ x ∈ code, 0 ≤ x ∧ x ≤ 255) (hr : Rd w A (code.map (Value.int .u8))) :
    Calls Try.prog 10 #[.slice A n c] w fun e w' => (∃ (B : Option Addr) (m k : Nat) (hs : List (Int × Int)) (r y f : Int), e = .returned (.tuple #[.slice B m k, .int .i64 r, .int .i64 y, .int .i64 f]) ∧ m = hs.length ∧ m ≤ 13 ∧ Rd w' B (hs.flatMap hcells) ∧ I64 r ∧ I64 y ∧ I64 f) ∧ Below w.heap.size w w' := by
  have HD := hide (drw_new w A n c code 42 hn hm hb hr)
  clear hn hm hb hr
  obtain ⟨d, hd⟩ : ∃ d, d = Drw.mk w w.heap.size A n c code := ⟨_, rfl⟩
  rw [← hd] at HD
  have HGE := hide (show w.heap.size = d.g by rw [hd])
  have HWE := hide (show d.W0 = w by rw [hd])
  clear hd
  go_enter Try.func10, Try.ntmps10
  go_wp2_with fail
  rw [HGE.out]
  have HG0 := hide HD.out.2.lt
  refine (hoses_any d 0 _ HD.out.1 HD.out.2 (by omega)).mono ?_
  rintro e w1 ⟨⟨v, hs', rfl, hl, ho⟩, hs, hg1⟩
  have HS1 := hide hs
  have HL := hide hl
  obtain ⟨B1, k1, rfl, -⟩ := own_open ho
  have HO1 := hide ho
  clear hs hg1 hl ho
  go_wp2_with fail
  refine (among_lit d 200 [1001, -1001] _ _ (by simp) HD.out.1 HS1.out (by omega) (by simp) (by simp)).mono ?_
  rintro e w2 ⟨⟨x, rfl, hx⟩, hs, hg2⟩
  have HS2 := hide hs
  have HO2 := hide (own_far HO1.out hg2 HG0.out)
  have HX := hide (show I64 x by simp at hx; unfold I64; omega)
  clear hs hg2 hx
  go_wp2_with fail
  refine (among_lit d 202 [0, 50, 120, -80, 1000, -1000, x] _ _ (by simp) HD.out.1 HS2.out (by omega) (by simp) (by simp)).mono ?_
  rintro e w3 ⟨⟨r, rfl, hr⟩, hs, hg3⟩
  have HS3 := hide hs
  have HO3 := hide (own_far HO2.out hg3 HG0.out)
  have HR := hide (show I64 r by have h := HX.out; simp at hr; unfold I64 at h ⊢; omega)
  clear hs hg3 hr
  go_wp2_with fail
  refine (nozzleOf_any d 204 _ HD.out.1 HS3.out (by omega)).mono ?_
  rintro e w4 ⟨⟨y, rfl, hy⟩, hs, hg4⟩
  have HS4 := hide hs
  have HO4 := hide (own_far HO3.out hg4 HG0.out)
  clear hs hg4
  go_wp2_with fail
  refine (flowOf_any d 210 _ HD.out.1 HS4.out (by omega)).mono ?_
  rintro e w5 ⟨⟨f, rfl, hf⟩, hs, hg5⟩
  have HO5 := hide (own_far HO4.out hg5 HG0.out)
  have HB : Hid (Below w.heap.size w w5) := hide (by have := hs.1; rwa [HWE.out] at this)
  clear hs hg5
  go_wp2
  refine bodyPost_ret (v := .tuple #[.slice B1 hs'.length k1, .int .i64 r, .int .i64 y, .int .i64 f]) (by simp [results, Try.results10, go_sem, *]) rfl ?_
  exact ⟨⟨B1, _, k1, hs', r, y, f, rfl, rfl, HL.out, own_rd HO5.out, HR.out, hy, hf⟩, HB.out⟩
end Go.Proofs.Ytcbonkhlpcbckaa

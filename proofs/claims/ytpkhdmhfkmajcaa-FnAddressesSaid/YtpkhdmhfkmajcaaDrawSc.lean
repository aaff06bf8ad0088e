/- Draws of the address chapter: a stretch to add, a node. -/
import Derived.Test.YtpkhdmhfkmajcaaDrawSa
import Derived.Test.YtpkhdmhfkmajcaaRhC
namespace Go.Proofs.Ytpkhdmhfkmajcaa
open Go.RowKit
set_option linter.unusedVariables false
set_option linter.unusedSimpArgs false

/-- Stretches and one more. -/
def StrsOne (w : World) (e : Ending) (w' : World) : Prop := (∃ (A : Option Addr) (c : Nat) (l : List StrT) (r : ByteArray) (x y z k : Int), e = .returned (.tuple #[.slice A l.length c, .agg #[.string r, .int .i64 x, .int .i64 y, .int .i64 z, .int .i64 k]]) ∧ r.size ≤ 20 ∧ Strs w w' A c l) ∧ Below w.heap.size w w'
/-- Stretches and a number. -/
def StrsNum (w : World) (e : Ending) (w' : World) : Prop := (∃ (A : Option Addr) (c : Nat) (l : List StrT) (z : Int), e = .returned (.tuple #[.slice A l.length c, .int .i64 z]) ∧ Strs w w' A c l) ∧ Below w.heap.size w w'

/-- A drawer that begins behind the result's cell. -/
theorem drw_str (w : World) (A : Option Addr) (n c : Nat) (code : List Int) (hn : n = code.length) (hm : n ≤ maxLen) (hb : ∀ x ∈ code, 0 ≤ x ∧ x ≤ 255) (hr : Rd w A (code.map (Value.int .u8))) :
    ∃ d : Drw, d.W0 = w.alloc (.cells #[.string ByteArray.empty, .int .i64 0, .int .i64 0, .int .i64 0, .int .i64 0] 25) ∧ d.g = w.heap.size + 1 ∧ d.ok ∧ d.st 0 ((w.alloc (.cells #[.string ByteArray.empty, .int .i64 0, .int .i64 0, .int .i64 0, .int .i64 0] 25)).alloc (.cells #[.slice A n c, .int .i64 0, .int .u64 0] 54)) ∧
      Row ((w.alloc (.cells #[.string ByteArray.empty, .int .i64 0, .int .i64 0, .int .i64 0, .int .i64 0] 25)).alloc (.cells #[.slice A n c, .int .i64 0, .int .u64 0] 54)) w.heap.size [.string ByteArray.empty, .int .i64 0, .int .i64 0, .int .i64 0, .int .i64 0] := by
  have h := drw_start (w.alloc (.cells #[.string ByteArray.empty, .int .i64 0, .int .i64 0, .int .i64 0, .int .i64 0] 25)) A n c code 54 hn hm hb (hr.alloc _)
  exact ⟨_, rfl, by simp, h.1, h.2, (Row.new w _ _).alloc _⟩
theorem below5 {w W : World} {g : Nat} (h : Below w.heap.size w W) (hg : w.heap.size ≤ g) (u0 u1 u2 u3 u4 : Value) : Below w.heap.size w (set5 W g u0 u1 u2 u3 u4) :=
  ((((h.setCell hg _).setCell hg _).setCell hg _).setCell hg _).setCell hg _

set_option maxHeartbeats 4000000 in
theorem DrawAddStretch_any (A : Option Addr) (n c : Nat) (code : List Int) (w : World) (hn : n = code.length) (hm : n ≤ maxLen) (hb : ∀ x ∈ code, 0 ≤ x ∧ x ≤ 255) (hr : Rd w A (code.map (Value.int .u8))) :
    Calls Try.prog 4 #[.slice A n c] w (StrsOne w) := by
  obtain ⟨d, hW, hg, hok, hst, hres⟩ := drw_str w A n c code hn hm hb hr
  have HW := hide hW
  have HGE := hide hg.symm
  have HOK := hide hok
  have HS := hide hst
  have HR := hide hres
  clear hn hm hb hr hW hg hok hst hres
  go_enter Try.func4, Try.ntmps4
  go_wp2_with fail
  rw [HGE.out]
  refine (stretches_any d 0 _ HOK.out HS.out (by omega)).mono ?_
  rintro e w1 ⟨⟨A1, c1, l, rfl, hl, hx, ho⟩, hs, hg1⟩
  have HNE := hide (show w.heap.size ≠ d.g by have := HGE.out; omega)
  replace HR := hide (HR.out.grown hg1 (fun e => by injection e with e; exact HNE.out e))
  have HO := hide (own_le (B' := w.heap.size + 1 + 1) ho (by simp))
  replace HS := hide hs
  have HL := hide (And.intro hl hx)
  clear hs hg1 hl ho hx
  go_wp2_with fail
  refine (stretch_any d 1000 _ HOK.out (HS.out.more (by omega)) (by omega)).mono ?_
  rintro e w2 ⟨⟨s0, s1, s2, s3, s4, rfl, hr, -⟩, hs, hg⟩
  replace HO := hide (own_far HO.out hg (by have := HGE.out; omega))
  replace HR := hide (HR.out.grown hg (fun e => by injection e with e; exact HNE.out e))
  have HB : Hid (Below w.heap.size w w2) := hide (by have h0 := hs.1; rw [HW.out] at h0; exact below_step (below_alloc (Below.refl _ _) _) h0)
  have HSZ := hide hr
  clear hs hg hr HS
  have f0 := HR.out.free 0
  have f1 := HR.out.free 1
  have f2 := HR.out.free 2
  have f3 := HR.out.free 3
  have f4 := HR.out.free 4
  have HR9 := hide (row5 HR.out (.string s0) (.int .i64 s1) (.int .i64 s2) (.int .i64 s3) (.int .i64 s4))
  have HO9 := hide (own_far HO.out (grown5 w2 w.heap.size (.string s0) (.int .i64 s1) (.int .i64 s2) (.int .i64 s3) (.int .i64 s4)) (by omega))
  have HB9 := hide (below5 HB.out (Nat.le_refl _) (.string s0) (.int .i64 s1) (.int .i64 s2) (.int .i64 s3) (.int .i64 s4))
  have u0 := HR.out.2.1 0 _ rfl
  have u1 := HR.out.2.1 1 _ rfl
  have u2 := HR.out.2.1 2 _ rfl
  have u3 := HR.out.2.1 3 _ rfl
  have u4 := HR.out.2.1 4 _ rfl
  have uz := HR.out.1
  go_wp2
  refine bodyPost_ret (v := .tuple #[.slice A1 l.length c1, .agg #[.string s0, .int .i64 s1, .int .i64 s2, .int .i64 s3, .int .i64 s4]]) (by simp [results, Try.results4, go_sem, *]) rfl ?_
  exact ⟨⟨A1, c1, l, s0, s1, s2, s3, s4, rfl, HSZ.out, HL.out, own_le HO9.out (by omega)⟩, HB9.out⟩

set_option maxHeartbeats 4000000 in
theorem DrawHighestRisk_any (A : Option Addr) (n c : Nat) (code : List Int) (w : World) (hn : n = code.length) (hm : n ≤ maxLen) (hb : ∀ x ∈ code, 0 ≤ x ∧ x ≤ 255) (hr : Rd w A (code.map (Value.int .u8))) :
    Calls Try.prog 17 #[.slice A n c] w (StrsNum w) := by
  have HD := hide (drw_start w A n c code 54 hn hm hb hr)
  clear hn hm hb hr
  obtain ⟨d, hd⟩ : ∃ d, d = Drw.mk w w.heap.size A n c code := ⟨_, rfl⟩
  rw [← hd] at HD
  have HGE := hide (show w.heap.size = d.g by rw [hd])
  have HWE := hide (show d.W0 = w by rw [hd])
  clear hd
  go_enter Try.func17, Try.ntmps17
  go_wp2_with fail
  rw [HGE.out]
  refine (stretches_any d 0 _ HD.out.1 HD.out.2 (by omega)).mono ?_
  rintro e w1 ⟨⟨A1, c1, l, rfl, hl, hx, ho⟩, hs, hg1⟩
  have HS := hide hs
  have HL := hide (And.intro hl hx)
  have HO := hide ho
  have HG0 := hide HD.out.2.lt
  clear hs hg1 hl ho hx
  go_wp2_with fail
  refine (among_lit d 1000 [-1, 14] _ _ (by simp) HD.out.1 (HS.out.more (by omega)) (by omega) (by simp) (by simp)).mono ?_
  rintro e w2 ⟨⟨y, rfl, hy⟩, hs, hg⟩
  replace HO := hide (own_far HO.out hg HG0.out)
  replace HS := hide hs
  clear hs hg hy
  go_wp2_with fail
  refine (among_lit d 1002 [0, 1, 2, 3, 13, y] _ _ (by simp) HD.out.1 HS.out (by omega) (by simp) (by simp)).mono ?_
  rintro e w3 ⟨⟨z, rfl, hz⟩, hs, hg⟩
  replace HO := hide (own_far HO.out hg HG0.out)
  have HB : Hid (Below w.heap.size w w3) := hide (by have := hs.1; rwa [HWE.out] at this)
  clear hs hg hz
  go_wp2
  refine bodyPost_ret (v := .tuple #[.slice A1 l.length c1, .int .i64 z]) (by simp [results, Try.results17, go_sem, *]) rfl ?_
  exact ⟨⟨A1, c1, l, z, rfl, HL.out, own_le HO.out (by simp)⟩, HB.out⟩
end Go.Proofs.Ytpkhdmhfkmajcaa

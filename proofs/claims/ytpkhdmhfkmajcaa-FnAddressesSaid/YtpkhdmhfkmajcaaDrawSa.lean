/- Draws of the address chapter. -/
import Derived.Test.YtpkhdmhfkmajcaaDrawSx
import Derived.Test.YtpkhdmhfkmajcaaListX
namespace Go.Proofs.Ytpkhdmhfkmajcaa
open Go.RowKit
set_option linter.unusedVariables false
set_option linter.unusedSimpArgs false

theorem drw_start (w : World) (A : Option Addr) (n c : Nat) (code : List Int) (t : TypeId) (hn : n = code.length) (hm : n ≤ maxLen) (hb : ∀ x ∈ code, 0 ≤ x ∧ x ≤ 255) (hr : Rd w A (code.map (Value.int .u8))) :
    (Drw.mk w w.heap.size A n c code).ok ∧ (Drw.mk w w.heap.size A n c code).st 0 (w.alloc (.cells #[.slice A n c, .int .i64 0, .int .u64 0] t)) :=
  ⟨⟨hn, hm, hb, hr, Nat.le_refl _⟩, (Below.refl _ _).alloc (Nat.le_refl _) _, 0, 0, Nat.le_refl _, ⟨by omega, by omega⟩, Row.new w _ t⟩
/-- Drawn stretches, as they are handed on. -/
def Strs (w w' : World) (A : Option Addr) (c : Nat) (l : List StrT) : Prop := (l.length ≤ 32 ∧ ∀ x ∈ l, x.1.size ≤ 20) ∧ w'.ownsRow w.heap.size 25 5 (.slice A l.length c) l.length (l.flatMap scells)
theorem Strs.below {w w1 w2 : World} {A : Option Addr} {c : Nat} {l : List StrT} (h : Strs w w1 A c l) (hb : Below w1.heap.size w1 w2) : Strs w w2 A c l := ⟨h.1, own_below h.2 hb⟩
/-- Stretches and a road. -/
def StrsRoad (w : World) (e : Ending) (w' : World) : Prop := (∃ (A : Option Addr) (c : Nat) (l : List StrT) (r : ByteArray), e = .returned (.tuple #[.slice A l.length c, .string r]) ∧ r.size ≤ 20 ∧ Strs w w' A c l) ∧ Below w.heap.size w w'
/-- Stretches, a road and a house. -/
def StrsHouse (w : World) (e : Ending) (w' : World) : Prop := (∃ (A : Option Addr) (c : Nat) (l : List StrT) (r : ByteArray) (h : Int), e = .returned (.tuple #[.slice A l.length c, .string r, .int .i64 h]) ∧ r.size ≤ 20 ∧ Strs w w' A c l) ∧ Below w.heap.size w w'

set_option maxHeartbeats 4000000 in
theorem DrawHousesOf_any (A : Option Addr) (n c : Nat) (code : List Int) (w : World) (hn : n = code.length) (hm : n ≤ maxLen) (hb : ∀ x ∈ code, 0 ≤ x ∧ x ≤ 255) (hr : Rd w A (code.map (Value.int .u8))) :
    Calls Try.prog 42 #[.slice A n c] w (StrsRoad w) := by
  have HD := hide (drw_start w A n c code 54 hn hm hb hr)
  clear hn hm hb hr
  obtain ⟨d, hd⟩ : ∃ d, d = Drw.mk w w.heap.size A n c code := ⟨_, rfl⟩
  rw [← hd] at HD
  have HGE := hide (show w.heap.size = d.g by rw [hd])
  have HWE := hide (show d.W0 = w by rw [hd])
  clear hd
  go_enter Try.func42, Try.ntmps42
  go_wp2_with fail
  rw [HGE.out]
  refine (stretches_any d 0 _ HD.out.1 HD.out.2 (by omega)).mono ?_
  rintro e w1 ⟨⟨A1, c1, l, rfl, hl, hx, ho⟩, hs, hg1⟩
  have HS1 := hide hs
  have HL := hide (And.intro hl hx)
  have HO1 := hide ho
  have HG0 := hide HD.out.2.lt
  clear hs hg1 hl ho hx
  go_wp2_with fail
  refine (roadName_any d 1000 _ HD.out.1 (HS1.out.more (by omega)) (by omega)).mono ?_
  rintro e w2 ⟨⟨r, rfl, hr⟩, hs, hg⟩
  have HO2 := hide (own_far HO1.out hg HG0.out)
  have HB : Hid (Below w.heap.size w w2) := hide (by have := hs.1; rwa [HWE.out] at this)
  have HR := hide hr
  clear hs hg hr
  go_wp2
  refine bodyPost_ret (v := .tuple #[.slice A1 l.length c1, .string r]) (by simp [results, Try.results42, go_sem, *]) rfl ?_
  exact ⟨⟨A1, c1, l, r, rfl, HR.out, HL.out, own_le HO2.out (by simp)⟩, HB.out⟩

set_option maxHeartbeats 4000000 in
theorem DrawGapsOf_any (A : Option Addr) (n c : Nat) (code : List Int) (w : World) (hn : n = code.length) (hm : n ≤ maxLen) (hb : ∀ x ∈ code, 0 ≤ x ∧ x ≤ 255) (hr : Rd w A (code.map (Value.int .u8))) :
    Calls Try.prog 12 #[.slice A n c] w (StrsRoad w) := by
  have Q := hide (DrawHousesOf_any A n c code w hn hm hb hr)
  clear hn hm hb hr
  go_enter Try.func12, Try.ntmps12
  go_wp2_with fail
  refine Q.out.mono ?_
  rintro e w2 ⟨⟨A1, c1, l, r, rfl, hr, ho⟩, hb⟩
  have HO := hide (And.intro hr (And.intro ho hb))
  clear hr ho hb
  go_wp2
  refine bodyPost_ret (v := .tuple #[.slice A1 l.length c1, .string r]) (by simp [results, Try.results12, go_sem, *]) rfl ?_
  exact ⟨⟨A1, c1, l, r, rfl, HO.out.1, HO.out.2.1⟩, HO.out.2.2⟩

set_option maxRecDepth 100000 in
set_option maxHeartbeats 8000000 in
theorem DrawFindAddress_any (A : Option Addr) (n c : Nat) (code : List Int) (w : World) (hn : n = code.length) (hm : n ≤ maxLen) (hb : ∀ x ∈ code, 0 ≤ x ∧ x ≤ 255) (hr : Rd w A (code.map (Value.int .u8))) :
    Calls Try.prog 36 #[.slice A n c] w (StrsHouse w) := by
  have HD := hide (drw_start w A n c code 54 hn hm hb hr)
  clear hn hm hb hr
  obtain ⟨d, hd⟩ : ∃ d, d = Drw.mk w w.heap.size A n c code := ⟨_, rfl⟩
  rw [← hd] at HD
  have HGE := hide (show w.heap.size = d.g by rw [hd])
  have HWE := hide (show d.W0 = w by rw [hd])
  clear hd
  go_enter Try.func36, Try.ntmps36
  go_wp2_with fail
  rw [HGE.out]
  refine (stretches_any d 0 _ HD.out.1 HD.out.2 (by omega)).mono ?_
  rintro e w1 ⟨⟨A1, c1, l, rfl, hl, hx, ho⟩, hs, hg1⟩
  have HS := hide hs
  have HL := hide (And.intro hl hx)
  have HO := hide ho
  have HG0 := hide HD.out.2.lt
  clear hs hg1 hl ho hx
  obtain ⟨k, hk⟩ : ∃ k, k = l.length := ⟨_, rfl⟩
  have HK := hide hk
  rw [← hk]
  clear hk
  cases hz : decide (0 < k) with
  | false =>
    have hz0 : k = 0 := by simpa using hz
    subst hz0
    clear hz
    go_wp2_with fail
    refine (roadName_any d 1000 _ HD.out.1 (HS.out.more (by omega)) (by omega)).mono ?_
    rintro e w3 ⟨⟨r, rfl, hr⟩, hs, hg⟩
    replace HO := hide (own_far HO.out hg HG0.out)
    replace HS := hide hs
    have HR := hide hr
    clear hs hg hr
    go_wp2_with fail
    refine (houseOf_any d 1004 _ HD.out.1 HS.out (by omega)).mono ?_
    rintro e w4 ⟨⟨h, rfl, -⟩, hs, hg⟩
    replace HO := hide (own_far HO.out hg HG0.out)
    have HB : Hid (Below w.heap.size w w4) := hide (by have := hs.1; rwa [HWE.out] at this)
    clear hs hg
    go_wp2
    refine bodyPost_ret (v := .tuple #[.slice A1 0 c1, .string r, .int .i64 h]) (by simp [results, Try.results36, go_sem, *]) rfl ?_
    exact ⟨⟨A1, c1, l, r, h, by rw [← HK.out], HR.out, HL.out, own_le HO.out (by simp)⟩, HB.out⟩
  | true =>
    have hz0 : 0 < k := by simpa using hz
    clear hz
    go_wp2_with fail
    refine (one_any d 1000 4 _ HD.out.1 (HS.out.more (by omega)) (by omega) (by omega)).mono ?_
    rintro e w2 ⟨⟨b, rfl⟩, hs, hg⟩
    replace HO := hide (own_far HO.out hg HG0.out)
    replace HS := hide hs
    clear hs hg
    cases b with
    | true =>
      go_wp2_with fail
      refine (roadName_any d 1002 _ HD.out.1 HS.out (by omega)).mono ?_
      rintro e w3 ⟨⟨r, rfl, hr⟩, hs, hg⟩
      replace HO := hide (own_far HO.out hg HG0.out)
      replace HS := hide hs
      have HR := hide hr
      clear hs hg hr
      go_wp2_with fail
      refine (houseOf_any d 1006 _ HD.out.1 HS.out (by omega)).mono ?_
      rintro e w4 ⟨⟨h, rfl, -⟩, hs, hg⟩
      replace HO := hide (own_far HO.out hg HG0.out)
      have HB : Hid (Below w.heap.size w w4) := hide (by have := hs.1; rwa [HWE.out] at this)
      clear hs hg
      go_wp2
      refine bodyPost_ret (v := .tuple #[.slice A1 k c1, .string r, .int .i64 h]) (by simp [results, Try.results36, go_sem, *]) rfl ?_
      exact ⟨⟨A1, c1, l, r, h, by rw [HK.out], HR.out, HL.out, own_le HO.out (by simp)⟩, HB.out⟩
    | false =>
      go_wp2_with fail
      refine (pick_any d 1002 (k : Int) _ HD.out.1 HS.out (by omega) (by have := HL.out.1; have := HK.out; omega)).mono ?_
      rintro e w3 ⟨⟨x, rfl, hx0, hx1, hx2⟩, hs, hg⟩
      replace HO := hide (own_far HO.out hg HG0.out)
      replace HS := hide hs
      obtain ⟨j, rfl⟩ := Int.eq_ofNat_of_zero_le hx0
      have hjk : j < k := by omega
      clear hs hg hx0 hx1 hx2
      obtain ⟨⟨x0, x1, x2, x3, x4⟩, hx⟩ : ∃ x, l[j]? = some x := ⟨_, List.getElem?_eq_getElem (by rw [← HK.out]; exact hjk)⟩
      have HX := hide (show x0.size ≤ 20 from HL.out.2 _ (List.mem_of_getElem? hx))
      obtain ⟨b, off, rfl, hbs, c0, c1', c2, c3, c4⟩ := (own_rd HO.out).get5 (fun _ => rfl) hx rfl
      dsimp only at c0 c1' c2 c3 c4
      have hj0 : (0 : Int) ≤ (j : Int) := by omega
      have hj1 : (j : Int) < (k : Int) := by omega
      clear hx
      go_upto_region 5 with fail
      have HS3 := HS
      have HBX := hide (Row.new w3 #[.string x0, .int .i64 x1, .int .i64 x2, .int .i64 x3, .int .i64 x4] 25)
      replace HS := hide (HS.out.alloc (.cells #[.string x0, .int .i64 x1, .int .i64 x2, .int .i64 x3, .int .i64 x4] 25))
      replace HO := hide (World.ownsRow.alloc HO.out (.cells #[.string x0, .int .i64 x1, .int .i64 x2, .int .i64 x3, .int .i64 x4] 25))
      have tg : w3.heap.size ≠ d.g := by have := HS3.out.lt; omega
      clear c0 c1' c2 c3 c4 hbs
      generalize w3.alloc (.cells #[.string x0, .int .i64 x1, .int .i64 x2, .int .i64 x3, .int .i64 x4] 25) = w4 at *
      generalize w3.heap.size = tb at *
      have r0 := HBX.out.2.1 0 _ rfl
      have r1 := HBX.out.2.1 1 _ rfl
      have r2 := HBX.out.2.1 2 _ rfl
      have rz := HBX.out.1
      obtain ⟨lo, hlo⟩ : ∃ lo, IntKind.i64.wrap (x1 - 1) = lo := ⟨_, rfl⟩
      go_wp2_with fail
      refine wpAnyS_start (fun w' => ∃ n : LaterX w4 d.g, w' = n.w) (n := 22) (by kernel_rfl) rfl rfl ?_
      refine wpAnyS_take_allE [0, 1, 2, 3, 4, 5, 6, 7, 8, 9, 10, 11, 12, 13, 14] 7 rfl (by kernel_rfl) (by intro c a d v w h; cases d <;> exact h) (by kernel_rfl) (by simp; rfl) rfl (laterX_drew _ _) ?_
      repeat (go_big_quiet_step (fail))
      refine wpQuiet_nil ?_
      have HLX : Hid (∃ n : LaterX w4 d.g, w4.drew = n.w) := hide (laterX_drew _ _)
      have HG4 : Hid (w4.grownBy w4.drew (some d.g)) := hide (grown_of_below (Below.refl _ _).drew _)
      replace HS := hide HS.out.drew
      replace HO := hide (own_below HO.out (Below.refl _ _).drew)
      clear r0 r1 r2 rz hlo
      generalize w4.drew = V0 at *
      refine wpAnyS_only 15 (by kernel_rfl) (by simp; rfl) rfl rfl (fun K hK => ?_)
      go_wp2_with fail
      refine (l1Least_any x2 999 _).mono ?_
      rintro e V1 ⟨rfl, rfl⟩
      generalize min x2 999 = v
      obtain ⟨hi, hhi⟩ : ∃ hi, IntKind.i64.wrap (v + 1) = hi := ⟨_, rfl⟩
      go_wp2_with fail
      refine ⟨laterX_of HG4.out, ?_⟩
      refine wpAnyS_take_allE [16] 5 rfl (by kernel_rfl) (by intro c a d v w h; cases d <;> exact h) (by kernel_rfl) (by simp; rfl) rfl (laterX_of HG4.out) ?_
      repeat (go_big_quiet_step (fail))
      refine wpQuiet_nil ?_
      clear hhi
      refine wpAnyS_only 17 (by kernel_rfl) (by simp; rfl) rfl rfl (fun K hK => ?_)
      have HB5 := hide (Row.new V0 #[.int .i64 x1, .int .i64 x2, .int .i64 x2, .int .i64 lo, .int .i64 hi] 3)
      have HBG : Hid (V0.heap.size ≠ d.g) := hide (by have := HS.out.lt; omega)
      replace HS := hide (HS.out.alloc (.cells #[.int .i64 x1, .int .i64 x2, .int .i64 x2, .int .i64 lo, .int .i64 hi] 3))
      replace HO := hide (World.ownsRow.alloc HO.out (.cells #[.int .i64 x1, .int .i64 x2, .int .i64 x2, .int .i64 lo, .int .i64 hi] 3))
      replace HG4 := hide (grown_new HG4.out (.cells #[.int .i64 x1, .int .i64 x2, .int .i64 x2, .int .i64 lo, .int .i64 hi] 3))
      refine wp_ints5 x1 x2 x2 lo hi (.tmp 33) (.tmp 35) (.tmp 37) (.tmp 40) (.tmp 44) rfl rfl rfl rfl rfl rfl (hK _ _ ⟨laterX_of HG4.out, ?_⟩)
      simp only [Act.put, List.setIfInBounds_toArray, List.set_cons_succ, List.set_cons_zero]
      generalize V0.alloc (.cells #[.int .i64 x1, .int .i64 x2, .int .i64 x2, .int .i64 lo, .int .i64 hi] 3) = V2 at *
      generalize V0.heap.size = lb at *
      refine wpAnyS_only 18 (by kernel_rfl) (by simp; rfl) rfl rfl (fun K hK => ?_)
      go_wp2_with fail
      refine (among_any d 1004 (some ⟨lb, 0, none⟩) 5 5 [x1, x2, x2, lo, hi] _ HD.out.1 HS.out (by omega) rfl (by omega) (by omega) (by exact HB5.out.rd) (fun b o sp e => by injection e with e; injection e with e; have := HBG.out; omega)).mono ?_
      rintro e V3 ⟨⟨z, rfl, -⟩, hs, hg⟩
      replace HO := hide (own_far HO.out hg HG0.out)
      replace HG4 := hide (grown_trans HG4.out hg)
      have HB : Hid (Below w.heap.size w V3) := hide (by have := hs.1; rwa [HWE.out] at this)
      clear hs hg HB5
      go_wp2_with fail
      refine ⟨laterX_of HG4.out, ?_⟩
      refine wpAnyS_take_allE [19, 20, 21] 0 rfl (by kernel_rfl) (by intro c a d v w h; cases d <;> exact h) (by kernel_rfl) (by simp; rfl) rfl (laterX_of HG4.out) ?_
      repeat (go_big_quiet_step (fail))
      refine wpQuiet_nil ?_
      refine wpAnyH_done (by kernel_rfl) ?_ _
      go_wp2
      refine bodyPost_ret (v := .tuple #[.slice (some ⟨b, off, none⟩) k c1, .string x0, .int .i64 z]) (by simp [results, Try.results36, go_sem, *]) rfl ?_
      exact ⟨⟨some ⟨b, off, none⟩, c1, l, x0, z, by rw [HK.out], HX.out, HL.out, own_le HO.out (by simp)⟩, HB.out⟩

set_option maxHeartbeats 4000000 in
theorem DrawRemoveHouse_any (A : Option Addr) (n c : Nat) (code : List Int) (w : World) (hn : n = code.length) (hm : n ≤ maxLen) (hb : ∀ x ∈ code, 0 ≤ x ∧ x ≤ 255) (hr : Rd w A (code.map (Value.int .u8))) :
    Calls Try.prog 7 #[.slice A n c] w (StrsHouse w) := by
  have Q := hide (DrawFindAddress_any A n c code w hn hm hb hr)
  clear hn hm hb hr
  go_enter Try.func7, Try.ntmps7
  go_wp2_with fail
  refine Q.out.mono ?_
  rintro e w2 ⟨⟨A1, c1, l, r, h, rfl, hr, ho⟩, hb⟩
  have HO := hide (And.intro hr (And.intro ho hb))
  clear hr ho hb
  go_wp2
  refine bodyPost_ret (v := .tuple #[.slice A1 l.length c1, .string r, .int .i64 h]) (by simp [results, Try.results7, go_sem, *]) rfl ?_
  exact ⟨⟨A1, c1, l, r, h, rfl, HO.out.1, HO.out.2.1⟩, HO.out.2.2⟩

end Go.Proofs.Ytpkhdmhfkmajcaa

/- Several texts in one. The laws' own functions on towns. The laws' own comparison of lists of integers, and their guard on sizes. A street added: the program's way, at a list that may be nil. The law over towns' validity: what the law's call returns. MiddleNode: the program's. -/
import Derived.Test.YtbhnaakknfienaaGreatDoorSmall
import Derived.Test.YtbhnaakknfienaaGreatDoorRegions
import Derived.Test.YtbhnaakknfienaaGreatDoorRow
import Derived.Test.YtbhnaakknfienaaGreatDoorTownM
import Derived.Test.YtbhnaakknfienaaGreatDoorAstA
import Derived.Test.YtbhnaakknfienaaGreatDoorTownF
import Derived.Test.YtbhnaakknfienaaGreatDoorTownMi
import Derived.Deep.DeepCutAuto
import Derived.Deep.CutBlock
namespace Go.Proofs.YtbhnaakknfienaaGreatDoor
open Go.RowKit
set_option linter.unusedVariables false

set_option maxHeartbeats 2000000 in
theorem pSameStreets_same (A B : Option Addr) (n c d : Nat) (l : List (Int × Int × Int)) (w : World) (hn : n = l.length) (hm : n ≤ 1048576) (hr : Rd w A (l.flatMap tcells)) (hs : Rd w B (l.flatMap tcells)) :
    Calls Tryz.prog 13 #[.slice A n c, .slice B n d] w fun e w' => e = .returned (.bool true) ∧ Below w.heap.size w w' := by
  have Hn := hide hn
  have Hr := hide hr
  have Hs := hide hs
  clear hn hr hs
  go_enter Tryz.func13, Tryz.ntmps13
  go_wp2_with fail
  go_loopw [13] (fun t wr => ∃ k : Nat, k ≤ n ∧ t = .int .i64 k ∧ Below w.heap.size w wr) (fun t _ => n - (intOf t).toNat)
  case atStart => exact ⟨0, by omega, rfl, Below.refl _ _⟩
  case round =>
    obtain ⟨k, hk, rfl, hb⟩ := hrel
    by_cases hlt : k < n
    · obtain ⟨⟨x0, x1, x2⟩, hh⟩ : ∃ h, l[k]? = some h := ⟨_, List.getElem?_eq_getElem (by rw [← Hn.out]; exact hlt)⟩
      obtain ⟨b, off, rfl, hbs, c0, c1, c2⟩ := (Hr.out.below hb).get3 (fun _ => rfl) hh rfl
      obtain ⟨b', off', rfl, hbs', d0, d1, d2⟩ := (Hs.out.below hb).get3 (fun _ => rfl) hh rfl
      clear hh
      have hi0 : (0 : Int) ≤ (k : Int) := by omega
      have hi1 : (k : Int) < (n : Int) := by omega
      go_wp2_with fail
      refine wp_region_later (by kernel_rfl) (by kernel_rfl) ?_
      repeat (go_big_quiet_step (fail))
      refine wpQuiet_nil ?_
      refine later_intro fun w1 hb1 => ?_
      go_wp2
      go_roundw
      case rel => exact ⟨k + 1, by omega, by go_num, below_step hb hb1⟩
      case measure => simp [intOf]; omega
    · have hkn : ((k : Int) < (n : Int)) = False := by simp; omega
      go_wp2
      go_ret
      exact ⟨rfl, hb⟩

set_option maxHeartbeats 2000000 in
theorem pSameTown_same (nd : Int) (A B : Option Addr) (n c d : Nat) (l : List (Int × Int × Int)) (w : World) (hn : n = l.length) (hm : n ≤ 1048576) (hr : Rd w A (l.flatMap tcells)) (hs : Rd w B (l.flatMap tcells)) :
    Calls Tryz.prog 12 #[.agg #[.int .i64 nd, .slice A n c], .agg #[.int .i64 nd, .slice B n d]] w fun e w' => e = .returned (.bool true) ∧ Below w.heap.size w w' := by
  have Q1 := hide (fun (W : World) (h : Below w.heap.size w W) => pSameStreets_same A B n c d l W hn hm (hr.below h) (hs.below h))
  have HX := hide ((Row.new w #[.int .i64 nd, .slice A n c] 26).alloc (.cells #[.int .i64 nd, .slice B n d] 26))
  have HY0 := Row.new (w.alloc (.cells #[.int .i64 nd, .slice A n c] 26)) #[.int .i64 nd, .slice B n d] 26
  rw [show (w.alloc (.cells #[.int .i64 nd, .slice A n c] 26)).heap.size = w.heap.size + 1 by simp] at HY0
  have HY := hide HY0
  have HB := hide (below_alloc (below_alloc (Below.refl w.heap.size w) (.cells #[.int .i64 nd, .slice A n c] 26)) (.cells #[.int .i64 nd, .slice B n d] 26))
  clear hn hm hr hs HY0
  go_enter Tryz.func12, Tryz.ntmps12
  go_upto_region 1 with fail
  generalize (w.alloc (.cells #[.int .i64 nd, .slice A n c] 26)).alloc (.cells #[.int .i64 nd, .slice B n d] 26) = w1 at *
  have a0 := HX.out.2.1 0 _ rfl
  have a1 := HX.out.2.1 1 _ rfl
  have az := HX.out.1
  have b0 := HY.out.2.1 0 _ rfl
  have b1 := HY.out.2.1 1 _ rfl
  have bz := HY.out.1
  go_wp2_with fail
  refine (Q1.out _ HB.out).mono ?_
  rintro e w2 ⟨rfl, hq⟩
  replace HB := hide (below_step HB.out hq)
  clear hq a0 a1 az b0 b1 bz Q1
  go_wp2_with fail
  go_ret
  exact ⟨rfl, HB.out⟩
end Go.Proofs.YtbhnaakknfienaaGreatDoor
namespace Go.Proofs.YtbhnaakknfienaaGreatDoor
open Go.RowKit
set_option linter.unusedVariables false

def AnyBool (w : World) (e : Ending) (w' : World) : Prop := (∃ b : Bool, e = .returned (.bool b)) ∧ w = w'

set_option maxHeartbeats 1000000 in
theorem big_any (A B : Option Addr) (n c m k : Nat) (w : World) (hn : n ≤ 9223372036854775807) (hm : m ≤ 9223372036854775807) :
    Calls Tryz.prog 4 #[.slice A n c, .slice B m k] w (AnyBool w) := by
  by_cases h : (1048576 : Int) < (n : Int)
  · have h' : decide ((1048576 : Int) < (n : Int)) = true := by simpa using h
    go_enter Tryz.func4, Tryz.ntmps4
    go_wp2
    go_ret
    exact ⟨⟨_, rfl⟩, rfl⟩
  · have h' : decide ((1048576 : Int) < (n : Int)) = false := by simpa using h
    go_enter Tryz.func4, Tryz.ntmps4
    go_wp2
    go_ret
    exact ⟨⟨_, rfl⟩, rfl⟩
end Go.Proofs.YtbhnaakknfienaaGreatDoor
namespace Go.Proofs.YtbhnaakknfienaaGreatDoor
open Go.RowKit
set_option linter.unusedVariables false

set_option maxHeartbeats 2000000 in
theorem clone_all (A : Option Addr) (n c : Nat) (l : List (Int × Int × Int)) (w : World) (hn : n = l.length) (hm : n ≤ 1048576) (hr : Rd w A (l.flatMap tcells)) (hA : (A = none ∧ n = 0 ∧ c = 0) ∨ ∃ b off, A = some ⟨b, off, none⟩) :
    Calls Tryz.prog 49 #[.slice A n c] w fun e w' => (∃ v, e = .returned v ∧ w'.ownsRow w.heap.size 39 3 v n (l.flatMap tcells)) ∧ Below w.heap.size w w' := by
  rcases hA with ⟨rfl, rfl, rfl⟩ | ⟨b, off, rfl⟩
  · have hl : l = [] := List.length_eq_zero_iff.1 hn.symm
    subst hl
    have hnil : ∀ W, (binOp .eql 24 (.slice none 0 0) (.slice none 0 0)).run Tryz.prog W = .ok (.bool true) W := fun W => Lib.run_eql_slice_nil W _ _ none 0 0 0 0 Tryz.underlying24
    clear hn hr hm
    go_enter Tryz.func49, Tryz.ntmps49
    go_wp2
    go_ret
    exact ⟨⟨_, rfl, World.ownsRow_nil _ _ _ _⟩, Below.refl _ _⟩
  · exact clone_any b off n c l w hn hm hr

set_option maxRecDepth 100000 in
set_option maxHeartbeats 8000000 in
theorem implAddStreet_all (nd : Int) (A : Option Addr) (n c : Nat) (l : List (Int × Int × Int)) (s0 s1 s2 : Int) (w : World) (hn : n = l.length) (hnc : n ≤ c) (hc : c ≤ maxLen) (hr : Rd w A (l.flatMap tcells)) (hA : (A = none ∧ n = 0 ∧ c = 0) ∨ ∃ b off, A = some ⟨b, off, none⟩) :
    Calls Tryz.prog 17 #[.agg #[.int .i64 nd, .slice A n c], .agg #[.int .i64 s0, .int .i64 s1, .int .i64 s2]] w (AdsPost nd l (s0, s1, s2) w) := by
  have Hn := hide hn
  have Hr := hide hr
  have hm : n ≤ maxLen := Nat.le_trans hnc hc
  have HA := hide hA
  clear hn hr hA
  by_cases hsw : s0 > s1
  · have HT := hide (show turnT (s0, s1, s2) = (s1, s0, s2) from if_pos hsw)
    go_enter Tryz.func17, Tryz.ntmps17
    go_wp2_with fail
    have HF := hide (((Row.new w #[.int .i64 nd, .slice A n c] 26).alloc (.cells #[.int .i64 s1, .int .i64 s0, .int .i64 s2] 39)).alloc (.cells #[.int .i64 0, .slice none 0 0] 26))
    have HS : Hid (Row (((w.alloc (.cells #[.int .i64 nd, .slice A n c] 26)).alloc (.cells #[.int .i64 s1, .int .i64 s0, .int .i64 s2] 39)).alloc (.cells #[.int .i64 0, .slice none 0 0] 26)) (w.heap.size + 1) [.int .i64 s1, .int .i64 s0, .int .i64 s2]) := hide (by
      have h := (Row.new (w.alloc (.cells #[.int .i64 nd, .slice A n c] 26)) #[.int .i64 s1, .int .i64 s0, .int .i64 s2] 39).alloc (.cells #[.int .i64 0, .slice none 0 0] 26)
      rwa [show (w.alloc (.cells #[.int .i64 nd, .slice A n c] 26)).heap.size = w.heap.size + 1 by simp] at h)
    have HG : Hid (Row (((w.alloc (.cells #[.int .i64 nd, .slice A n c] 26)).alloc (.cells #[.int .i64 s1, .int .i64 s0, .int .i64 s2] 39)).alloc (.cells #[.int .i64 0, .slice none 0 0] 26)) (w.heap.size + 1 + 1) [.int .i64 0, .slice none 0 0]) := hide (by
      have h := Row.new ((w.alloc (.cells #[.int .i64 nd, .slice A n c] 26)).alloc (.cells #[.int .i64 s1, .int .i64 s0, .int .i64 s2] 39)) #[.int .i64 0, .slice none 0 0] 26
      rwa [show ((w.alloc (.cells #[.int .i64 nd, .slice A n c] 26)).alloc (.cells #[.int .i64 s1, .int .i64 s0, .int .i64 s2] 39)).heap.size = w.heap.size + 1 + 1 by simp] at h)
    have HW := hide (below_alloc (below_alloc (below_alloc (Below.refl w.heap.size w) (.cells #[.int .i64 nd, .slice A n c] 26)) (.cells #[.int .i64 s1, .int .i64 s0, .int .i64 s2] 39)) (.cells #[.int .i64 0, .slice none 0 0] 26))
    generalize ((w.alloc (.cells #[.int .i64 nd, .slice A n c] 26)).alloc (.cells #[.int .i64 s1, .int .i64 s0, .int .i64 s2] 39)).alloc (.cells #[.int .i64 0, .slice none 0 0] 26) = W0 at *
    have Q := hide (implisTown_any w.heap.size nd A n c l W0 Hn.out hm (Hr.out.below HW.out) HF.out.1 (HF.out.2.1 0 _ rfl) (HF.out.2.1 1 _ rfl))
    have HTF := hide (turn_fit nd (s0, s1, s2))
    have HTS : Hid (stFind l s1 s0 = stFind l (s0, s1, s2).1 (s0, s1, s2).2.1) := hide (by have h := turn_find l (s0, s1, s2); rw [HT.out] at h; exact h)
    rw [HT.out] at HTF
    cases ht : townB nd l with
    | false =>
      have HE := hide (show adsOk nd l (s0, s1, s2) = false by rw [adsOk, ht]; rfl)
      rw [ht] at Q
      clear ht
      refine Q.out.mono ?_
      rintro e w1 ⟨rfl, hq⟩
      replace HW := hide (below_step HW.out hq)
      replace HF := hide (HF.out.below hq)
      replace HS := hide (HS.out.below hq)
      replace HG := hide (HG.out.below hq)
      clear hq
      have e0 := HG.out.2.1 0 _ rfl
      have e1 := HG.out.2.1 1 _ rfl
      have f0 := HG.out.free 0
      have f1 := HG.out.free 1
      go_wp2
      exact bodyPost_ret (v := .tuple #[.agg #[.int .i64 0, .slice none 0 0], .bool false]) (by simp [results, Tryz.results17, go_sem, *]) rfl (AdsPost.no HE.out ((HW.out.setCell (by simp; omega) _).setCell (by simp; omega) _))
    | true =>
      rw [ht] at Q
      have HTB := hide ht
      obtain ⟨k0, rfl, hk0⟩ := townB_ok ht
      have h1 := hk0.lo
      have h2 := hk0.hi
      have hn40 : n ≤ 40 := by have := hk0.len; have := Hn.out; omega
      clear ht hk0
      refine Q.out.mono ?_
      rintro e w1 ⟨rfl, hq⟩
      replace HW := hide (below_step HW.out hq)
      replace HF := hide (HF.out.below hq)
      replace HS := hide (HS.out.below hq)
      replace HG := hide (HG.out.below hq)
      clear hq
      have a0 := HF.out.2.1 0 _ rfl
      have a1 := HF.out.2.1 1 _ rfl
      have r0 := HS.out.2.1 0 _ rfl
      have r1 := HS.out.2.1 1 _ rfl
      have r2 := HS.out.2.1 2 _ rfl
      have az := HF.out.1
      have rz := HS.out.1
      have QF := hide (fits_any w.heap.size (k0 : Int) s1 s0 s2 w1 (by omega) (by omega) az a0)
      cases hf : fitB (k0 : Int) (s1, s0, s2) with
      | false =>
        have HE := hide (show adsOk k0 l (s0, s1, s2) = false by rw [adsOk, ← HTF.out, hf, Bool.and_false]; rfl)
        rw [hf] at QF
        clear hf
        go_wp2_with fail
        refine QF.out.mono ?_
        rintro e w2 ⟨rfl, hq⟩
        clear a0 a1 r0 r1 r2 az rz
        replace HW := hide (below_step HW.out hq)
        replace HF := hide (HF.out.below hq)
        replace HS := hide (HS.out.below hq)
        replace HG := hide (HG.out.below hq)
        clear hq
        have e0 := HG.out.2.1 0 _ rfl
        have e1 := HG.out.2.1 1 _ rfl
        have f0 := HG.out.free 0
        have f1 := HG.out.free 1
        go_wp2
        exact bodyPost_ret (v := .tuple #[.agg #[.int .i64 0, .slice none 0 0], .bool false]) (by simp [results, Tryz.results17, go_sem, *]) rfl (AdsPost.no HE.out ((HW.out.setCell (by simp; omega) _).setCell (by simp; omega) _))
      | true =>
        rw [hf] at QF
        have HFT := hide hf
        clear hf
        go_wp2_with fail
        refine QF.out.mono ?_
        rintro e w2 ⟨rfl, hq⟩
        clear a0 a1 r0 r1 r2 az rz
        replace HW := hide (below_step HW.out hq)
        replace HF := hide (HF.out.below hq)
        replace HS := hide (HS.out.below hq)
        replace HG := hide (HG.out.below hq)
        clear hq
        have a0 := HF.out.2.1 0 _ rfl
        have a1 := HF.out.2.1 1 _ rfl
        have r0 := HS.out.2.1 0 _ rfl
        have r1 := HS.out.2.1 1 _ rfl
        have r2 := HS.out.2.1 2 _ rfl
        have az := HF.out.1
        have rz := HS.out.1
        go_wp2_with fail
        refine (street_any w.heap.size A n c l s1 s0 _ Hn.out (by omega) (Hr.out.below HW.out) a1).mono ?_
        rintro e w3 ⟨rfl, hq⟩
        clear a0 a1 r0 r1 r2 az rz
        replace HW := hide (below_step HW.out hq)
        replace HF := hide (HF.out.below hq)
        replace HS := hide (HS.out.below hq)
        replace HG := hide (HG.out.below hq)
        clear hq
        have a0 := HF.out.2.1 0 _ rfl
        have a1 := HF.out.2.1 1 _ rfl
        have r0 := HS.out.2.1 0 _ rfl
        have r1 := HS.out.2.1 1 _ rfl
        have r2 := HS.out.2.1 2 _ rfl
        have az := HF.out.1
        have rz := HS.out.1
        by_cases hs : 0 ≤ stFind l s1 s0
        · have HE := hide (show adsOk k0 l (s0, s1, s2) = false by rw [adsOk, decide_eq_false (show ¬ stFind l (s0, s1, s2).1 (s0, s1, s2).2.1 < 0 by rw [← HTS.out]; omega), Bool.and_false]; rfl)
          have e0 := HG.out.2.1 0 _ rfl
          have e1 := HG.out.2.1 1 _ rfl
          have f0 := HG.out.free 0
          have f1 := HG.out.free 1
          go_wp2
          exact bodyPost_ret (v := .tuple #[.agg #[.int .i64 0, .slice none 0 0], .bool false]) (by simp [results, Tryz.results17, go_sem, *]) rfl (AdsPost.no HE.out ((HW.out.setCell (by simp; omega) _).setCell (by simp; omega) _))
        · by_cases h40 : n = 40
          · have HE := hide (show adsOk k0 l (s0, s1, s2) = false by rw [adsOk, decide_eq_false (show ¬ l.length < 40 by have := Hn.out; omega), Bool.and_false])
            have h40' : ((n : Int) == 40) = true := by simp; omega
            clear h40
            have e0 := HG.out.2.1 0 _ rfl
            have e1 := HG.out.2.1 1 _ rfl
            have f0 := HG.out.free 0
            have f1 := HG.out.free 1
            go_wp2
            exact bodyPost_ret (v := .tuple #[.agg #[.int .i64 0, .slice none 0 0], .bool false]) (by simp [results, Tryz.results17, go_sem, *]) rfl (AdsPost.no HE.out ((HW.out.setCell (by simp; omega) _).setCell (by simp; omega) _))
          · have HE := hide (show adsOk k0 l (s0, s1, s2) = true by rw [adsOk, HTB.out, ← HTF.out, HFT.out, decide_eq_true (show stFind l (s0, s1, s2).1 (s0, s1, s2).2.1 < 0 by rw [← HTS.out]; omega), decide_eq_true (show l.length < 40 by have := Hn.out; omega)]; rfl)
            have h40' : ((n : Int) == 40) = false := by simp; omega
            clear h40
            go_wp2_with fail
            refine (search_any A n c l s1 s0 s2 w3 Hn.out (by omega) (Hr.out.below HW.out)).mono ?_
            rintro e w4 ⟨⟨k, bb, rfl, hsk⟩, hq⟩
            clear a0 a1 r0 r1 r2 az rz
            replace HW := hide (below_step HW.out hq)
            replace HF := hide (HF.out.below hq)
            replace HS := hide (HS.out.below hq)
            replace HG := hide (HG.out.below hq)
            clear hq
            have a0 := HF.out.2.1 0 _ rfl
            have a1 := HF.out.2.1 1 _ rfl
            have r0 := HS.out.2.1 0 _ rfl
            have r1 := HS.out.2.1 1 _ rfl
            have r2 := HS.out.2.1 2 _ rfl
            have az := HF.out.1
            have rz := HS.out.1
            have HSK := hide hsk
            have hkn : k ≤ n := by have := hsk.1; have := Hn.out; omega
            clear hsk
            go_wp2_with fail
            refine wpAnyS_start (fun w' => ∃ n : LaterX w4 (w.heap.size + 1 + 1), w' = n.w) (n := 12) (by kernel_rfl) rfl rfl ?_
            refine wpAnyS_take_all [0, 1, 2, 3, 5, 6] 6 rfl (by kernel_rfl) (by intro c a d v w h; cases d <;> exact h) (by kernel_rfl) (by simp; rfl) rfl (laterX_drew _ _) ?_
            repeat (go_big_quiet_step (fail))
            refine wpQuiet_nil ?_
            clear a0 a1 r0 r1 r2 az rz
            have HL : Hid (Below w4.heap.size w4 w4.drew) := hide (Below.refl _ _).drew
            generalize w4.drew = V0 at *
            refine wpAnyS_two 4 7 (by kernel_rfl) (by simp; rfl) (by simp; rfl) rfl rfl rfl rfl (fun K hK => ?_) (fun K hK => ?_)
            · go_wp2_with fail
              refine (clone_all A n c l V0 Hn.out (by omega) (Hr.out.below (below_step HW.out HL.out)) HA.out).mono ?_
              rintro e w5 ⟨⟨v, rfl, ho⟩, hq⟩
              have HL5 := hide (below_step HL.out hq)
              have HO5 := hide (own_le (B' := w4.heap.size) ho HL.out.size)
              clear ho hq HL
              go_wp2_with fail
              refine ⟨laterX_of (grown_of_below HL5.out _), ?_⟩
              refine wpAnyS_only 7 (by kernel_rfl) (by simp; rfl) rfl rfl (fun K hK => ?_)
              have HL6 := hide (below_alloc HL5.out (.cells #[.int .i64 s1, .int .i64 s0, .int .i64 s2] 39))
              have HO6 := hide (World.ownsRow.alloc HO5.out (.cells #[.int .i64 s1, .int .i64 s0, .int .i64 s2] 39))
              have HN6 := hide (heap_new w5 #[.int .i64 s1, .int .i64 s0, .int .i64 s2] 39)
              have HNE : Hid (v.ownBlock ≠ some w5.heap.size) := hide (fun e => by have := (HO5.out.lt _ e).2; omega)
              go_wp2_with fail
              refine ⟨laterX_of (grown_of_below HL6.out _), ?_⟩
              generalize w5.alloc (.cells #[.int .i64 s1, .int .i64 s0, .int .i64 s2] 39) = w6 at *
              generalize w5.heap.size = VB at *
              refine wpAnyS_only 8 (by kernel_rfl) (by simp; rfl) rfl rfl (fun K hK => ?_)
              go_wp2_with fail
              refine (insStreet_any w4.heap.size v n k l s1 s0 s2 VB w6 HO6.out Hn.out hkn (by omega) HN6.out HNE.out HL6.out.size).mono ?_
              rintro e w7 ⟨⟨v', rfl, ho⟩, hg⟩
              have HB7 := hide (HL6.out.grown hg HL6.out.size (fun j hj => (HO6.out.lt _ hj).1))
              have HO7 := hide (own_le (B' := w.heap.size) ho HW.out.size)
              have HW7 := hide (below_step HW.out HB7.out)
              have HG7 := hide (HG.out.below HB7.out)
              have HGlt := hide HG.out.1
              have HLT : Hid (∀ b, v'.ownBlock = some b → w4.heap.size ≤ b) := hide (fun b hb => (ho.lt b hb).1)
              obtain ⟨A9, c9, hv9, -⟩ := own_open HO7.out
              subst hv9
              clear ho hg
              go_wp2_with fail
              refine ⟨laterX_of (grown_of_below HB7.out _), ?_⟩
              have e0 := HG7.out.2.1 0 _ rfl
              have e1 := HG7.out.2.1 1 _ rfl
              have f0 := HG7.out.free 0
              have f1 := HG7.out.free 1
              have HKP : Hid (∀ (W : World) (o : Nat) (u : Value), W.ownsRow w.heap.size 39 3 (.slice A9 (n + 1) c9) (n + 1) ((l.take k ++ [(s1, s0, s2)] ++ l.drop k).flatMap tcells) → (W.setCell ⟨w.heap.size + 1 + 1, o, none⟩ u).ownsRow w.heap.size 39 3 (.slice A9 (n + 1) c9) (n + 1) ((l.take k ++ [(s1, s0, s2)] ++ l.drop k).flatMap tcells)) := hide (fun W o u h => own_kept h (grown_set (g := w.heap.size + 1 + 1) u rfl) (fun b hb e => by injection e with e; have := HLT.out b hb; have := HGlt.out; omega))
              refine wpAnyS_only 9 (by kernel_rfl) (by simp; rfl) rfl rfl (fun K hK => ?_)
              go_wp2_with fail
              refine ⟨laterX_of (grown_of_below HB7.out _), ?_⟩
              refine wpAnyS_only 10 (by kernel_rfl) (by simp; rfl) rfl rfl (fun K hK => ?_)
              go_wp2_with fail
              refine ⟨laterX_of (grown_trans (grown_trans (grown_of_below HB7.out _) (grown_set _ rfl)) (grown_set _ rfl)), ?_⟩
              refine wpAnyS_only 11 (by kernel_rfl) (by simp; rfl) rfl rfl (fun K hK => ?_)
              go_wp2_with fail
              refine ⟨laterX_of (grown_trans (grown_trans (grown_of_below HB7.out _) (grown_set _ rfl)) (grown_set _ rfl)), ?_⟩
              refine wpAnyH_done (by kernel_rfl) ?_ _
              go_wp2
              exact bodyPost_ret (v := .tuple #[.agg #[.int .i64 (k0 : Int), (.slice A9 (n + 1) c9)], .bool true]) (by simp [results, Tryz.results17, go_sem, *]) rfl (AdsPost.yes (n := n + 1) HE.out (by rw [HT.out]; exact HSK.out) (by have := Hn.out; omega) (by rw [HT.out]; exact HKP.out _ _ _ (HKP.out _ _ _ HO7.out)) ((HW7.out.setCell (by simp; omega) _).setCell (by simp; omega) _))
            · go_wp2_with fail
              have HL5 := hide (below_alloc HL.out (.cells #[.int .i64 s1, .int .i64 s0, .int .i64 s2] 39))
              have HN5 := hide (heap_new V0 #[.int .i64 s1, .int .i64 s0, .int .i64 s2] 39)
              have HZ5 := hide (show V0.heap.size < (V0.alloc (.cells #[.int .i64 s1, .int .i64 s0, .int .i64 s2] 39)).heap.size by simp)
              refine ⟨laterX_of (grown_of_below HL5.out _), ?_⟩
              generalize V0.alloc (.cells #[.int .i64 s1, .int .i64 s0, .int .i64 s2] 39) = w5 at *
              generalize V0.heap.size = VB at *
              refine wpAnyS_only 4 (by kernel_rfl) (by simp; rfl) rfl rfl (fun K hK => ?_)
              go_wp2_with fail
              refine (clone_all A n c l w5 Hn.out (by omega) (Hr.out.below (below_step HW.out HL5.out)) HA.out).mono ?_
              rintro e w6 ⟨⟨v, rfl, ho⟩, hq⟩
              have HL6 := hide (below_step HL5.out hq)
              have HO6 := hide (own_le (B' := w4.heap.size) ho HL5.out.size)
              have HN6 := hide (heap_grown HN5.out (grown_of_below hq none) (by simp))
              have HNE : Hid (v.ownBlock ≠ some VB) := hide (fun e => by have := (ho.lt _ e).1; have := HZ5.out; omega)
              clear ho hq HL
              go_wp2_with fail
              refine ⟨laterX_of (grown_of_below HL6.out _), ?_⟩
              refine wpAnyS_only 8 (by kernel_rfl) (by simp; rfl) rfl rfl (fun K hK => ?_)
              go_wp2_with fail
              refine (insStreet_any w4.heap.size v n k l s1 s0 s2 VB w6 HO6.out Hn.out hkn (by omega) HN6.out HNE.out HL6.out.size).mono ?_
              rintro e w7 ⟨⟨v', rfl, ho⟩, hg⟩
              have HB7 := hide (HL6.out.grown hg HL6.out.size (fun j hj => (HO6.out.lt _ hj).1))
              have HO7 := hide (own_le (B' := w.heap.size) ho HW.out.size)
              have HW7 := hide (below_step HW.out HB7.out)
              have HG7 := hide (HG.out.below HB7.out)
              have HGlt := hide HG.out.1
              have HLT : Hid (∀ b, v'.ownBlock = some b → w4.heap.size ≤ b) := hide (fun b hb => (ho.lt b hb).1)
              obtain ⟨A9, c9, hv9, -⟩ := own_open HO7.out
              subst hv9
              clear ho hg
              go_wp2_with fail
              refine ⟨laterX_of (grown_of_below HB7.out _), ?_⟩
              have e0 := HG7.out.2.1 0 _ rfl
              have e1 := HG7.out.2.1 1 _ rfl
              have f0 := HG7.out.free 0
              have f1 := HG7.out.free 1
              have HKP : Hid (∀ (W : World) (o : Nat) (u : Value), W.ownsRow w.heap.size 39 3 (.slice A9 (n + 1) c9) (n + 1) ((l.take k ++ [(s1, s0, s2)] ++ l.drop k).flatMap tcells) → (W.setCell ⟨w.heap.size + 1 + 1, o, none⟩ u).ownsRow w.heap.size 39 3 (.slice A9 (n + 1) c9) (n + 1) ((l.take k ++ [(s1, s0, s2)] ++ l.drop k).flatMap tcells)) := hide (fun W o u h => own_kept h (grown_set (g := w.heap.size + 1 + 1) u rfl) (fun b hb e => by injection e with e; have := HLT.out b hb; have := HGlt.out; omega))
              refine wpAnyS_only 9 (by kernel_rfl) (by simp; rfl) rfl rfl (fun K hK => ?_)
              go_wp2_with fail
              refine ⟨laterX_of (grown_of_below HB7.out _), ?_⟩
              refine wpAnyS_only 10 (by kernel_rfl) (by simp; rfl) rfl rfl (fun K hK => ?_)
              go_wp2_with fail
              refine ⟨laterX_of (grown_trans (grown_trans (grown_of_below HB7.out _) (grown_set _ rfl)) (grown_set _ rfl)), ?_⟩
              refine wpAnyS_only 11 (by kernel_rfl) (by simp; rfl) rfl rfl (fun K hK => ?_)
              go_wp2_with fail
              refine ⟨laterX_of (grown_trans (grown_trans (grown_of_below HB7.out _) (grown_set _ rfl)) (grown_set _ rfl)), ?_⟩
              refine wpAnyH_done (by kernel_rfl) ?_ _
              go_wp2
              exact bodyPost_ret (v := .tuple #[.agg #[.int .i64 (k0 : Int), (.slice A9 (n + 1) c9)], .bool true]) (by simp [results, Tryz.results17, go_sem, *]) rfl (AdsPost.yes (n := n + 1) HE.out (by rw [HT.out]; exact HSK.out) (by have := Hn.out; omega) (by rw [HT.out]; exact HKP.out _ _ _ (HKP.out _ _ _ HO7.out)) ((HW7.out.setCell (by simp; omega) _).setCell (by simp; omega) _))
  · have HT := hide (show turnT (s0, s1, s2) = (s0, s1, s2) from if_neg hsw)
    go_enter Tryz.func17, Tryz.ntmps17
    go_wp2_with fail
    have HF := hide (((Row.new w #[.int .i64 nd, .slice A n c] 26).alloc (.cells #[.int .i64 s0, .int .i64 s1, .int .i64 s2] 39)).alloc (.cells #[.int .i64 0, .slice none 0 0] 26))
    have HS : Hid (Row (((w.alloc (.cells #[.int .i64 nd, .slice A n c] 26)).alloc (.cells #[.int .i64 s0, .int .i64 s1, .int .i64 s2] 39)).alloc (.cells #[.int .i64 0, .slice none 0 0] 26)) (w.heap.size + 1) [.int .i64 s0, .int .i64 s1, .int .i64 s2]) := hide (by
      have h := (Row.new (w.alloc (.cells #[.int .i64 nd, .slice A n c] 26)) #[.int .i64 s0, .int .i64 s1, .int .i64 s2] 39).alloc (.cells #[.int .i64 0, .slice none 0 0] 26)
      rwa [show (w.alloc (.cells #[.int .i64 nd, .slice A n c] 26)).heap.size = w.heap.size + 1 by simp] at h)
    have HG : Hid (Row (((w.alloc (.cells #[.int .i64 nd, .slice A n c] 26)).alloc (.cells #[.int .i64 s0, .int .i64 s1, .int .i64 s2] 39)).alloc (.cells #[.int .i64 0, .slice none 0 0] 26)) (w.heap.size + 1 + 1) [.int .i64 0, .slice none 0 0]) := hide (by
      have h := Row.new ((w.alloc (.cells #[.int .i64 nd, .slice A n c] 26)).alloc (.cells #[.int .i64 s0, .int .i64 s1, .int .i64 s2] 39)) #[.int .i64 0, .slice none 0 0] 26
      rwa [show ((w.alloc (.cells #[.int .i64 nd, .slice A n c] 26)).alloc (.cells #[.int .i64 s0, .int .i64 s1, .int .i64 s2] 39)).heap.size = w.heap.size + 1 + 1 by simp] at h)
    have HW := hide (below_alloc (below_alloc (below_alloc (Below.refl w.heap.size w) (.cells #[.int .i64 nd, .slice A n c] 26)) (.cells #[.int .i64 s0, .int .i64 s1, .int .i64 s2] 39)) (.cells #[.int .i64 0, .slice none 0 0] 26))
    generalize ((w.alloc (.cells #[.int .i64 nd, .slice A n c] 26)).alloc (.cells #[.int .i64 s0, .int .i64 s1, .int .i64 s2] 39)).alloc (.cells #[.int .i64 0, .slice none 0 0] 26) = W0 at *
    have Q := hide (implisTown_any w.heap.size nd A n c l W0 Hn.out hm (Hr.out.below HW.out) HF.out.1 (HF.out.2.1 0 _ rfl) (HF.out.2.1 1 _ rfl))
    have HTF := hide (turn_fit nd (s0, s1, s2))
    have HTS : Hid (stFind l s0 s1 = stFind l (s0, s1, s2).1 (s0, s1, s2).2.1) := hide (rfl)
    rw [HT.out] at HTF
    cases ht : townB nd l with
    | false =>
      have HE := hide (show adsOk nd l (s0, s1, s2) = false by rw [adsOk, ht]; rfl)
      rw [ht] at Q
      clear ht
      refine Q.out.mono ?_
      rintro e w1 ⟨rfl, hq⟩
      replace HW := hide (below_step HW.out hq)
      replace HF := hide (HF.out.below hq)
      replace HS := hide (HS.out.below hq)
      replace HG := hide (HG.out.below hq)
      clear hq
      have e0 := HG.out.2.1 0 _ rfl
      have e1 := HG.out.2.1 1 _ rfl
      have f0 := HG.out.free 0
      have f1 := HG.out.free 1
      go_wp2
      exact bodyPost_ret (v := .tuple #[.agg #[.int .i64 0, .slice none 0 0], .bool false]) (by simp [results, Tryz.results17, go_sem, *]) rfl (AdsPost.no HE.out ((HW.out.setCell (by simp; omega) _).setCell (by simp; omega) _))
    | true =>
      rw [ht] at Q
      have HTB := hide ht
      obtain ⟨k0, rfl, hk0⟩ := townB_ok ht
      have h1 := hk0.lo
      have h2 := hk0.hi
      have hn40 : n ≤ 40 := by have := hk0.len; have := Hn.out; omega
      clear ht hk0
      refine Q.out.mono ?_
      rintro e w1 ⟨rfl, hq⟩
      replace HW := hide (below_step HW.out hq)
      replace HF := hide (HF.out.below hq)
      replace HS := hide (HS.out.below hq)
      replace HG := hide (HG.out.below hq)
      clear hq
      have a0 := HF.out.2.1 0 _ rfl
      have a1 := HF.out.2.1 1 _ rfl
      have r0 := HS.out.2.1 0 _ rfl
      have r1 := HS.out.2.1 1 _ rfl
      have r2 := HS.out.2.1 2 _ rfl
      have az := HF.out.1
      have rz := HS.out.1
      have QF := hide (fits_any w.heap.size (k0 : Int) s0 s1 s2 w1 (by omega) (by omega) az a0)
      cases hf : fitB (k0 : Int) (s0, s1, s2) with
      | false =>
        have HE := hide (show adsOk k0 l (s0, s1, s2) = false by rw [adsOk, ← HTF.out, hf, Bool.and_false]; rfl)
        rw [hf] at QF
        clear hf
        go_wp2_with fail
        refine QF.out.mono ?_
        rintro e w2 ⟨rfl, hq⟩
        clear a0 a1 r0 r1 r2 az rz
        replace HW := hide (below_step HW.out hq)
        replace HF := hide (HF.out.below hq)
        replace HS := hide (HS.out.below hq)
        replace HG := hide (HG.out.below hq)
        clear hq
        have e0 := HG.out.2.1 0 _ rfl
        have e1 := HG.out.2.1 1 _ rfl
        have f0 := HG.out.free 0
        have f1 := HG.out.free 1
        go_wp2
        exact bodyPost_ret (v := .tuple #[.agg #[.int .i64 0, .slice none 0 0], .bool false]) (by simp [results, Tryz.results17, go_sem, *]) rfl (AdsPost.no HE.out ((HW.out.setCell (by simp; omega) _).setCell (by simp; omega) _))
      | true =>
        rw [hf] at QF
        have HFT := hide hf
        clear hf
        go_wp2_with fail
        refine QF.out.mono ?_
        rintro e w2 ⟨rfl, hq⟩
        clear a0 a1 r0 r1 r2 az rz
        replace HW := hide (below_step HW.out hq)
        replace HF := hide (HF.out.below hq)
        replace HS := hide (HS.out.below hq)
        replace HG := hide (HG.out.below hq)
        clear hq
        have a0 := HF.out.2.1 0 _ rfl
        have a1 := HF.out.2.1 1 _ rfl
        have r0 := HS.out.2.1 0 _ rfl
        have r1 := HS.out.2.1 1 _ rfl
        have r2 := HS.out.2.1 2 _ rfl
        have az := HF.out.1
        have rz := HS.out.1
        go_wp2_with fail
        refine (street_any w.heap.size A n c l s0 s1 _ Hn.out (by omega) (Hr.out.below HW.out) a1).mono ?_
        rintro e w3 ⟨rfl, hq⟩
        clear a0 a1 r0 r1 r2 az rz
        replace HW := hide (below_step HW.out hq)
        replace HF := hide (HF.out.below hq)
        replace HS := hide (HS.out.below hq)
        replace HG := hide (HG.out.below hq)
        clear hq
        have a0 := HF.out.2.1 0 _ rfl
        have a1 := HF.out.2.1 1 _ rfl
        have r0 := HS.out.2.1 0 _ rfl
        have r1 := HS.out.2.1 1 _ rfl
        have r2 := HS.out.2.1 2 _ rfl
        have az := HF.out.1
        have rz := HS.out.1
        by_cases hs : 0 ≤ stFind l s0 s1
        · have HE := hide (show adsOk k0 l (s0, s1, s2) = false by rw [adsOk, decide_eq_false (show ¬ stFind l (s0, s1, s2).1 (s0, s1, s2).2.1 < 0 by first | (show ¬ stFind l s0 s1 < 0; omega) | (show stFind l s0 s1 < 0; omega)), Bool.and_false]; rfl)
          have e0 := HG.out.2.1 0 _ rfl
          have e1 := HG.out.2.1 1 _ rfl
          have f0 := HG.out.free 0
          have f1 := HG.out.free 1
          go_wp2
          exact bodyPost_ret (v := .tuple #[.agg #[.int .i64 0, .slice none 0 0], .bool false]) (by simp [results, Tryz.results17, go_sem, *]) rfl (AdsPost.no HE.out ((HW.out.setCell (by simp; omega) _).setCell (by simp; omega) _))
        · by_cases h40 : n = 40
          · have HE := hide (show adsOk k0 l (s0, s1, s2) = false by rw [adsOk, decide_eq_false (show ¬ l.length < 40 by have := Hn.out; omega), Bool.and_false])
            have h40' : ((n : Int) == 40) = true := by simp; omega
            clear h40
            have e0 := HG.out.2.1 0 _ rfl
            have e1 := HG.out.2.1 1 _ rfl
            have f0 := HG.out.free 0
            have f1 := HG.out.free 1
            go_wp2
            exact bodyPost_ret (v := .tuple #[.agg #[.int .i64 0, .slice none 0 0], .bool false]) (by simp [results, Tryz.results17, go_sem, *]) rfl (AdsPost.no HE.out ((HW.out.setCell (by simp; omega) _).setCell (by simp; omega) _))
          · have HE := hide (show adsOk k0 l (s0, s1, s2) = true by rw [adsOk, HTB.out, ← HTF.out, HFT.out, decide_eq_true (show stFind l (s0, s1, s2).1 (s0, s1, s2).2.1 < 0 by first | (show ¬ stFind l s0 s1 < 0; omega) | (show stFind l s0 s1 < 0; omega)), decide_eq_true (show l.length < 40 by have := Hn.out; omega)]; rfl)
            have h40' : ((n : Int) == 40) = false := by simp; omega
            clear h40
            go_wp2_with fail
            refine (search_any A n c l s0 s1 s2 w3 Hn.out (by omega) (Hr.out.below HW.out)).mono ?_
            rintro e w4 ⟨⟨k, bb, rfl, hsk⟩, hq⟩
            clear a0 a1 r0 r1 r2 az rz
            replace HW := hide (below_step HW.out hq)
            replace HF := hide (HF.out.below hq)
            replace HS := hide (HS.out.below hq)
            replace HG := hide (HG.out.below hq)
            clear hq
            have a0 := HF.out.2.1 0 _ rfl
            have a1 := HF.out.2.1 1 _ rfl
            have r0 := HS.out.2.1 0 _ rfl
            have r1 := HS.out.2.1 1 _ rfl
            have r2 := HS.out.2.1 2 _ rfl
            have az := HF.out.1
            have rz := HS.out.1
            have HSK := hide hsk
            have hkn : k ≤ n := by have := hsk.1; have := Hn.out; omega
            clear hsk
            go_wp2_with fail
            refine wpAnyS_start (fun w' => ∃ n : LaterX w4 (w.heap.size + 1 + 1), w' = n.w) (n := 12) (by kernel_rfl) rfl rfl ?_
            refine wpAnyS_take_all [0, 1, 2, 3, 5, 6] 6 rfl (by kernel_rfl) (by intro c a d v w h; cases d <;> exact h) (by kernel_rfl) (by simp; rfl) rfl (laterX_drew _ _) ?_
            repeat (go_big_quiet_step (fail))
            refine wpQuiet_nil ?_
            clear a0 a1 r0 r1 r2 az rz
            have HL : Hid (Below w4.heap.size w4 w4.drew) := hide (Below.refl _ _).drew
            generalize w4.drew = V0 at *
            refine wpAnyS_two 4 7 (by kernel_rfl) (by simp; rfl) (by simp; rfl) rfl rfl rfl rfl (fun K hK => ?_) (fun K hK => ?_)
            · go_wp2_with fail
              refine (clone_all A n c l V0 Hn.out (by omega) (Hr.out.below (below_step HW.out HL.out)) HA.out).mono ?_
              rintro e w5 ⟨⟨v, rfl, ho⟩, hq⟩
              have HL5 := hide (below_step HL.out hq)
              have HO5 := hide (own_le (B' := w4.heap.size) ho HL.out.size)
              clear ho hq HL
              go_wp2_with fail
              refine ⟨laterX_of (grown_of_below HL5.out _), ?_⟩
              refine wpAnyS_only 7 (by kernel_rfl) (by simp; rfl) rfl rfl (fun K hK => ?_)
              have HL6 := hide (below_alloc HL5.out (.cells #[.int .i64 s0, .int .i64 s1, .int .i64 s2] 39))
              have HO6 := hide (World.ownsRow.alloc HO5.out (.cells #[.int .i64 s0, .int .i64 s1, .int .i64 s2] 39))
              have HN6 := hide (heap_new w5 #[.int .i64 s0, .int .i64 s1, .int .i64 s2] 39)
              have HNE : Hid (v.ownBlock ≠ some w5.heap.size) := hide (fun e => by have := (HO5.out.lt _ e).2; omega)
              go_wp2_with fail
              refine ⟨laterX_of (grown_of_below HL6.out _), ?_⟩
              generalize w5.alloc (.cells #[.int .i64 s0, .int .i64 s1, .int .i64 s2] 39) = w6 at *
              generalize w5.heap.size = VB at *
              refine wpAnyS_only 8 (by kernel_rfl) (by simp; rfl) rfl rfl (fun K hK => ?_)
              go_wp2_with fail
              refine (insStreet_any w4.heap.size v n k l s0 s1 s2 VB w6 HO6.out Hn.out hkn (by omega) HN6.out HNE.out HL6.out.size).mono ?_
              rintro e w7 ⟨⟨v', rfl, ho⟩, hg⟩
              have HB7 := hide (HL6.out.grown hg HL6.out.size (fun j hj => (HO6.out.lt _ hj).1))
              have HO7 := hide (own_le (B' := w.heap.size) ho HW.out.size)
              have HW7 := hide (below_step HW.out HB7.out)
              have HG7 := hide (HG.out.below HB7.out)
              have HGlt := hide HG.out.1
              have HLT : Hid (∀ b, v'.ownBlock = some b → w4.heap.size ≤ b) := hide (fun b hb => (ho.lt b hb).1)
              obtain ⟨A9, c9, hv9, -⟩ := own_open HO7.out
              subst hv9
              clear ho hg
              go_wp2_with fail
              refine ⟨laterX_of (grown_of_below HB7.out _), ?_⟩
              have e0 := HG7.out.2.1 0 _ rfl
              have e1 := HG7.out.2.1 1 _ rfl
              have f0 := HG7.out.free 0
              have f1 := HG7.out.free 1
              have HKP : Hid (∀ (W : World) (o : Nat) (u : Value), W.ownsRow w.heap.size 39 3 (.slice A9 (n + 1) c9) (n + 1) ((l.take k ++ [(s0, s1, s2)] ++ l.drop k).flatMap tcells) → (W.setCell ⟨w.heap.size + 1 + 1, o, none⟩ u).ownsRow w.heap.size 39 3 (.slice A9 (n + 1) c9) (n + 1) ((l.take k ++ [(s0, s1, s2)] ++ l.drop k).flatMap tcells)) := hide (fun W o u h => own_kept h (grown_set (g := w.heap.size + 1 + 1) u rfl) (fun b hb e => by injection e with e; have := HLT.out b hb; have := HGlt.out; omega))
              refine wpAnyS_only 9 (by kernel_rfl) (by simp; rfl) rfl rfl (fun K hK => ?_)
              go_wp2_with fail
              refine ⟨laterX_of (grown_of_below HB7.out _), ?_⟩
              refine wpAnyS_only 10 (by kernel_rfl) (by simp; rfl) rfl rfl (fun K hK => ?_)
              go_wp2_with fail
              refine ⟨laterX_of (grown_trans (grown_trans (grown_of_below HB7.out _) (grown_set _ rfl)) (grown_set _ rfl)), ?_⟩
              refine wpAnyS_only 11 (by kernel_rfl) (by simp; rfl) rfl rfl (fun K hK => ?_)
              go_wp2_with fail
              refine ⟨laterX_of (grown_trans (grown_trans (grown_of_below HB7.out _) (grown_set _ rfl)) (grown_set _ rfl)), ?_⟩
              refine wpAnyH_done (by kernel_rfl) ?_ _
              go_wp2
              exact bodyPost_ret (v := .tuple #[.agg #[.int .i64 (k0 : Int), (.slice A9 (n + 1) c9)], .bool true]) (by simp [results, Tryz.results17, go_sem, *]) rfl (AdsPost.yes (n := n + 1) HE.out (by rw [HT.out]; exact HSK.out) (by have := Hn.out; omega) (by rw [HT.out]; exact HKP.out _ _ _ (HKP.out _ _ _ HO7.out)) ((HW7.out.setCell (by simp; omega) _).setCell (by simp; omega) _))
            · go_wp2_with fail
              have HL5 := hide (below_alloc HL.out (.cells #[.int .i64 s0, .int .i64 s1, .int .i64 s2] 39))
              have HN5 := hide (heap_new V0 #[.int .i64 s0, .int .i64 s1, .int .i64 s2] 39)
              have HZ5 := hide (show V0.heap.size < (V0.alloc (.cells #[.int .i64 s0, .int .i64 s1, .int .i64 s2] 39)).heap.size by simp)
              refine ⟨laterX_of (grown_of_below HL5.out _), ?_⟩
              generalize V0.alloc (.cells #[.int .i64 s0, .int .i64 s1, .int .i64 s2] 39) = w5 at *
              generalize V0.heap.size = VB at *
              refine wpAnyS_only 4 (by kernel_rfl) (by simp; rfl) rfl rfl (fun K hK => ?_)
              go_wp2_with fail
              refine (clone_all A n c l w5 Hn.out (by omega) (Hr.out.below (below_step HW.out HL5.out)) HA.out).mono ?_
              rintro e w6 ⟨⟨v, rfl, ho⟩, hq⟩
              have HL6 := hide (below_step HL5.out hq)
              have HO6 := hide (own_le (B' := w4.heap.size) ho HL5.out.size)
              have HN6 := hide (heap_grown HN5.out (grown_of_below hq none) (by simp))
              have HNE : Hid (v.ownBlock ≠ some VB) := hide (fun e => by have := (ho.lt _ e).1; have := HZ5.out; omega)
              clear ho hq HL
              go_wp2_with fail
              refine ⟨laterX_of (grown_of_below HL6.out _), ?_⟩
              refine wpAnyS_only 8 (by kernel_rfl) (by simp; rfl) rfl rfl (fun K hK => ?_)
              go_wp2_with fail
              refine (insStreet_any w4.heap.size v n k l s0 s1 s2 VB w6 HO6.out Hn.out hkn (by omega) HN6.out HNE.out HL6.out.size).mono ?_
              rintro e w7 ⟨⟨v', rfl, ho⟩, hg⟩
              have HB7 := hide (HL6.out.grown hg HL6.out.size (fun j hj => (HO6.out.lt _ hj).1))
              have HO7 := hide (own_le (B' := w.heap.size) ho HW.out.size)
              have HW7 := hide (below_step HW.out HB7.out)
              have HG7 := hide (HG.out.below HB7.out)
              have HGlt := hide HG.out.1
              have HLT : Hid (∀ b, v'.ownBlock = some b → w4.heap.size ≤ b) := hide (fun b hb => (ho.lt b hb).1)
              obtain ⟨A9, c9, hv9, -⟩ := own_open HO7.out
              subst hv9
              clear ho hg
              go_wp2_with fail
              refine ⟨laterX_of (grown_of_below HB7.out _), ?_⟩
              have e0 := HG7.out.2.1 0 _ rfl
              have e1 := HG7.out.2.1 1 _ rfl
              have f0 := HG7.out.free 0
              have f1 := HG7.out.free 1
              have HKP : Hid (∀ (W : World) (o : Nat) (u : Value), W.ownsRow w.heap.size 39 3 (.slice A9 (n + 1) c9) (n + 1) ((l.take k ++ [(s0, s1, s2)] ++ l.drop k).flatMap tcells) → (W.setCell ⟨w.heap.size + 1 + 1, o, none⟩ u).ownsRow w.heap.size 39 3 (.slice A9 (n + 1) c9) (n + 1) ((l.take k ++ [(s0, s1, s2)] ++ l.drop k).flatMap tcells)) := hide (fun W o u h => own_kept h (grown_set (g := w.heap.size + 1 + 1) u rfl) (fun b hb e => by injection e with e; have := HLT.out b hb; have := HGlt.out; omega))
              refine wpAnyS_only 9 (by kernel_rfl) (by simp; rfl) rfl rfl (fun K hK => ?_)
              go_wp2_with fail
              refine ⟨laterX_of (grown_of_below HB7.out _), ?_⟩
              refine wpAnyS_only 10 (by kernel_rfl) (by simp; rfl) rfl rfl (fun K hK => ?_)
              go_wp2_with fail
              refine ⟨laterX_of (grown_trans (grown_trans (grown_of_below HB7.out _) (grown_set _ rfl)) (grown_set _ rfl)), ?_⟩
              refine wpAnyS_only 11 (by kernel_rfl) (by simp; rfl) rfl rfl (fun K hK => ?_)
              go_wp2_with fail
              refine ⟨laterX_of (grown_trans (grown_trans (grown_of_below HB7.out _) (grown_set _ rfl)) (grown_set _ rfl)), ?_⟩
              refine wpAnyH_done (by kernel_rfl) ?_ _
              go_wp2
              exact bodyPost_ret (v := .tuple #[.agg #[.int .i64 (k0 : Int), (.slice A9 (n + 1) c9)], .bool true]) (by simp [results, Tryz.results17, go_sem, *]) rfl (AdsPost.yes (n := n + 1) HE.out (by rw [HT.out]; exact HSK.out) (by have := Hn.out; omega) (by rw [HT.out]; exact HKP.out _ _ _ (HKP.out _ _ _ HO7.out)) ((HW7.out.setCell (by simp; omega) _).setCell (by simp; omega) _))
end Go.Proofs.YtbhnaakknfienaaGreatDoor
namespace Go.Proofs.YtbhnaakknfienaaGreatDoor
open Go.RowKit
set_option linter.unusedVariables false

set_option maxHeartbeats 1000000 in
theorem implIsTown_any (nd : Int) (A : Option Addr) (n c : Nat) (l : List (Int × Int × Int)) (w : World) (hn : n = l.length) (hm : n ≤ maxLen) (hr : Rd w A (l.flatMap tcells)) :
    Calls Tryz.prog 14 #[.agg #[.int .i64 nd, .slice A n c]] w fun e w' => e = .returned (.bool (townB nd l)) ∧ Below w.heap.size w w' := by
  have q := implisTown_any w.heap.size nd A n c l (w.alloc (.cells #[.int .i64 nd, .slice A n c] 26)) hn hm (hr.alloc _) (by simp) ((Row.new _ _ _).2.1 0 _ rfl) ((Row.new _ _ _).2.1 1 _ rfl)
  clear hn hm hr
  go_enter Tryz.func14, Tryz.ntmps14
  go_wp2_with (go_at_call 35; ((with_reducible refine (q).mono ?_); rintro e w1 ⟨rfl, hb1⟩); obtain ⟨hc1, hf1⟩ := bcell hb1)
  go_ret
  exact ⟨rfl, (by repeat (first | exact Below.refl _ _ | refine below_step ?_ (by assumption) | refine below_step ?_ (Later.below _) | refine below_alloc ?_ _ | refine Below.drew ?_ | refine Below.setCell ?_ (by first | (simp; done) | (simp; omega)) _))⟩

end Go.Proofs.YtbhnaakknfienaaGreatDoor
namespace Go.Proofs.YtbhnaakknfienaaGreatDoor
open Go.RowKit
set_option linter.unusedVariables false

set_option maxRecDepth 100000 in
set_option maxHeartbeats 4000000 in
theorem implMiddleNode_any (nd : Int) (A : Option Addr) (n c : Nat) (l : List (Int × Int × Int)) (w : World) (hn : n = l.length) (hnc : n ≤ c) (hc : c ≤ maxLen) (hr : Rd w A (l.flatMap tcells)) :
    Calls Tryz.prog 29 #[.agg #[.int .i64 nd, .slice A n c]] w fun e w' => e = .returned (.tuple #[.int .i64 (middleV nd l), .int .i64 (middleW nd l), .bool (middleOk nd l)]) ∧ Below w.heap.size w w' := by
  have Hn := hide hn
  have Hr := hide hr
  have hm : n ≤ maxLen := Nat.le_trans hnc hc
  have HF0 := hide (Row.new w #[.int .i64 nd, .slice A n c] 26)
  have Q := hide (implisTown_any w.heap.size nd A n c l _ hn hm (hr.alloc _) HF0.out.1 (HF0.out.at 0 rfl) (HF0.out.at 1 rfl))
  clear hn hr hnc hc
  go_enter Tryz.func29, Tryz.ntmps29
  go_wp2_with fail
  refine Q.out.mono ?_
  rintro e w1 ⟨rfl, hq⟩
  have HF1 := hide (HF0.out.below hq)
  have HW1 : Hid (Below w.heap.size w w1) := hide (below_step (below_alloc (Below.refl _ _) _) hq)
  clear hq Q HF0
  have a0 := HF1.out.at 0 rfl
  have a1 := HF1.out.at 1 rfl
  cases ht : townB nd l with
  | false =>
    have HN := hide (middle_no (nd := nd) (l := l) (by rw [middleOk, ht]; rfl))
    have HM : Hid (middleOk nd l = false) := hide (by rw [middleOk, ht]; rfl)
    clear ht
    go_wp2
    go_ret3
    exact ⟨ret_tup3 HN.out.1.symm HN.out.2.symm HM.out.symm, HW1.out⟩
  | true =>
    have HT := hide ht
    obtain ⟨k, rfl, hk⟩ := townB_ok ht
    have h1 := hk.lo
    have h2 := hk.hi
    have HK := hide hk
    have HM0 : Hid (∀ b, allFin (timesF k l 0) k = b → middleOk k l = b) := hide (fun b hb => by rw [middleOk, ht]; show decide (0 ≤ worstF k l 0) = b; rw [worst_fin]; exact hb)
    have HML := hide (fun n hn => midF_lt (worstF k l) n hn)
    have HMS : Hid (∀ n, midF (worstF k l) (n + 1) = if worstF k l n < worstF k l (midF (worstF k l) n) then n else midF (worstF k l) n) := hide (fun n => rfl)
    have HWF : Hid (∀ x, allFin (timesF k l x) k = true → worstF k l x = maxN (timesF k l x) (k - 1)) := hide (fun x h => by
      rw [worstF, h, maxN_Z (k - 1) (fun v hv => allFin_iff.1 h v (by omega)), show k - 1 + 1 = k by omega]
      rfl)
    have HFA := hide (fun h x hx => fin_all HK.out.fits h1 h x hx)
    have HWB := hide (fun x hx => worst_bd HK.out (x := x) hx)
    have HYF := hide (fun h => middle_yes (k := k) (l := l) h)
    clear ht hk
    generalize worstF k l = W at *
    go_wp2_with fail
    clear a0 a1
    go_loopw [5, 6, 14] (fun b s t wr => ∃ m : Nat, m ≤ k ∧ t = .int .i64 m ∧ Hid (m = 0 ∧ b = .int .i64 (-1) ∧ s = .int .i64 0 ∨ 1 ≤ m ∧ b = .int .i64 (midF (W) m : Nat) ∧ s = .int .i64 (W (midF (W) m))) ∧ Hid (Row wr w.heap.size [.int .i64 (k : Int), .slice A n c]) ∧ Hid (Below w.heap.size w wr) ∧ Hid (1 ≤ m → allFin (timesF k l 0) k = true)) (fun _ _ t _ => k - (intOf t).toNat)
    case atStart => exact ⟨0, by omega, rfl, hide (.inl ⟨rfl, rfl, rfl⟩), HF1, HW1, hide (fun h => by omega)⟩
    case round =>
      obtain ⟨m, hm, rfl, HS, HF, HB, HA⟩ := hrel
      clear HF1 HW1
      by_cases hlt : m < k
      · have a0 := HF.out.at 0 rfl
        have a1 := HF.out.at 1 rfl
        go_wp2_with fail
        refine (times_any w.heap.size k n c m A l _ Hn.out (by have := Hn.out; have := HK.out.len; omega) h2 hlt HK.out.fits (Hr.out.below HB.out) a0 a1).mono ?_
        rintro e w3 ⟨rfl, ho, hq⟩
        have HO := hide ho
        have HF3 := hide (HF.out.below hq)
        have HB3 : Hid (Below w.heap.size w w3) := hide (below_step HB.out hq)
        clear ho hq a0 a1 HF HB
        have hmf := minN_fin (d := timesF k l m) h1
        have QM := hide (minInts_any _ _ k (timesF k l m) w3 h1 h2 HO.out)
        have QX := hide (maxInts_any _ _ k (timesF k l m) w3 h1 h2 HO.out)
        cases hfin : allFin (timesF k l m) k with
        | false =>
          have HM : Hid (middleOk k l = false) := hide (HM0.out false (by
            cases h : allFin (timesF k l 0) k with
            | false => rfl
            | true => rw [HFA.out h m hlt] at hfin; cases hfin))
          have HN := hide (middle_no HM.out)
          rw [hfin] at hmf
          have hmf' : decide (minN (timesF k l m) (k - 1) < 0) = true := hmf
          clear hmf hfin HM0 HML HMS HWF HFA HWB
          generalize minN (timesF k l m) (k - 1) = v at *
          go_wp2_with (go_at_call 71; ((with_reducible refine (QM.out).mono ?_); rintro e w' ⟨rfl, rfl⟩))
          go_ret3
          exact ⟨ret_tup3 HN.out.1.symm HN.out.2.symm HM.out.symm, HB3.out⟩
        | true =>
          rw [hfin] at hmf
          have hmf' : decide (minN (timesF k l m) (k - 1) < 0) = false := hmf
          have hwe := HWF.out m hfin
          rw [← hwe] at QX
          have HA2 : Hid (1 ≤ m + 1 → allFin (timesF k l 0) k = true) := hide (fun _ => by
            by_cases h : 1 ≤ m
            · exact HA.out h
            · rw [show (0 : Nat) = m by omega]; exact hfin)
          have hwm := HWB.out m hlt
          have HNX := hide (HMS.out m)
          clear hmf hfin hwe HM0 HMS HWF HFA
          generalize minN (timesF k l m) (k - 1) = v at *
          rcases HS.out with ⟨hm0, rfl, rfl⟩ | ⟨hm1, rfl, rfl⟩
          · have HE : Hid (midF (W) (m + 1) = m) := hide (by rw [HNX.out]; subst hm0; simp [midF])
            clear HNX HS
            generalize hWm : W m = wm at *
            have HWm := hide hWm
            clear hWm hm0
            go_wp2_with (first | (go_at_call 71; ((with_reducible refine (QM.out).mono ?_); rintro e w' ⟨rfl, rfl⟩)) | (go_at_call 72; ((with_reducible refine (QX.out).mono ?_); rintro e w' ⟨rfl, rfl⟩)))
            go_roundw
            case rel => exact ⟨m + 1, by omega, by go_num, hide (.inr ⟨by omega, by rw [HE.out], by rw [HE.out, HWm.out]⟩), HF3, HB3, HA2⟩
            case measure => simp [intOf]; omega
          · have hb := HML.out m hm1
            have hwb := HWB.out (midF (W) m) (by omega)
            clear HS HWB HML
            generalize midF W m = bst at *
            generalize hWm : W m = wm at *
            generalize hWb : W bst = wb at *
            have HWm := hide hWm
            have HWb := hide hWb
            clear hWm hWb
            by_cases hc : wm < wb
            · have hc' : decide (wm < wb) = true := by simpa using hc
              have HE : Hid (midF W (m + 1) = m) := hide (by rw [HNX.out, if_pos hc])
              go_wp2_with (first | (go_at_call 71; ((with_reducible refine (QM.out).mono ?_); rintro e w' ⟨rfl, rfl⟩)) | (go_at_call 72; ((with_reducible refine (QX.out).mono ?_); rintro e w' ⟨rfl, rfl⟩)))
              go_roundw
              case rel => exact ⟨m + 1, by omega, by go_num, hide (.inr ⟨by omega, by rw [HE.out], by rw [HE.out, HWm.out]⟩), HF3, HB3, HA2⟩
              case measure => simp [intOf]; omega
            · have hc' : decide (wm < wb) = false := by simpa using hc
              have HE : Hid (midF W (m + 1) = bst) := hide (by rw [HNX.out, if_neg hc])
              go_wp2_with (first | (go_at_call 71; ((with_reducible refine (QM.out).mono ?_); rintro e w' ⟨rfl, rfl⟩)) | (go_at_call 72; ((with_reducible refine (QX.out).mono ?_); rintro e w' ⟨rfl, rfl⟩)))
              go_roundw
              case rel => exact ⟨m + 1, by omega, by go_num, hide (.inr ⟨by omega, by rw [HE.out], by rw [HE.out, HWb.out]⟩), HF3, HB3, HA2⟩
              case measure => simp [intOf]; omega
      · have hmk : m = k := by omega
        subst hmk
        have HM : Hid (middleOk m l = true) := hide (HM0.out true (HA.out h1))
        have HY := hide (HYF.out HM.out)
        rcases HS.out with ⟨hm0, rfl, rfl⟩ | ⟨hm1, rfl, rfl⟩
        · omega
        · clear HS
          go_wp2
          go_ret3
          exact ⟨ret_tup3 HY.out.1.symm HY.out.2.symm HM.out.symm, HB.out⟩
end Go.Proofs.YtbhnaakknfienaaGreatDoor

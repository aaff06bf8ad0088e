/- HoseText: both sides. -/
import Derived.Test.YtmoelgbbgepckaaDoorHoseT
namespace Go.Proofs.YtmoelgbbgepckaaDoor
open Go.RowKit
set_option linter.unusedVariables false

theorem letter_at {k : Nat} (h : k ≤ 3) : (⟨#[97, 98, 99, 100]⟩ : ByteArray).extract k (k + 1) = ⟨#[UInt8.ofNat (97 + k)]⟩ := by
  match k, h with
  | 0, _ => decide
  | 1, _ => decide
  | 2, _ => decide
  | 3, _ => decide
theorem letter_rune {k : Nat} (h : k ≤ 3) : Utf8.encode (97 + (k : Int)) = ⟨#[UInt8.ofNat (97 + k)]⟩ := by
  match k, h with
  | 0, _ => decide
  | 1, _ => decide
  | 2, _ => decide
  | 3, _ => decide
def txH (l : List (Int × Int)) : ByteArray := if lineB l then thN l l.length else ByteArray.empty
theorem txH_no {l : List (Int × Int)} (h : lineB l = false) : txH l = ⟨#[]⟩ := by rw [txH, h]; rfl
theorem txH_yes {l : List (Int × Int)} (h : lineB l = true) : txH l = thN l l.length := by rw [txH, if_pos h]
theorem ret_txt {s t : ByteArray} {a b : Bool} (h : s = t) (h2 : a = b) : Ending.returned (.tuple #[.string s, .bool a]) = .returned (.tuple #[.string t, .bool b]) := by rw [h, h2]

set_option maxRecDepth 100000 in
set_option maxHeartbeats 4000000 in
theorem hoText_any (n c : Nat) (A : Option Addr) (l : List (Int × Int)) (w : World) (hn : n = l.length) (hk : lineB l = true) (hr : Rd w A (l.flatMap hcells)) :
    Calls Tryd.prog 56 #[.slice A n c] w fun e w' => e = .returned (.string (thN l n)) ∧ Below w.heap.size w w' := by
  have Hn := hide hn
  have HK := hide hk
  have HR := hide hr
  have hn12 : n ≤ 12 := by have := (lineB_iff hk).2.2; omega
  clear hn hk hr
  go_enter Tryd.func56, Tryd.ntmps56
  go_wp2_with fail
  go_loopg [8, 3] n (fun g t s wr => ∃ (j : Nat) (b : ByteArray), t = .int .i64 (j : Int) ∧ s = .string b ∧ j ≤ n ∧ b.size ≤ 3000 ∧ Hid (n ≤ g + j) ∧ Hid (b = thN l j) ∧ Hid (Below w.heap.size w wr))
  case atStart => exact ⟨0, _, rfl, rfl, by omega, by simp [ByteArray.size], hide (by omega), hide rfl, hide (Below.refl _ _)⟩
  case round =>
    obtain ⟨j, b, rfl, rfl, hj, hbs, HG, HE, HW⟩ := hrel
    by_cases hlt : j < n
    · obtain ⟨⟨x0, x1⟩, hx⟩ : ∃ x, l[j]? = some x := ⟨_, List.getElem?_eq_getElem (by rw [← Hn.out]; exact hlt)⟩
      have hf := line_mem HK.out (List.mem_of_getElem? hx)
      dsimp only at hf
      obtain ⟨y0, rfl⟩ := Int.eq_ofNat_of_zero_le (show 0 ≤ x0 by omega)
      obtain ⟨y1, rfl⟩ := Int.eq_ofNat_of_zero_le (show 0 ≤ x1 by omega)
      have HX := hide hx
      obtain ⟨bs, os, rfl, zs, t0, t1⟩ := (HR.out.below HW.out).get2 (fun _ => rfl) hx rfl
      dsimp only at t0 t1
      have v1 : y1 < 10000000 := by omega
      have s1 := txt_size y1 (by omega)
      have u4 : (0 : Int) ≤ (j : Int) := by omega
      have u5 : (j : Int) < (n : Int) := by omega
      have k3 : y0 ≤ 3 := by omega
      have k4 : (y0 : Int) + 1 ≤ 4 := by omega
      have k5 : ((y0 : Int) + 1).toNat = y0 + 1 := by omega
      have k6 : (0 : Int) ≤ (y0 : Int) + 1 := by omega
      obtain ⟨ch, hch⟩ : ∃ ch, ch = UInt8.ofNat (97 + y0) := ⟨_, rfl⟩
      have k7 := letter_at k3
      rw [← hch] at k7
      have HCH := hide hch
      clear hch
      have k8 : (⟨#[ch]⟩ : ByteArray).size = 1 := rfl
      clear hx hf
      go_wp2_with fail
      have HSB := hide (Row.new wr #[.int .i64 (y0 : Int), .int .i64 (y1 : Int)] 40)
      refine wp_region_later (by kernel_rfl) (by kernel_rfl) ?_
      repeat (go_big_quiet_step ((go_at_call 114; with_reducible exact calls_later (num_any y1 v1 _))))
      refine wpQuiet_nil ?_
      refine later_intro fun w5 hb5 => ?_
      have HB5 := hide (below_step (below_alloc HW.out (.cells #[.int .i64 (y0 : Int), .int .i64 (y1 : Int)] 40)) hb5)
      clear hb5 t0 t1 zs
      have HS := hide (show b ++ (((⟨#[ch]⟩ : ByteArray) ++ txt y1) ++ ⟨#[59]⟩) = thN l (j + 1) by rw [thN_succ HX.out, HE.out, HCH.out]; rfl)
      have HZ := hide (show (thN l (j + 1)).size ≤ 3000 from Nat.le_trans (thN_size HK.out (j + 1)) (by omega))
      clear s1 v1 hbs k3 k4 k5 k6 k7 k8
      go_wp2
      go_roundg (gk - 1)
      case rel => exact ⟨j + 1, _, by go_num, rfl, by omega, by rw [HS.out]; exact HZ.out, hide (by have := HG.out; omega), hide HS.out, HB5⟩
      case measure => have := HG.out; omega
    · have hkn : ((j : Int) < (n : Int)) = False := by simp; omega
      have HJ := hide (show thN l j = thN l n by rw [show j = n by omega])
      go_wp2
      go_ret
      exact ⟨by rw [← HJ.out, ← HE.out]; rfl, HW.out⟩

set_option maxRecDepth 100000 in
set_option maxHeartbeats 4000000 in
theorem hosesText_any (n c : Nat) (A : Option Addr) (l : List (Int × Int)) (w : World) (hn : n = l.length) (hk : lineB l = true) (hr : Rd w A (l.flatMap hcells)) (ht : Tab w) :
    Calls Tryd.prog 59 #[.slice A n c] w fun e w' => e = .returned (.string (thN l n)) ∧ Below w.heap.size w w' := by
  have Hn := hide hn
  have HK := hide hk
  have HR := hide hr
  have HT := hide ht
  have hn12 : n ≤ 12 := by have := (lineB_iff hk).2.2; omega
  clear hn hk hr ht
  go_enter Tryd.func59, Tryd.ntmps59
  go_wp2_with fail
  go_loopg [8, 3] n (fun g t s wr => ∃ (j : Nat) (b : ByteArray), t = .int .i64 (j : Int) ∧ s = .string b ∧ j ≤ n ∧ b.size ≤ 3000 ∧ Hid (n ≤ g + j) ∧ Hid (b = thN l j) ∧ Hid (Below w.heap.size w wr))
  case atStart => exact ⟨0, _, rfl, rfl, by omega, by simp [ByteArray.size], hide (by omega), hide rfl, hide (Below.refl _ _)⟩
  case round =>
    obtain ⟨j, b, rfl, rfl, hj, hbs, HG, HE, HW⟩ := hrel
    by_cases hlt : j < n
    · obtain ⟨⟨x0, x1⟩, hx⟩ : ∃ x, l[j]? = some x := ⟨_, List.getElem?_eq_getElem (by rw [← Hn.out]; exact hlt)⟩
      have hf := line_mem HK.out (List.mem_of_getElem? hx)
      dsimp only at hf
      obtain ⟨y0, rfl⟩ := Int.eq_ofNat_of_zero_le (show 0 ≤ x0 by omega)
      obtain ⟨y1, rfl⟩ := Int.eq_ofNat_of_zero_le (show 0 ≤ x1 by omega)
      have HX := hide hx
      obtain ⟨bs, os, rfl, zs, t0, t1⟩ := (HR.out.below HW.out).get2 (fun _ => rfl) hx rfl
      dsimp only at t0 t1
      have v1 : y1 ≤ 9223372036854775807 := by omega
      have s1 := txt_size y1 (by omega)
      have u4 : (0 : Int) ≤ (j : Int) := by omega
      have u5 : (j : Int) < (n : Int) := by omega
      have k4 : (y0 : Int) ≤ 3 := by omega
      have k5 : IntKind.i32.wrap (97 + (y0 : Int)) = 97 + (y0 : Int) := by rw [IntKind.wrap_i32]; omega
      obtain ⟨ch, hch⟩ : ∃ ch, ch = UInt8.ofNat (97 + y0) := ⟨_, rfl⟩
      have k7 := letter_rune (show y0 ≤ 3 by omega)
      rw [← hch] at k7
      have HCH := hide hch
      clear hch
      have k8 : (⟨#[ch]⟩ : ByteArray).size = 1 := rfl
      have HTW := hide (tab_below HT.out HW.out)
      have HTL := hide (fun (m : Later (wr.alloc (.cells #[.int .i64 (y0 : Int), .int .i64 (y1 : Int)] 40))) => tab_below HTW.out (below_step (below_alloc (Below.refl _ _) _) m.below))
      clear hx hf
      go_wp2_with fail
      refine wp_region_later (by kernel_rfl) (by kernel_rfl) ?_
      repeat (go_big_quiet_step ((go_at_call 115; with_reducible exact calls_later (itoa_any y1 v1 _ (HTL.out _)))))
      refine wpQuiet_nil ?_
      refine later_intro fun w5 hb5 => ?_
      have HB5 := hide (below_step (below_alloc HW.out (.cells #[.int .i64 (y0 : Int), .int .i64 (y1 : Int)] 40)) hb5)
      clear hb5 t0 t1 zs
      have HS := hide (show b ++ (((⟨#[ch]⟩ : ByteArray) ++ txt y1) ++ ⟨#[59]⟩) = thN l (j + 1) by rw [thN_succ HX.out, HE.out, HCH.out]; rfl)
      have HZ := hide (show (thN l (j + 1)).size ≤ 3000 from Nat.le_trans (thN_size HK.out (j + 1)) (by omega))
      clear s1 v1 hbs k4 k5 k7 k8
      go_wp2
      go_roundg (gk - 1)
      case rel => exact ⟨j + 1, _, by go_num, rfl, by omega, by rw [HS.out]; exact HZ.out, hide (by have := HG.out; omega), hide HS.out, HB5⟩
      case measure => have := HG.out; omega
    · have hkn : ((j : Int) < (n : Int)) = False := by simp; omega
      have HJ := hide (show thN l j = thN l n by rw [show j = n by omega])
      go_wp2
      go_ret
      exact ⟨by rw [← HJ.out, ← HE.out]; rfl, HW.out⟩

set_option maxHeartbeats 2000000 in
theorem specHoseText_any (A : Option Addr) (n c : Nat) (l : List (Int × Int)) (w : World) (hn : n = l.length) (hm : n ≤ 1048576) (hr : Rd w A (l.flatMap hcells)) :
    Calls Tryd.prog 11 #[.slice A n c] w fun e w' => e = .returned (.tuple #[.string (txH l), .bool (lineB l)]) ∧ Below w.heap.size w w' := by
  have Q := hide (hoGood_any A n c l w hn hm hr)
  have Hn := hide hn
  have Hr := hide hr
  clear hn hm hr
  cases ht : lineB l with
  | false =>
    rw [ht] at Q
    have HG := hide (txH_no ht)
    clear ht
    go_enter Tryd.func11, Tryd.ntmps11
    go_wp2_with fail
    refine Q.out.mono ?_
    rintro e w1 ⟨rfl, hq⟩
    go_wp2
    go_ret2
    exact ⟨ret_txt HG.out.symm rfl, hq⟩
  | true =>
    rw [ht] at Q
    have HG := hide ((txH_yes ht).trans (by rw [← Hn.out]))
    have HK := hide ht
    clear ht
    go_enter Tryd.func11, Tryd.ntmps11
    go_wp2_with fail
    refine Q.out.mono ?_
    rintro e w1 ⟨rfl, hq⟩
    have HW1 := hide hq
    clear hq Q
    go_wp2_with fail
    refine (hoText_any n c A l _ Hn.out HK.out (Hr.out.below HW1.out)).mono ?_
    rintro e w2 ⟨rfl, hq⟩
    have HW2 := hide (below_step HW1.out hq)
    clear hq
    go_wp2
    go_ret2
    exact ⟨ret_txt HG.out.symm rfl, HW2.out⟩

set_option maxHeartbeats 2000000 in
theorem implHoseText_any (A : Option Addr) (n c : Nat) (l : List (Int × Int)) (w : World) (hn : n = l.length) (hm : n ≤ 1048576) (ht : Tab w) (hr : Rd w A (l.flatMap hcells)) :
    Calls Tryd.prog 13 #[.slice A n c] w fun e w' => e = .returned (.tuple #[.string (txH l), .bool (lineB l)]) ∧ Below w.heap.size w w' := by
  have Q := hide (isLine_any A n c l w hn hm hr)
  have Hn := hide hn
  have Hr := hide hr
  have HT := hide ht
  clear hn hm hr ht
  cases ht : lineB l with
  | false =>
    rw [ht] at Q
    have HG := hide (txH_no ht)
    clear ht
    go_enter Tryd.func13, Tryd.ntmps13
    go_wp2_with fail
    refine Q.out.mono ?_
    rintro e w1 ⟨rfl, hq⟩
    go_wp2
    go_ret2
    exact ⟨ret_txt HG.out.symm rfl, hq⟩
  | true =>
    rw [ht] at Q
    have HG := hide ((txH_yes ht).trans (by rw [← Hn.out]))
    have HK := hide ht
    clear ht
    go_enter Tryd.func13, Tryd.ntmps13
    go_wp2_with fail
    refine Q.out.mono ?_
    rintro e w1 ⟨rfl, hq⟩
    have HW1 := hide hq
    clear hq Q
    go_wp2_with fail
    refine (hosesText_any n c A l _ Hn.out HK.out (Hr.out.below HW1.out) (tab_below HT.out HW1.out)).mono ?_
    rintro e w2 ⟨rfl, hq⟩
    have HW2 := hide (below_step HW1.out hq)
    clear hq
    go_wp2
    go_ret2
    exact ⟨ret_txt HG.out.symm rfl, HW2.out⟩
end Go.Proofs.YtmoelgbbgepckaaDoor

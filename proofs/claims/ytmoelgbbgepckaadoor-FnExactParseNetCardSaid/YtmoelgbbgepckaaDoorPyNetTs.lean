/- A net's text: the reference's way. -/
import Derived.Test.YtmoelgbbgepckaaDoorPyNetTx
import Derived.Test.YtmoelgbbgepckaaDoorNetC
import Derived.Deep.LoopGhost
namespace Go.Proofs.YtmoelgbbgepckaaDoor
open Go.RowKit
set_option linter.unusedVariables false

set_option maxRecDepth 100000 in
set_option maxHeartbeats 2000000 in
theorem int_any (p : Int) (h0 : -1000000 < p) (h1 : p < 10000000) (w : World) :
    Calls Tryd.prog 123 #[.int .i64 p] w fun e w' => e = .returned (.string (itx p)) ∧ Below w.heap.size w w' := by
  by_cases h : 0 ≤ p
  · obtain ⟨n, rfl⟩ := Int.eq_ofNat_of_zero_le h
    have Q := hide (num_any n (by omega) w)
    have HI := hide (itx_nat n)
    have hn : ¬ (n : Int) < 0 := by omega
    go_enter Tryd.func123, Tryd.ntmps123
    go_wp2_with fail
    refine Q.out.mono ?_
    rintro e w1 ⟨rfl, hq⟩
    have HB := hide hq
    clear hq Q
    go_wp2
    go_ret
    exact ⟨by rw [HI.out]; rfl, HB.out⟩
  · obtain ⟨n, rfl⟩ : ∃ n : Nat, p = -(n : Int) := ⟨p.natAbs, by omega⟩
    have Q := hide (num_any n (by omega) w)
    have HI := hide (itx_neg (n := n) (by omega))
    have hn : (-(n : Int)) < 0 := by omega
    have hsz := txt_size n (by omega)
    have hwr : wrap64 (n : Int) = (n : Int) := by
      unfold wrap64
      omega
    clear h h0 h1
    go_enter Tryd.func123, Tryd.ntmps123
    go_wp2_with fail
    rw [hwr]
    clear hwr
    refine Q.out.mono ?_
    rintro e w1 ⟨rfl, hq⟩
    have HB := hide hq
    clear hq Q
    go_wp2
    go_ret
    exact ⟨by rw [HI.out]; rfl, HB.out⟩
theorem itx_small {p : Int} (h0 : -1 ≤ p) (h1 : p < 10) : (itx p).size ≤ 21 := Nat.le_trans (itx_size h0 h1) (by omega)

set_option maxRecDepth 100000 in
set_option maxHeartbeats 8000000 in
theorem hyText_any (n c m d : Nat) (A B : Option Addr) (M H : List (Int × Int)) (w : World) (hn : n = M.length) (hm : m = H.length) (hk : NetOk M H) (hr : NetRd w A B M H) :
    Calls Tryd.prog 85 #[.agg #[.slice A n c, .slice B m d]] w fun e w' => e = .returned (.string (nxT M H)) ∧ Below w.heap.size w w' := by
  have Hn := hide hn
  have Hm := hide hm
  have HK := hide hk
  have HR := hide (hr.1.alloc (.cells #[.slice A n c, .slice B m d] 57))
  have HS := hide (hr.2.alloc (.cells #[.slice A n c, .slice B m d] 57))
  have HB := hide (below_alloc (Below.refl w.heap.size w) (.cells #[.slice A n c, .slice B m d] 57))
  have HF := hide (Row.new w #[.slice A n c, .slice B m d] 57)
  have hn10 : n ≤ 10 := by have := hk.m10; omega
  have hm10 : m ≤ 10 := by have := hk.h10; omega
  clear hn hm hk hr
  go_enter Tryd.func85, Tryd.ntmps85
  go_wp2_with fail
  go_loopg [11, 3] n (fun g t s wr => ∃ (j : Nat) (b : ByteArray), t = .int .i64 (j : Int) ∧ s = .string b ∧ j ≤ n ∧ b.size ≤ 3000 ∧ Hid (n ≤ g + j) ∧ Hid (b = nmN M j) ∧ Hid (Below (w.alloc (.cells #[.slice A n c, .slice B m d] 57)).heap.size (w.alloc (.cells #[.slice A n c, .slice B m d] 57)) wr))
  case atStart => exact ⟨0, _, rfl, rfl, by omega, by simp [ByteArray.size], hide (by omega), hide rfl, hide (Below.refl _ _)⟩
  case round =>
    obtain ⟨j, b, rfl, rfl, hj, hbs, HG, HE, HW⟩ := hrel
    by_cases hlt : j < n
    · obtain ⟨⟨x0, x1⟩, hx⟩ : ∃ x, M[j]? = some x := ⟨_, List.getElem?_eq_getElem (by rw [← Hn.out]; exact hlt)⟩
      have hf := main_facts HK.out (List.mem_of_getElem? hx)
      dsimp only at hf
      obtain ⟨y1, rfl⟩ := Int.eq_ofNat_of_zero_le (show 0 ≤ x1 by omega)
      have HX := hide hx
      obtain ⟨bs, os, rfl, zs, t0, t1⟩ := (HR.out.below HW.out).get2 (fun _ => rfl) hx rfl
      dsimp only at t0 t1
      have v0 : -1000000 < x0 := by omega
      have v0' : x0 < 10000000 := by omega
      have v1 : y1 < 10000000 := by omega
      have s0 := itx_small hf.1 hf.2.1
      have s1 := txt_size y1 (by omega)
      have u4 : (0 : Int) ≤ (j : Int) := by omega
      have u5 : (j : Int) < (n : Int) := by omega
      clear hx hf
      go_wp2_with fail
      refine wp_region_later (by kernel_rfl) (by kernel_rfl) ?_
      repeat (go_big_quiet_step ((first | (go_at_call 114; with_reducible exact calls_later (num_any y1 v1 _)) | (go_at_call 123; with_reducible exact calls_later (int_any x0 v0 v0' _)))))
      refine wpQuiet_nil ?_
      refine later_intro fun w5 hb5 => ?_
      have HB5 := hide (below_step (below_alloc HW.out (.cells #[.int .i64 x0, .int .i64 (y1 : Int)] 120)) hb5)
      clear hb5 t0 t1 zs
      have HT := hide (show b ++ (((itx x0 ++ ⟨#[47]⟩) ++ txt y1) ++ ⟨#[32]⟩) = nmN M (j + 1) by rw [nmN_succ HX.out, HE.out]; rfl)
      have HZ := hide (show (nmN M (j + 1)).size ≤ 3000 from Nat.le_trans (nmN_size HK.out (j + 1)) (by omega))
      clear s0 s1 v0 v0' v1 hbs
      go_wp2
      go_roundg (gk - 1)
      case rel => exact ⟨j + 1, _, by go_num, rfl, by omega, by rw [HT.out]; exact HZ.out, hide (by have := HG.out; omega), hide HT.out, HB5⟩
      case measure => have := HG.out; omega
    · obtain rfl : j = n := by omega
      have HF1 := hide (HF.out.below HW.out)
      have HS1 := hide (HS.out.below HW.out)
      have HW1 := hide (below_step HB.out HW.out)
      have HBT := hide (show b ++ ⟨#[124]⟩ = nhN (nmN M M.length ++ ⟨#[124]⟩) H 0 by rw [HE.out, Hn.out]; rfl)
      have HZN := hide (fun k => nhN_size HK.out (nmN M M.length ++ ⟨#[124]⟩) k)
      have hz0 : (nmN M M.length ++ ⟨#[124]⟩ : ByteArray).size ≤ 90 := by
        have h1 := nmN_size HK.out M.length
        have h2 := HK.out.m10
        rw [ByteArray.size_append, size_b]
        omega
      have HZ0 := hide hz0
      have a1 := HF1.out.2.1 1 _ rfl
      have az := HF1.out.1
      clear hz0 HF HS HR HB
      have HPB := hide (show Below w.heap.size w wr from HW1.out)
      clear HW1 HW
      rename World => wr1
      go_wp2_with fail
      clear a1 az
      go_loopg [32, 3] m (fun g t s wr => ∃ (j : Nat) (b : ByteArray), t = .int .i64 (j : Int) ∧ s = .string b ∧ j ≤ m ∧ b.size ≤ 3000 ∧ Hid (m ≤ g + j) ∧ Hid (b = nhN (nmN M M.length ++ ⟨#[124]⟩) H j) ∧ Hid (Below wr1.heap.size wr1 wr))
      case atStart => exact ⟨0, _, rfl, rfl, by omega, by rw [HBT.out]; exact Nat.le_trans (HZN.out 0) (by have := HZ0.out; omega), hide (by omega), HBT, hide (Below.refl _ _)⟩
      case round =>
        obtain ⟨q, b, rfl, rfl, hq, hbs, HG, HE, HW⟩ := hrel
        by_cases hlt : q < m
        · obtain ⟨⟨x0, x1⟩, hx⟩ : ∃ x, H[q]? = some x := ⟨_, List.getElem?_eq_getElem (by rw [← Hm.out]; exact hlt)⟩
          have hf := hyd_facts HK.out (List.mem_of_getElem? hx)
          dsimp only at hf
          obtain ⟨y0, rfl⟩ := Int.eq_ofNat_of_zero_le (show 0 ≤ x0 by omega)
          obtain ⟨y1, rfl⟩ := Int.eq_ofNat_of_zero_le (show 0 ≤ x1 by omega)
          have HX := hide hx
          obtain ⟨bs, os, rfl, zs, t0, t1⟩ := (HS1.out.below HW.out).get2 (fun _ => rfl) hx rfl
          dsimp only at t0 t1
          have v0 : y0 < 10000000 := by omega
          have v1 : y1 < 10000000 := by omega
          have s0 := txt_size y0 (by omega)
          have s1 := txt_size y1 (by omega)
          have u4 : (0 : Int) ≤ (q : Int) := by omega
          have u5 : (q : Int) < (m : Int) := by omega
          clear hx hf
          go_wp2_with fail
          refine wp_region_later (by kernel_rfl) (by kernel_rfl) ?_
          repeat (go_big_quiet_step ((go_at_call 114; (first | with_reducible exact calls_later (num_any y0 v0 _) | with_reducible exact calls_later (num_any y1 v1 _)))))
          refine wpQuiet_nil ?_
          refine later_intro fun w5 hb5 => ?_
          have HB5 := hide (below_step (below_alloc HW.out (.cells #[.int .i64 (y0 : Int), .int .i64 (y1 : Int)] 118)) hb5)
          clear hb5 t0 t1 zs
          have HT := hide (show b ++ ((((⟨#[32]⟩ : ByteArray) ++ txt y0) ++ ⟨#[58]⟩) ++ txt y1) = nhN (nmN M M.length ++ ⟨#[124]⟩) H (q + 1) by rw [nhN_succ HX.out, HE.out]; rfl)
          have HZ := hide (show (nhN (nmN M M.length ++ ⟨#[124]⟩) H (q + 1)).size ≤ 3000 from Nat.le_trans (HZN.out (q + 1)) (by have := HZ0.out; omega))
          clear s0 s1 v0 v1 hbs
          go_wp2
          go_roundg (gk - 1)
          case rel => exact ⟨q + 1, _, by go_num, rfl, by omega, by rw [HT.out]; exact HZ.out, hide (by have := HG.out; omega), hide HT.out, HB5⟩
          case measure => have := HG.out; omega
        · obtain rfl : q = m := by omega
          have HJ := hide (show b = nxT M H by rw [HE.out, nxT, Hm.out])
          have HEND := hide (below_step HPB.out HW.out)
          go_wp2
          go_ret
          exact ⟨by rw [← HJ.out]; rfl, HEND.out⟩
end Go.Proofs.YtmoelgbbgepckaaDoor

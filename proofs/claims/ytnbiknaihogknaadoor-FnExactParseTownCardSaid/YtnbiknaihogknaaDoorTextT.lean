/- A town's text: both sides. -/
import Derived.Test.YtnbiknaihogknaaDoorNumT
import Derived.Test.YtnbiknaihogknaaDoorTownV
import Derived.Deep.LoopGhost
namespace Go.Proofs.YtnbiknaihogknaaDoor
open Go.RowKit
set_option linter.unusedVariables false

/-- One street's text. -/
def tt1 (x : StT) : ByteArray := (((((⟨#[32]⟩ : ByteArray) ++ txt x.1.toNat) ++ ⟨#[45]⟩) ++ txt x.2.1.toNat) ++ ⟨#[61]⟩) ++ txt x.2.2.toNat
/-- The text of the first j streets, behind the number of nodes. -/
def ttN (k : Nat) (l : List StT) : Nat → ByteArray
  | 0 => txt k ++ ⟨#[58]⟩
  | j + 1 => match l[j]? with
    | some x => ttN k l j ++ tt1 x
    | none => ttN k l j
theorem ttN_succ {k : Nat} {l : List StT} {j : Nat} {x : StT} (h : l[j]? = some x) : ttN k l (j + 1) = ttN k l j ++ tt1 x := by rw [ttN, h]
theorem size_lit (c : UInt8) : (⟨#[c]⟩ : ByteArray).size = 1 := rfl
theorem tt1_size {k : Nat} {l : List StT} (hk : TownOk k l) {x : StT} (h : x ∈ l) : (tt1 x).size ≤ 66 := by
  have hf := fitB_iff.1 (hk.fits x h)
  have h14 := hk.hi
  unfold tt1
  have h1 := txt_size x.1.toNat (by omega)
  have h2 := txt_size x.2.1.toNat (by omega)
  have h3 := txt_size x.2.2.toNat (by omega)
  simp only [ByteArray.size_append, size_lit]
  omega
theorem ttN_size {k : Nat} {l : List StT} (hk : TownOk k l) : ∀ j, (ttN k l j).size ≤ 22 + 66 * j
  | 0 => by
    have h1 := txt_size k (by have := hk.hi; omega)
    rw [ttN, ByteArray.size_append, size_lit]
    omega
  | j + 1 => by
    have ih := ttN_size hk j
    cases hx : l[j]? with
    | none => simp only [ttN, hx]; omega
    | some x =>
      rw [ttN_succ hx, ByteArray.size_append]
      have := tt1_size hk (List.mem_of_getElem? hx)
      omega

set_option maxRecDepth 100000 in
set_option maxHeartbeats 4000000 in
theorem toText_any (k n c : Nat) (A : Option Addr) (l : List StT) (w : World) (hn : n = l.length) (hk : TownOk k l) (hr : Rd w A (l.flatMap tcells)) :
    Calls Tryd.prog 13 #[.agg #[.int .i64 (k : Int), .slice A n c]] w fun e w' => e = .returned (.string (ttN k l n)) ∧ Below w.heap.size w w' := by
  have Hn := hide hn
  have HK := hide hk
  have Hr := hide (hr.alloc (.cells #[.int .i64 (k : Int), .slice A n c] 24))
  have HB := hide (below_alloc (Below.refl w.heap.size w) (.cells #[.int .i64 (k : Int), .slice A n c] 24))
  have HF := hide (Row.new w #[.int .i64 (k : Int), .slice A n c] 24)
  have hn40 : n ≤ 40 := by have := hk.len; omega
  have hk14 : k ≤ 14 := hk.hi
  have hkz := txt_size k (by omega)
  clear hn hk hr
  go_enter Tryd.func13, Tryd.ntmps13
  go_wp2_with fail
  refine (num_any k (by omega) _).mono ?_
  rintro e w1 ⟨rfl, hq⟩
  have HR1 := hide (Hr.out.below hq)
  have HB1 := hide (below_step HB.out hq)
  have a1 := (HF.out.below hq).2.1 1 _ rfl
  have az := (HF.out.below hq).1
  clear hq
  go_wp2_with fail
  clear a1 az
  go_loopg [13, 3] n (fun g t s wr => ∃ (j : Nat) (b : ByteArray), t = .int .i64 (j : Int) ∧ s = .string b ∧ j ≤ n ∧ b.size ≤ 3000 ∧ Hid (n ≤ g + j) ∧ Hid (b = ttN k l j) ∧ Hid (Below w1.heap.size w1 wr))
  case atStart => exact ⟨0, _, rfl, rfl, by omega, by rw [ByteArray.size_append, size_lit]; omega, hide (by omega), hide rfl, hide (Below.refl _ _)⟩
  case round =>
    obtain ⟨j, b, rfl, rfl, hj, hbs, HG, HE, HW⟩ := hrel
    by_cases hlt : j < n
    · obtain ⟨⟨x0, x1, x2⟩, hx⟩ : ∃ x, l[j]? = some x := ⟨_, List.getElem?_eq_getElem (by rw [← Hn.out]; exact hlt)⟩
      have hf := fitB_iff.1 (HK.out.fits _ (List.mem_of_getElem? hx))
      dsimp only at hf
      obtain ⟨y0, rfl⟩ := Int.eq_ofNat_of_zero_le (show 0 ≤ x0 by omega)
      obtain ⟨y1, rfl⟩ := Int.eq_ofNat_of_zero_le (show 0 ≤ x1 by omega)
      obtain ⟨y2, rfl⟩ := Int.eq_ofNat_of_zero_le (show 0 ≤ x2 by omega)
      have HX := hide hx
      obtain ⟨bs, os, rfl, zs, t0, t1, t2⟩ := (HR1.out.below HW.out).get3 (fun _ => rfl) hx rfl
      dsimp only at t0 t1 t2
      have v0 : y0 < 10000000 := by omega
      have v1 : y1 < 10000000 := by omega
      have v2 : y2 < 10000000 := by omega
      have s0 := txt_size y0 (by omega)
      have s1 := txt_size y1 (by omega)
      have s2 := txt_size y2 (by omega)
      have u4 : (0 : Int) ≤ (j : Int) := by omega
      have u5 : (j : Int) < (n : Int) := by omega
      clear hx hf
      go_wp2_with fail
      have HSB := hide (Row.new wr #[.int .i64 (y0 : Int), .int .i64 (y1 : Int), .int .i64 (y2 : Int)] 34)
      refine wp_region_later (by kernel_rfl) (by kernel_rfl) ?_
      repeat (go_big_quiet_step ((go_at_call 21; (first | with_reducible exact calls_later (num_any y0 v0 _) | with_reducible exact calls_later (num_any y1 v1 _) | with_reducible exact calls_later (num_any y2 v2 _)))))
      refine wpQuiet_nil ?_
      refine later_intro fun w5 hb5 => ?_
      have HB5 := hide (below_step (below_alloc HW.out (.cells #[.int .i64 (y0 : Int), .int .i64 (y1 : Int), .int .i64 (y2 : Int)] 34)) hb5)
      clear hb5 t0 t1 t2 zs
      have HS := hide (show b ++ ((((((⟨#[32]⟩ : ByteArray) ++ txt y0) ++ ⟨#[45]⟩) ++ txt y1) ++ ⟨#[61]⟩) ++ txt y2) = ttN k l (j + 1) by rw [ttN_succ HX.out, HE.out]; rfl)
      have HZ := hide (show (ttN k l (j + 1)).size ≤ 3000 from Nat.le_trans (ttN_size HK.out (j + 1)) (by omega))
      clear s0 s1 s2 v0 v1 v2 hbs hkz
      go_wp2
      go_roundg (gk - 1)
      case rel => exact ⟨j + 1, _, by go_num, rfl, by omega, by rw [HS.out]; exact HZ.out, hide (by have := HG.out; omega), hide HS.out, HB5⟩
      case measure => have := HG.out; omega
    · have hkn : ((j : Int) < (n : Int)) = False := by simp; omega
      have HJ := hide (show ttN k l j = ttN k l n by rw [show j = n by omega])
      go_wp2
      go_ret
      exact ⟨by rw [← HJ.out, ← HE.out]; rfl, below_step HB1.out HW.out⟩

set_option maxRecDepth 100000 in
set_option maxHeartbeats 4000000 in
theorem text_any (b0 k n c : Nat) (A : Option Addr) (l : List StT) (w : World) (hn : n = l.length) (hk : TownOk k l) (hr : Rd w A (l.flatMap tcells)) (hc0 : w.cell? ⟨b0, 0, none⟩ = some (.int .i64 (k : Int))) (hc1 : w.cell? ⟨b0, 1, none⟩ = some (.slice A n c)) (ht : Tab w) :
    Calls Tryd.prog 26 #[.pointer (some ⟨b0, 0, none⟩)] w fun e w' => e = .returned (.string (ttN k l n)) ∧ Below w.heap.size w w' := by
  have Hn := hide hn
  have HK := hide hk
  have Hr := hide hr
  have HC1 := hide hc1
  have HT := hide ht
  have hz := World.block_lt_of_cell? w _ hc0
  dsimp only at hz
  have hn40 : n ≤ 40 := by have := hk.len; omega
  have hk14 : k ≤ 14 := hk.hi
  have hkz := txt_size k (by omega)
  clear hn hk hr ht hc1
  go_enter Tryd.func26, Tryd.ntmps26
  go_wp2_with fail
  refine (itoa_any k (by omega) _ HT.out).mono ?_
  rintro e w1 ⟨rfl, hq⟩
  have HR1 := hide (Hr.out.below hq)
  have HT1 := hide (tab_below HT.out hq)
  have HB1 := hide hq
  have a1 := cell_on HC1.out hq
  have az : b0 < w1.heap.size := Nat.lt_of_lt_of_le hz hq.size
  clear hq hc0
  go_wp2_with fail
  clear a1 az hz
  go_loopg [17, 3] n (fun g t s wr => ∃ (j : Nat) (b : ByteArray), t = .int .i64 (j : Int) ∧ s = .string b ∧ j ≤ n ∧ b.size ≤ 3000 ∧ Hid (n ≤ g + j) ∧ Hid (b = ttN k l j) ∧ Hid (Below w1.heap.size w1 wr))
  case atStart => exact ⟨0, _, rfl, rfl, by omega, by rw [ByteArray.size_append, size_lit]; omega, hide (by omega), hide rfl, hide (Below.refl _ _)⟩
  case round =>
    obtain ⟨j, b, rfl, rfl, hj, hbs, HG, HE, HW⟩ := hrel
    by_cases hlt : j < n
    · obtain ⟨⟨x0, x1, x2⟩, hx⟩ : ∃ x, l[j]? = some x := ⟨_, List.getElem?_eq_getElem (by rw [← Hn.out]; exact hlt)⟩
      have hf := fitB_iff.1 (HK.out.fits _ (List.mem_of_getElem? hx))
      dsimp only at hf
      obtain ⟨y0, rfl⟩ := Int.eq_ofNat_of_zero_le (show 0 ≤ x0 by omega)
      obtain ⟨y1, rfl⟩ := Int.eq_ofNat_of_zero_le (show 0 ≤ x1 by omega)
      obtain ⟨y2, rfl⟩ := Int.eq_ofNat_of_zero_le (show 0 ≤ x2 by omega)
      have HX := hide hx
      obtain ⟨bs, os, rfl, zs, t0, t1, t2⟩ := (HR1.out.below HW.out).get3 (fun _ => rfl) hx rfl
      dsimp only at t0 t1 t2
      have v0 : y0 ≤ 9223372036854775807 := by omega
      have v1 : y1 ≤ 9223372036854775807 := by omega
      have v2 : y2 ≤ 9223372036854775807 := by omega
      have s0 := txt_size y0 (by omega)
      have s1 := txt_size y1 (by omega)
      have s2 := txt_size y2 (by omega)
      have u4 : (0 : Int) ≤ (j : Int) := by omega
      have u5 : (j : Int) < (n : Int) := by omega
      have HTW := hide (tab_below HT1.out HW.out)
      have HTL := hide (fun (m : Later (wr.alloc (.cells #[.int .i64 (y0 : Int), .int .i64 (y1 : Int), .int .i64 (y2 : Int)] 34))) => tab_below HTW.out (below_step (below_alloc (Below.refl _ _) _) m.below))
      clear hx hf
      go_wp2_with fail
      refine wp_region_later (by kernel_rfl) (by kernel_rfl) ?_
      repeat (go_big_quiet_step ((go_at_call 30; (first | with_reducible exact calls_later (itoa_any y0 v0 _ (HTL.out _)) | with_reducible exact calls_later (itoa_any y1 v1 _ (HTL.out _)) | with_reducible exact calls_later (itoa_any y2 v2 _ (HTL.out _))))))
      refine wpQuiet_nil ?_
      refine later_intro fun w5 hb5 => ?_
      have HB5 := hide (below_step (below_alloc HW.out (.cells #[.int .i64 (y0 : Int), .int .i64 (y1 : Int), .int .i64 (y2 : Int)] 34)) hb5)
      clear hb5 t0 t1 t2 zs
      have HS := hide (show b ++ ((((((⟨#[32]⟩ : ByteArray) ++ txt y0) ++ ⟨#[45]⟩) ++ txt y1) ++ ⟨#[61]⟩) ++ txt y2) = ttN k l (j + 1) by rw [ttN_succ HX.out, HE.out]; rfl)
      have HZ := hide (show (ttN k l (j + 1)).size ≤ 3000 from Nat.le_trans (ttN_size HK.out (j + 1)) (by omega))
      clear s0 s1 s2 v0 v1 v2 hbs hkz
      go_wp2
      go_roundg (gk - 1)
      case rel => exact ⟨j + 1, _, by go_num, rfl, by omega, by rw [HS.out]; exact HZ.out, hide (by have := HG.out; omega), hide HS.out, HB5⟩
      case measure => have := HG.out; omega
    · have hkn : ((j : Int) < (n : Int)) = False := by simp; omega
      have HJ := hide (show ttN k l j = ttN k l n by rw [show j = n by omega])
      go_wp2
      go_ret
      exact ⟨by rw [← HJ.out, ← HE.out]; rfl, below_step HB1.out HW.out⟩
end Go.Proofs.YtnbiknaihogknaaDoor

/- The mains whose load and limit have a property: the program. -/
import Derived.Test.YtfcpgpmhjadanaaGreatDoorNetK
namespace Go.Proofs.YtfcpgpmhjadanaaGreatDoor
open Go.RowKit
set_option linter.unusedVariables false

theorem over1_any (x y : Int) (w : World) :
    Calls Tryz.prog 35 #[.int .i64 x, .int .i64 y] w fun e w' => e = .returned (.bool (overP x y)) ∧ w = w' := by
  go_enter Tryz.func35, Tryz.ntmps35
  go_wp2
  all_goals
    go_ret
    exact ⟨ret_bool (by simp [overP, *] <;> omega), rfl⟩

set_option maxRecDepth 100000 in
set_option maxHeartbeats 4000000 in
theorem overWith_any (b0 : Nat) (A B C : Option Addr) (n c m d k ecap : Nat) (M H : List (Int × Int)) (F : List Int) (w : World) (hn : n = M.length) (hm : m = H.length) (hk : NetOk M H) (hkF : k = F.length) (hkm : k ≤ m) (hF : ∀ (i : Nat) (h : Int × Int) (f : Int), H[i]? = some h → F[i]? = some f → 0 ≤ f ∧ f ≤ 5000) (hr : NetRd w A B M H) (hf : Rd w C (F.map (Value.int .i64))) (hc0 : w.cell? ⟨b0, 0, none⟩ = some (.slice A n c)) (hc1 : w.cell? ⟨b0, 1, none⟩ = some (.slice B m d)) :
    Calls Tryz.prog 34 #[.pointer (some ⟨b0, 0, none⟩), .slice C k ecap, .func (.func 35) #[] #[]] w (WithPost overP M (loadsF M H F) n w) := by
  obtain ⟨i0, hi0, hz0, hz1, hz2⟩ := info_parts infoIntT
  have Hi := hide hi0
  have Hz := hide (And.intro hz0 (And.intro hz1 hz2))
  have Q := hide (loads_any b0 A B C n c m d k ecap M H F w hn hm hk hkF hkm hF hr hf hc0 hc1)
  have hz0' := World.block_lt_of_cell? w _ hc0
  dsimp only at hz0'
  have Hn := hide hn
  have hn10 : n ≤ 10 := by have := hk.m10; omega
  have HM := hide hr.1
  clear hn hm hk hkF hkm hF hr hf hi0 hz0 hz1 hz2
  go_enter Tryz.func34, Tryz.ntmps34
  go_wp2_with fail
  generalize loadsF M H F = D at *
  refine Q.out.mono ?_
  rintro e w1 ⟨⟨g, rfl, ho⟩, hq⟩
  have HW1 : Hid (Below w.heap.size w w1) := hide hq
  have a0 := hide (cell_on hc0 hq)
  have HD := hide ho
  have hz := World.block_lt_of_cell? w1 _ a0.out
  have HG := hide ho.lt.2
  dsimp only at hz
  clear hq Q hc0 hc1 ho hz0'
  go_wp2_with fail
  go_loopw [7, 14] (fun v t wr => ∃ j : Nat, j ≤ n ∧ t = .int .i64 j ∧ Hid (wr.ownsRow w1.heap.size 3 1 v (withN overP M D j).length ((withN overP M D j).map (Value.int .i64))) ∧ Hid (Below w1.heap.size w1 wr)) (fun _ t _ => n - (intOf t).toNat)
  case atStart => exact ⟨0, by omega, rfl, hide (World.ownsRow_nil _ _ _ _), hide (Below.refl _ _)⟩
  case round =>
    obtain ⟨j, hj, rfl, HO, HB⟩ := hrel
    by_cases hlt : j < n
    · obtain ⟨⟨y0, y1⟩, hy⟩ : ∃ h, M[j]? = some h := ⟨_, List.getElem?_eq_getElem (by rw [← Hn.out]; exact hlt)⟩
      obtain ⟨b, off, rfl, hbs, c0, c1⟩ := (HM.out.below (below_step HW1.out HB.out)).get2 (fun _ => rfl) hy rfl
      have Hy := hide hy
      have d0 := (HD.out.below HB.out).cell hlt
      have dz := (HD.out.below HB.out).lt.2
      have q0 := cell_on a0.out HB.out
      have hwz := Nat.lt_of_lt_of_le hz HB.out.size
      clear hy
      dsimp only at c0 c1
      have HLN := hide (withN_length overP M D j)
      have HYES := hide (fun h => withN_yes (p := overP) (L := D) Hy.out h)
      have HNO := hide (fun h => withN_no (p := overP) (L := D) Hy.out h)
      generalize D j = x at *
      have qc := fun W => over1_any x y1 W
      cases hp : overP x y1 with
      | true =>
        have HN := hide (HYES.out hp)
        have HOA := hide (HO.out.alloc (.cells #[.int .i64 (j : Int)] 3))
        have HNC := hide (show ∀ (i : Nat) (u : Value), [Value.int .i64 (j : Int)][i]? = some u → (wr.alloc (.cells #[.int .i64 (j : Int)] 3)).cell? ((⟨wr.heap.size, 0, none⟩ : Addr).add i) = some u from fun i u hu => by rw [Addr.add_lit, Nat.zero_add]; exact (Row.new _ _ _).2.1 i u hu)
        have HWZ : Hid (w1.heap.size ≤ (wr.alloc (.cells #[.int .i64 (j : Int)] 3)).heap.size) := hide (by have := HB.out.size; simp; omega)
        clear HYES HNO
        rw [hp] at qc
        go_wp2_with (first | (go_at_call 35; ((with_reducible refine (qc _).mono ?_); rintro e w' ⟨rfl, rfl⟩)) | (at_builtin; refine wpList_append_own _ rfl (.tmp 30) (.tmp 32) 28 rfl w1.heap.size 3 i0 (.int .i64 0) 1 8 Tryz.underlying28 Hi.out Hz.out.1 Hz.out.2.1 Hz.out.2.2 rfl (by decide) _ _ _ rfl HOA.out ⟨wr.heap.size, 0, none⟩ 1 1 [.int .i64 (j : Int)] rfl rfl HNC.out ?c1 ?c2 ?c3 HWZ.out ?_))
        case c1 => simp [Value.oneCell']
        case c2 => have := HLN.out; unfold maxLen; omega
        case c3 => have := HLN.out; omega
        intro v' w5 hown hgrow _
        have hbl := fun q hq => (HO.out.lt q hq).1
        have HB5 : Hid (Below w1.heap.size w1 w5) := hide ((below_alloc HB.out _).grown hgrow (by have := HB.out.size; simp; omega) hbl)
        have HO5 := hide hown
        clear hown hgrow hbl HOA HNC HWZ
        go_wp2
        go_roundw
        case rel => exact ⟨j + 1, by omega, by go_num, hide (by rw [HN.out, List.length_append, List.map_append]; exact HO5.out), HB5⟩
        case measure => simp [intOf]; omega
      | false =>
        have HN := hide (HNO.out hp)
        clear HYES HNO
        rw [hp] at qc
        go_wp2_with (go_at_call 35; ((with_reducible refine (qc _).mono ?_); rintro e w' ⟨rfl, rfl⟩))
        go_roundw
        case rel => exact ⟨j + 1, by omega, by go_num, hide (by rw [HN.out]; exact HO.out), HB⟩
        case measure => simp [intOf]; omega
    · have hjn : j = n := by omega
      subst hjn
      go_wp2
      go_ret
      exact ⟨⟨_, rfl, own_le HO.out HW1.out.size⟩, below_step HW1.out HB.out⟩

theorem tight1_any (x y : Int) (w : World) :
    Calls Tryz.prog 37 #[.int .i64 x, .int .i64 y] w fun e w' => e = .returned (.bool (tightP x y)) ∧ w = w' := by
  go_enter Tryz.func37, Tryz.ntmps37
  go_wp2
  all_goals
    go_ret
    exact ⟨ret_bool (by simp [tightP, *] <;> omega), rfl⟩

set_option maxRecDepth 100000 in
set_option maxHeartbeats 4000000 in
theorem tightWith_any (b0 : Nat) (A B C : Option Addr) (n c m d k ecap : Nat) (M H : List (Int × Int)) (F : List Int) (w : World) (hn : n = M.length) (hm : m = H.length) (hk : NetOk M H) (hkF : k = F.length) (hkm : k ≤ m) (hF : ∀ (i : Nat) (h : Int × Int) (f : Int), H[i]? = some h → F[i]? = some f → 0 ≤ f ∧ f ≤ 5000) (hr : NetRd w A B M H) (hf : Rd w C (F.map (Value.int .i64))) (hc0 : w.cell? ⟨b0, 0, none⟩ = some (.slice A n c)) (hc1 : w.cell? ⟨b0, 1, none⟩ = some (.slice B m d)) :
    Calls Tryz.prog 34 #[.pointer (some ⟨b0, 0, none⟩), .slice C k ecap, .func (.func 37) #[] #[]] w (WithPost tightP M (loadsF M H F) n w) := by
  obtain ⟨i0, hi0, hz0, hz1, hz2⟩ := info_parts infoIntT
  have Hi := hide hi0
  have Hz := hide (And.intro hz0 (And.intro hz1 hz2))
  have Q := hide (loads_any b0 A B C n c m d k ecap M H F w hn hm hk hkF hkm hF hr hf hc0 hc1)
  have hz0' := World.block_lt_of_cell? w _ hc0
  dsimp only at hz0'
  have Hn := hide hn
  have hn10 : n ≤ 10 := by have := hk.m10; omega
  have HM := hide hr.1
  clear hn hm hk hkF hkm hF hr hf hi0 hz0 hz1 hz2
  go_enter Tryz.func34, Tryz.ntmps34
  go_wp2_with fail
  generalize loadsF M H F = D at *
  refine Q.out.mono ?_
  rintro e w1 ⟨⟨g, rfl, ho⟩, hq⟩
  have HW1 : Hid (Below w.heap.size w w1) := hide hq
  have a0 := hide (cell_on hc0 hq)
  have HD := hide ho
  have hz := World.block_lt_of_cell? w1 _ a0.out
  have HG := hide ho.lt.2
  dsimp only at hz
  clear hq Q hc0 hc1 ho hz0'
  go_wp2_with fail
  go_loopw [7, 14] (fun v t wr => ∃ j : Nat, j ≤ n ∧ t = .int .i64 j ∧ Hid (wr.ownsRow w1.heap.size 3 1 v (withN tightP M D j).length ((withN tightP M D j).map (Value.int .i64))) ∧ Hid (Below w1.heap.size w1 wr)) (fun _ t _ => n - (intOf t).toNat)
  case atStart => exact ⟨0, by omega, rfl, hide (World.ownsRow_nil _ _ _ _), hide (Below.refl _ _)⟩
  case round =>
    obtain ⟨j, hj, rfl, HO, HB⟩ := hrel
    by_cases hlt : j < n
    · obtain ⟨⟨y0, y1⟩, hy⟩ : ∃ h, M[j]? = some h := ⟨_, List.getElem?_eq_getElem (by rw [← Hn.out]; exact hlt)⟩
      obtain ⟨b, off, rfl, hbs, c0, c1⟩ := (HM.out.below (below_step HW1.out HB.out)).get2 (fun _ => rfl) hy rfl
      have Hy := hide hy
      have d0 := (HD.out.below HB.out).cell hlt
      have dz := (HD.out.below HB.out).lt.2
      have q0 := cell_on a0.out HB.out
      have hwz := Nat.lt_of_lt_of_le hz HB.out.size
      clear hy
      dsimp only at c0 c1
      have HLN := hide (withN_length tightP M D j)
      have HYES := hide (fun h => withN_yes (p := tightP) (L := D) Hy.out h)
      have HNO := hide (fun h => withN_no (p := tightP) (L := D) Hy.out h)
      generalize D j = x at *
      have qc := fun W => tight1_any x y1 W
      cases hp : tightP x y1 with
      | true =>
        have HN := hide (HYES.out hp)
        have HOA := hide (HO.out.alloc (.cells #[.int .i64 (j : Int)] 3))
        have HNC := hide (show ∀ (i : Nat) (u : Value), [Value.int .i64 (j : Int)][i]? = some u → (wr.alloc (.cells #[.int .i64 (j : Int)] 3)).cell? ((⟨wr.heap.size, 0, none⟩ : Addr).add i) = some u from fun i u hu => by rw [Addr.add_lit, Nat.zero_add]; exact (Row.new _ _ _).2.1 i u hu)
        have HWZ : Hid (w1.heap.size ≤ (wr.alloc (.cells #[.int .i64 (j : Int)] 3)).heap.size) := hide (by have := HB.out.size; simp; omega)
        clear HYES HNO
        rw [hp] at qc
        go_wp2_with (first | (go_at_call 37; ((with_reducible refine (qc _).mono ?_); rintro e w' ⟨rfl, rfl⟩)) | (at_builtin; refine wpList_append_own _ rfl (.tmp 30) (.tmp 32) 28 rfl w1.heap.size 3 i0 (.int .i64 0) 1 8 Tryz.underlying28 Hi.out Hz.out.1 Hz.out.2.1 Hz.out.2.2 rfl (by decide) _ _ _ rfl HOA.out ⟨wr.heap.size, 0, none⟩ 1 1 [.int .i64 (j : Int)] rfl rfl HNC.out ?c1 ?c2 ?c3 HWZ.out ?_))
        case c1 => simp [Value.oneCell']
        case c2 => have := HLN.out; unfold maxLen; omega
        case c3 => have := HLN.out; omega
        intro v' w5 hown hgrow _
        have hbl := fun q hq => (HO.out.lt q hq).1
        have HB5 : Hid (Below w1.heap.size w1 w5) := hide ((below_alloc HB.out _).grown hgrow (by have := HB.out.size; simp; omega) hbl)
        have HO5 := hide hown
        clear hown hgrow hbl HOA HNC HWZ
        go_wp2
        go_roundw
        case rel => exact ⟨j + 1, by omega, by go_num, hide (by rw [HN.out, List.length_append, List.map_append]; exact HO5.out), HB5⟩
        case measure => simp [intOf]; omega
      | false =>
        have HN := hide (HNO.out hp)
        clear HYES HNO
        rw [hp] at qc
        go_wp2_with (go_at_call 37; ((with_reducible refine (qc _).mono ?_); rintro e w' ⟨rfl, rfl⟩))
        go_roundw
        case rel => exact ⟨j + 1, by omega, by go_num, hide (by rw [HN.out]; exact HO.out), HB⟩
        case measure => simp [intOf]; omega
    · have hjn : j = n := by omega
      subst hjn
      go_wp2
      go_ret
      exact ⟨⟨_, rfl, own_le HO.out HW1.out.size⟩, below_step HW1.out HB.out⟩

end Go.Proofs.YtfcpgpmhjadanaaGreatDoor

/- slices.Repeat of one number. -/
import Derived.Test.YtbhnaakknfienaaGreatDoorTownR
import Derived.Test.YtbhnaakknfienaaGreatDoorRegionsS
import Derived.Laws.CopyOwn
namespace Go.Proofs.YtbhnaakknfienaaGreatDoor
open Go.RowKit
set_option linter.unusedVariables false

set_option maxHeartbeats 2000000 in
theorem mul64_any (k : Nat) (hk : k ≤ 14) (w : World) :
    Calls Tryz.prog 98 #[.int .u64 1, .int .u64 (k : Int)] w fun e w' => e = .returned (.tuple #[.int .u64 0, .int .u64 (k : Int)]) ∧ w = w' := by
  obtain rfl | rfl | rfl | rfl | rfl | rfl | rfl | rfl | rfl | rfl | rfl | rfl | rfl | rfl | rfl : k = 0 ∨ k = 1 ∨ k = 2 ∨ k = 3 ∨ k = 4 ∨ k = 5 ∨ k = 6 ∨ k = 7 ∨ k = 8 ∨ k = 9 ∨ k = 10 ∨ k = 11 ∨ k = 12 ∨ k = 13 ∨ k = 14 := by omega
  all_goals
    go_enter Tryz.func98, Tryz.ntmps98
    go_wp2
    go_ret2
    exact ⟨rfl, rfl⟩

set_option maxHeartbeats 1000000 in
theorem mul_any (k : Nat) (hk : k ≤ 14) (w : World) :
    Calls Tryz.prog 89 #[.int .u64 1, .int .u64 (k : Int)] w fun e w' => e = .returned (.tuple #[.int .u64 0, .int .u64 (k : Int)]) ∧ w = w' := by
  go_enter Tryz.func89, Tryz.ntmps89
  go_wp2_with (go_at_call 98; ((with_reducible refine (mul64_any _ hk _).mono ?_); rintro e w' ⟨rfl, rfl⟩))
  go_ret2
  exact ⟨rfl, rfl⟩

theorem OwnD.block {w : World} {B g nd : Nat} {d : Nat → Int} (h : OwnD w B g nd d) : w.heap[g]? = some (.cells (rowOf nd d).toArray 3 (0, 0)) ∧ B ≤ g := by
  rcases h.2 with ⟨h', _⟩ | ⟨g', cap', cur, h', hb, hg, _, _, hs, ht⟩
  · simp at h'
  · simp only [Value.slice.injEq, Option.some.injEq, Addr.mk.injEq, and_true, true_and] at h'
    obtain ⟨rfl, rfl⟩ := h'
    rw [List.take_of_length_le (by rw [Array.length_toList, hs]; exact Nat.le_refl _)] at ht
    rw [← ht]
    exact ⟨by simpa using hg, hb⟩
theorem OwnD.of_block {w : World} {B g nd : Nat} {d : Nat → Int} {cs : List Value} (hg : w.heap[g]? = some (.cells cs.toArray 3 (0, 0))) (hb : B ≤ g) (hn : nd ≤ maxLen) (hc : cs = rowOf nd d) : OwnD w B g nd d := by
  subst hc
  exact ⟨by rw [rowOf_length, Nat.mul_one], .inr ⟨g, nd, _, rfl, hb, hg, Nat.le_refl _, hn, by simp [rowOf_length], by simp [List.take_of_length_le, rowOf_length]⟩⟩
theorem fill_splice (nd m k : Nat) (h : m + k ≤ nd) : splice (rowOf nd (fillF m)) m (List.replicate k (.int .i64 (-1))) = rowOf nd (fillF (m + k)) := by
  refine List.ext_getElem? fun j => ?_
  by_cases hj : j < nd
  · rw [rowOf_get hj, splice]
    by_cases h1 : j < m
    · rw [List.getElem?_append_left (by rw [List.length_take, rowOf_length]; omega), List.getElem?_take, if_pos h1, rowOf_get hj]
      simp [fillF, h1, show j < m + k by omega]
    · rw [List.getElem?_append_right (by rw [List.length_take, rowOf_length]; omega), List.length_take, rowOf_length, Nat.min_eq_left (by omega)]
      by_cases h2 : j < m + k
      · rw [List.getElem?_append_left (by simp; omega)]
        simp [fillF, h2, show j - m < k by omega]
      · rw [List.getElem?_append_right (by simp; omega), List.getElem?_drop]
        simp only [List.length_replicate]
        rw [show m + k + (j - m - k) = j by omega, rowOf_get hj]
        simp [fillF, h1, h2]
  · rw [List.getElem?_eq_none (l := rowOf _ _) (by rw [rowOf_length]; omega), List.getElem?_eq_none (by rw [length_splice _ _ _ (by rw [rowOf_length]; simpa using h), rowOf_length]; omega)]

set_option maxRecDepth 100000 in
set_option maxHeartbeats 4000000 in
theorem repeat_any (b nd : Nat) (w : World) (h1 : 1 ≤ nd) (h2 : nd ≤ 14) (hc : w.cell? ⟨b, 0, none⟩ = some (.int .i64 (-1))) :
    Calls Tryz.prog 78 #[.slice (some ⟨b, 0, none⟩) 1 1, .int .i64 (nd : Int)] w fun e w' => e = .returned (.slice (some ⟨w.heap.size, 0, none⟩) nd nd) ∧ OwnD w' w.heap.size w.heap.size nd (fillF nd) ∧ Below w.heap.size w w' := by
  obtain ⟨i0, hi, hz0, hz1, hz2⟩ := info_parts infoIntT
  have hmk := fun W => run_makeN (P := Tryz.prog) 43 3 Tryz.underlying43 hi hz0 nd (by rw [hz2]; omega) (by omega) W
  rw [hz1] at hmk
  simp only [Value.cells, Nat.mul_one] at hmk
  clear hi hz0 hz1 hz2
  have hsz : (Tryz.prog.info? 3).map (·.size) = some 1 := by kernel_rfl
  have HO := hide (OwnD.new (d := fillF 0) w w.heap.size nd (Nat.le_refl _) (by unfold maxLen; omega) _ (made_zero nd))
  have HC := hide ((((Below.refl w.heap.size w).alloc (Nat.le_refl _) (.cells (madeCells #[.int .i64 0] nd) 3)).cell (p := ⟨b, 0, none⟩) (World.block_lt_of_cell? w _ hc)).trans hc)
  have HSZ := hide hsz
  clear hsz hc
  go_enter Tryz.func78, Tryz.ntmps78
  go_wp2_with (first | (go_at_call 89; ((with_reducible refine (mul_any _ h2 _).mono ?_); rintro e w' ⟨rfl, rfl⟩)) | (with_reducible refine wpList_copy_splice rfl (.tmp 31) (.tmp 32) 43 43 rfl 3 Tryz.underlying43 HSZ.out (some ⟨w.heap.size, 0, none⟩) (some ⟨b, 0, none⟩) nd nd 1 1 rfl rfl w.heap.size 0 (rowOf nd (fillF 0)) 3 HO.out.block.1 [.int .i64 (-1)] ?c1 ?c2 ?c3 ?c4 w.heap.size w ?c5 (Nat.le_refl _) ?_))
  case c1 => simp [Nat.min_def]; omega
  case c2 =>
    intro j v hj
    match j, hj with
    | 0, hj => simp at hj; subst hj; exact HC.out
  case c3 => rw [rowOf_length]; simpa using h1
  case c4 => intro v hv; simp at hv; subst hv; rfl
  case c5 => exact (Below.refl _ _).alloc (Nat.le_refl _) _
  intro w1 HG hb1
  have HO1 : Hid (OwnD w1 w.heap.size w.heap.size nd (fillF 1)) := hide (OwnD.of_block HG.out (Nat.le_refl _) (by unfold maxLen; omega) (by have := fill_splice nd 0 1 (by omega); simpa using this))
  clear HO HC HG
  go_wp2_with fail
  go_loopw [8] (fun t wr => ∃ m : Nat, 1 ≤ m ∧ m ≤ nd ∧ t = .int .i64 m ∧ Hid (OwnD wr w.heap.size w.heap.size nd (fillF m)) ∧ Below w.heap.size w wr) (fun t _ => nd - (intOf t).toNat)
  case atStart => exact ⟨1, by omega, by omega, rfl, HO1, hb1⟩
  case round =>
    obtain ⟨m, hm1, hm2, rfl, HO2, hb2⟩ := hrel
    clear HO1 hb1
    by_cases hlt : m < nd
    · have i0 : (0 : Int) ≤ (m : Int) := by omega
      have i1 : (m : Int) < (nd : Int) := by omega
      go_wp2_with fail
      refine wpAnyS_start (fun _ => True) (n := 10) (by kernel_rfl) rfl rfl ?_
      refine wpAnyS_take_all [0, 1, 2, 3, 4, 5, 6] 3 rfl (by kernel_rfl) (by intro c a d v w h; cases d <;> exact h) (by kernel_rfl) (by simp; rfl) rfl trivial ?_
      repeat (go_big_quiet_step (fail))
      refine wpQuiet_nil ?_
      refine wpAnyS_only 7 (by kernel_rfl) (by simp; rfl) rfl rfl (fun K hK => ?_)
      refine wp_copy_splice rfl (.tmp 41) (.tmp 44) 43 43 rfl 3 Tryz.underlying43 HSZ.out (some ⟨w.heap.size, m, none⟩) (some ⟨w.heap.size, 0, none⟩) (nd - m) (nd - m) m nd rfl rfl w.heap.size m (rowOf nd (fillF m)) 3 HO2.out.drew.block.1 (List.replicate (Nat.min m (nd - m)) (.int .i64 (-1))) ?_ ?_ ?_ ?_ w.heap.size w hb2.drew (Nat.le_refl _) ?_
      · simp
      · refine fun _ => ⟨rfl, ⟨w.heap.size, 0, none⟩, rfl, fun j v hj => ?_⟩
        have hjm : j < Nat.min m (nd - m) := by simpa using (List.getElem?_eq_some_iff.1 hj).1
        have hjm2 : j < m := Nat.lt_of_lt_of_le hjm (Nat.min_le_left _ _)
        rw [List.getElem?_replicate, if_pos hjm] at hj
        cases hj
        rw [Addr.add_lit, Nat.zero_add]
        have := HO2.out.drew.cell (show j < nd by omega)
        simpa [fillF, hjm2] using this
      · rw [List.length_replicate, rowOf_length]; show m + min m (nd - m) ≤ nd; omega
      · intro v hv
        rw [List.eq_of_mem_replicate hv]
        rfl
      intro w2 HG2 hb3
      refine hK _ _ ⟨trivial, ?_⟩
      have hmin : m + Nat.min m (nd - m) ≤ nd := by show m + min m (nd - m) ≤ nd; omega
      have hmin2 : 1 ≤ Nat.min m (nd - m) := by show 1 ≤ min m (nd - m); omega
      have HO3 : Hid (OwnD w2 w.heap.size w.heap.size nd (fillF (m + Nat.min m (nd - m)))) := hide (OwnD.of_block HG2.out (Nat.le_refl _) (by unfold maxLen; omega) (fill_splice nd m _ hmin))
      clear HG2 HO2
      rw [List.length_replicate]
      generalize Nat.min m (nd - m) = q at *
      refine wpAnyS_only 8 (by kernel_rfl) (by simp; rfl) rfl rfl (fun K hK => ?_)
      go_wp2_with fail
      refine ⟨trivial, ?_⟩
      refine wpAnyS_only 9 (by kernel_rfl) (by simp; rfl) rfl rfl (fun K hK => ?_)
      go_wp2_with fail
      refine ⟨trivial, ?_⟩
      refine wpAnyH_done (by kernel_rfl) ?_ _
      go_wp2
      go_roundw
      case rel => exact ⟨m + q, by omega, by omega, by go_num, HO3, hb3⟩
      case measure => simp [intOf]; omega
    · go_wp2
      go_ret
      have hmn : m = nd := by omega
      refine ⟨rfl, ?_, hb2⟩
      have := HO2.out
      rw [hmn] at this
      exact this
end Go.Proofs.YtbhnaakknfienaaGreatDoor

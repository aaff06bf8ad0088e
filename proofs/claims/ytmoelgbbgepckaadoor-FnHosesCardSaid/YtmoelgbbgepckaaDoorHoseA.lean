/- Small functions of the hose chapter: what each call returns. -/
import Derived.Test.YtmoelgbbgepckaaDoorProg
import Derived.Test.YtmoelgbbgepckaaDoorRegions
import Derived.Test.YtmoelgbbgepckaaDoorHoseM
import Derived.WalkKit
import Derived.WalkSpells
import Derived.WalkLawsBesides
import Derived.Deep.QuietTactic
import Derived.BigQuiet
import Derived.Deep.RegionWith
import Derived.Deep.RegionHeld3
import Derived.StillTailTactics
import Derived.KernelRfl
namespace Go.Proofs.YtmoelgbbgepckaaDoor
open Go.RowKit

def hoseB (k l : Int) : Bool := inB k 0 3 && inB l 1 5000

set_option maxHeartbeats 400000 in
theorem isHose_any (k l : Int) (w : World) :
    Calls Tryd.prog 75 #[.agg #[.int .i64 k, .int .i64 l]] w fun e w' => e = .returned (.bool (hoseB k l)) ∧ Below w.heap.size w w' := by
  go_enter Tryd.func75, Tryd.ntmps75
  go_wp2_with (go_at_call 68; refine (inside_any _ _ _ _).mono ?_; rintro e w' ⟨rfl, rfl⟩)
  all_goals
    go_ret
    exact ⟨by simp [hoseB, *], (Below.refl _ _).alloc (Nat.le_refl _) _⟩

set_option maxHeartbeats 400000 in
theorem hoOne_any (k l : Int) (w : World) :
    Calls Tryd.prog 77 #[.agg #[.int .i64 k, .int .i64 l]] w fun e w' => e = .returned (.bool (hoseB k l)) ∧ Below w.heap.size w w' := by
  go_enter Tryd.func77, Tryd.ntmps77
  go_wp2_with (go_at_call 113; refine (l1In_any _ _ _ _).mono ?_; rintro e w' ⟨rfl, rfl⟩)
  all_goals
    go_ret
    exact ⟨by simp [hoseB, *], (Below.refl _ _).alloc (Nat.le_refl _) _⟩

set_option maxHeartbeats 400000 in
theorem toHose_any (k l : Int) (w : World) :
    Calls Tryd.prog 57 #[.agg #[.int .i64 k, .int .i64 l]] w fun e w' => e = .returned (.agg #[.int .i64 k, .int .i64 l]) ∧ Below w.heap.size w w' := by
  go_enter Tryd.func57, Tryd.ntmps57
  go_wp2
  exact bodyPost_ret (v := .agg #[.int .i64 k, .int .i64 l]) (by simp [results, Tryd.results57, go_sem]) rfl ⟨rfl, by repeat (first | exact Below.refl _ _ | refine Below.setCell ?_ (by simp; try omega) _ | refine Below.alloc ?_ (by simp; try omega) _)⟩

set_option maxHeartbeats 400000 in
theorem hoFactors_any (w : World) :
    Calls Tryd.prog 121 #[] w fun e w' => e = .returned (.slice (some ⟨w.heap.size, 0, none⟩) 4 4) ∧ w.alloc (.cells #[.int .i64 3, .int .i64 20, .int .i64 160, .int .i64 5000] 3) = w' := by
  go_enter Tryd.func121, Tryd.ntmps121
  go_wp2
  go_ret
  exact ⟨rfl, rfl⟩

set_option maxHeartbeats 400000 in
theorem upTo_any (a b : Int) (w : World) (h0 : 0 ≤ a) (h1 : a ≤ 1000000000000000) (h2 : 1 ≤ b) (h3 : b ≤ 1000000000) :
    Calls Tryd.prog 120 #[.int .i64 a, .int .i64 b] w fun e w' => e = .returned (.int .i64 ((a + b - 1) / b)) ∧ w = w' := by
  go_enter Tryd.func120, Tryd.ntmps120
  go_wp2
  go_ret
  exact ⟨rfl, rfl⟩

theorem ix0 (w : World) : (Instr.index 137 (.agg #[.int .i64 3, .int .i64 20, .int .i64 160, .int .i64 5000]) (.int .i64 0)).run Tryd.prog w = .ok (.int .i64 3) w := by kernel_rfl

set_option maxHeartbeats 1000000 in
theorem hoseLoss_0 (l f : Int) (w : World) (hl0 : 1 ≤ l) (hl1 : l ≤ 5000) (hf0 : 0 ≤ f) (hf1 : f ≤ 3000) :
    Calls Tryd.prog 76 #[.agg #[.int .i64 0, .int .i64 l], .int .i64 f] w fun e w' => e = .returned (.int .i64 (lossOf 0 l f)) ∧ Below w.heap.size w w' := by
  have hix := ix0
  obtain ⟨a1, a2⟩ := mul_bd (a := 3) (A := 3) (by omega) (by omega) hf0 hf1
  obtain ⟨b1, b2⟩ := mul_bd a1 a2 hf0 hf1
  obtain ⟨d1, d2⟩ := mul_bd b1 b2 (show 0 ≤ l by omega) hl1
  go_enter Tryd.func76, Tryd.ntmps76
  go_wp2_with (go_at_call 120; refine (upTo_any _ _ _ (by omega) (by omega) (by omega) (by omega)).mono ?_; rintro e w' ⟨rfl, rfl⟩)
  go_ret
  exact ⟨ret_int (by simp only [lossOf, fac]; simp; omega), (Below.refl _ _).alloc (Nat.le_refl _) _⟩

set_option maxHeartbeats 1000000 in
theorem hoLoss_0 (l f : Int) (w : World) (hl0 : 1 ≤ l) (hl1 : l ≤ 5000) (hf0 : 0 ≤ f) (hf1 : f ≤ 3000) :
    Calls Tryd.prog 78 #[.agg #[.int .i64 0, .int .i64 l], .int .i64 f] w fun e w' => e = .returned (.int .i64 (lossOf 0 l f)) ∧ Below w.heap.size w w' := by
  obtain ⟨a1, a2⟩ := mul_bd (a := 3) (A := 3) (by omega) (by omega) hf0 hf1
  obtain ⟨b1, b2⟩ := mul_bd a1 a2 hf0 hf1
  obtain ⟨d1, d2⟩ := mul_bd b1 b2 (show 0 ≤ l by omega) hl1
  go_enter Tryd.func78, Tryd.ntmps78
  go_wp2_with fail
  refine wpAnyH_start (n := 15) (by kernel_rfl) rfl rfl ?_
  refine wpAnyH_take_all [1, 2, 5, 7, 9, 10] 9 rfl (by kernel_rfl) (by intro c a d v w h; cases d <;> exact h) (by kernel_rfl) (by simp; rfl) rfl (later_drew _) ?_
  repeat (go_big_quiet_step (fail))
  refine wpQuiet_nil ?_
  refine wpAnyH_only 0 (by kernel_rfl) (by simp; rfl) rfl rfl (later_drew _) (fun K hK => ?_)
  go_wp2_with (go_at_call 121; refine (hoFactors_any _).mono ?_; rintro e w' ⟨rfl, rfl⟩)
  refine ⟨(Below.refl _ _).alloc (Nat.le_refl _) _, ?_⟩
  have ea : IntKind.i64.wrap (3 * f) = 3 * f := IntWalk.i64_in _ (by omega)
  have eb : IntKind.i64.wrap (3 * f * f) = 3 * f * f := IntWalk.i64_in _ (by omega)
  have ed : IntKind.i64.wrap (3 * f * f * l) = 3 * f * f * l := IntWalk.i64_in _ (by omega)
  have ee : IntKind.i64.wrap (3 * f * f * l + 99999999) = 3 * f * f * l + 99999999 := IntWalk.i64_in _ (by omega)
  refine wpAnyH_take_all [3, 4, 6, 8, 11, 12, 13, 14] 0 rfl (by kernel_rfl) (by intro c a d v w h; cases d <;> exact h) (by kernel_rfl) (by simp; rfl) rfl (later_refl _) ?_
  repeat (go_big_quiet_step (fail))
  refine wpQuiet_nil ?_
  refine wpAnyH_done (by kernel_rfl) ?_ _
  clear ea eb ed ee
  go_wp2
  go_ret
  refine ⟨ret_int ?_, ?_⟩
  · simp [lossOf, fac]
  · exact ((Below.refl _ _).alloc (Nat.le_refl _) _).drew.alloc (by simp) _
theorem ix1 (w : World) : (Instr.index 137 (.agg #[.int .i64 3, .int .i64 20, .int .i64 160, .int .i64 5000]) (.int .i64 1)).run Tryd.prog w = .ok (.int .i64 20) w := by kernel_rfl

set_option maxHeartbeats 1000000 in
theorem hoseLoss_1 (l f : Int) (w : World) (hl0 : 1 ≤ l) (hl1 : l ≤ 5000) (hf0 : 0 ≤ f) (hf1 : f ≤ 3000) :
    Calls Tryd.prog 76 #[.agg #[.int .i64 1, .int .i64 l], .int .i64 f] w fun e w' => e = .returned (.int .i64 (lossOf 1 l f)) ∧ Below w.heap.size w w' := by
  have hix := ix1
  obtain ⟨a1, a2⟩ := mul_bd (a := 20) (A := 20) (by omega) (by omega) hf0 hf1
  obtain ⟨b1, b2⟩ := mul_bd a1 a2 hf0 hf1
  obtain ⟨d1, d2⟩ := mul_bd b1 b2 (show 0 ≤ l by omega) hl1
  go_enter Tryd.func76, Tryd.ntmps76
  go_wp2_with (go_at_call 120; refine (upTo_any _ _ _ (by omega) (by omega) (by omega) (by omega)).mono ?_; rintro e w' ⟨rfl, rfl⟩)
  go_ret
  exact ⟨ret_int (by simp only [lossOf, fac]; simp; omega), (Below.refl _ _).alloc (Nat.le_refl _) _⟩

set_option maxHeartbeats 1000000 in
theorem hoLoss_1 (l f : Int) (w : World) (hl0 : 1 ≤ l) (hl1 : l ≤ 5000) (hf0 : 0 ≤ f) (hf1 : f ≤ 3000) :
    Calls Tryd.prog 78 #[.agg #[.int .i64 1, .int .i64 l], .int .i64 f] w fun e w' => e = .returned (.int .i64 (lossOf 1 l f)) ∧ Below w.heap.size w w' := by
  obtain ⟨a1, a2⟩ := mul_bd (a := 20) (A := 20) (by omega) (by omega) hf0 hf1
  obtain ⟨b1, b2⟩ := mul_bd a1 a2 hf0 hf1
  obtain ⟨d1, d2⟩ := mul_bd b1 b2 (show 0 ≤ l by omega) hl1
  go_enter Tryd.func78, Tryd.ntmps78
  go_wp2_with fail
  refine wpAnyH_start (n := 15) (by kernel_rfl) rfl rfl ?_
  refine wpAnyH_take_all [1, 2, 5, 7, 9, 10] 9 rfl (by kernel_rfl) (by intro c a d v w h; cases d <;> exact h) (by kernel_rfl) (by simp; rfl) rfl (later_drew _) ?_
  repeat (go_big_quiet_step (fail))
  refine wpQuiet_nil ?_
  refine wpAnyH_only 0 (by kernel_rfl) (by simp; rfl) rfl rfl (later_drew _) (fun K hK => ?_)
  go_wp2_with (go_at_call 121; refine (hoFactors_any _).mono ?_; rintro e w' ⟨rfl, rfl⟩)
  refine ⟨(Below.refl _ _).alloc (Nat.le_refl _) _, ?_⟩
  have ea : IntKind.i64.wrap (20 * f) = 20 * f := IntWalk.i64_in _ (by omega)
  have eb : IntKind.i64.wrap (20 * f * f) = 20 * f * f := IntWalk.i64_in _ (by omega)
  have ed : IntKind.i64.wrap (20 * f * f * l) = 20 * f * f * l := IntWalk.i64_in _ (by omega)
  have ee : IntKind.i64.wrap (20 * f * f * l + 99999999) = 20 * f * f * l + 99999999 := IntWalk.i64_in _ (by omega)
  refine wpAnyH_take_all [3, 4, 6, 8, 11, 12, 13, 14] 0 rfl (by kernel_rfl) (by intro c a d v w h; cases d <;> exact h) (by kernel_rfl) (by simp; rfl) rfl (later_refl _) ?_
  repeat (go_big_quiet_step (fail))
  refine wpQuiet_nil ?_
  refine wpAnyH_done (by kernel_rfl) ?_ _
  clear ea eb ed ee
  go_wp2
  go_ret
  refine ⟨ret_int ?_, ?_⟩
  · simp [lossOf, fac]
  · exact ((Below.refl _ _).alloc (Nat.le_refl _) _).drew.alloc (by simp) _
theorem ix2 (w : World) : (Instr.index 137 (.agg #[.int .i64 3, .int .i64 20, .int .i64 160, .int .i64 5000]) (.int .i64 2)).run Tryd.prog w = .ok (.int .i64 160) w := by kernel_rfl

set_option maxHeartbeats 1000000 in
theorem hoseLoss_2 (l f : Int) (w : World) (hl0 : 1 ≤ l) (hl1 : l ≤ 5000) (hf0 : 0 ≤ f) (hf1 : f ≤ 3000) :
    Calls Tryd.prog 76 #[.agg #[.int .i64 2, .int .i64 l], .int .i64 f] w fun e w' => e = .returned (.int .i64 (lossOf 2 l f)) ∧ Below w.heap.size w w' := by
  have hix := ix2
  obtain ⟨a1, a2⟩ := mul_bd (a := 160) (A := 160) (by omega) (by omega) hf0 hf1
  obtain ⟨b1, b2⟩ := mul_bd a1 a2 hf0 hf1
  obtain ⟨d1, d2⟩ := mul_bd b1 b2 (show 0 ≤ l by omega) hl1
  go_enter Tryd.func76, Tryd.ntmps76
  go_wp2_with (go_at_call 120; refine (upTo_any _ _ _ (by omega) (by omega) (by omega) (by omega)).mono ?_; rintro e w' ⟨rfl, rfl⟩)
  go_ret
  exact ⟨ret_int (by simp only [lossOf, fac]; simp; omega), (Below.refl _ _).alloc (Nat.le_refl _) _⟩

set_option maxHeartbeats 1000000 in
theorem hoLoss_2 (l f : Int) (w : World) (hl0 : 1 ≤ l) (hl1 : l ≤ 5000) (hf0 : 0 ≤ f) (hf1 : f ≤ 3000) :
    Calls Tryd.prog 78 #[.agg #[.int .i64 2, .int .i64 l], .int .i64 f] w fun e w' => e = .returned (.int .i64 (lossOf 2 l f)) ∧ Below w.heap.size w w' := by
  obtain ⟨a1, a2⟩ := mul_bd (a := 160) (A := 160) (by omega) (by omega) hf0 hf1
  obtain ⟨b1, b2⟩ := mul_bd a1 a2 hf0 hf1
  obtain ⟨d1, d2⟩ := mul_bd b1 b2 (show 0 ≤ l by omega) hl1
  go_enter Tryd.func78, Tryd.ntmps78
  go_wp2_with fail
  refine wpAnyH_start (n := 15) (by kernel_rfl) rfl rfl ?_
  refine wpAnyH_take_all [1, 2, 5, 7, 9, 10] 9 rfl (by kernel_rfl) (by intro c a d v w h; cases d <;> exact h) (by kernel_rfl) (by simp; rfl) rfl (later_drew _) ?_
  repeat (go_big_quiet_step (fail))
  refine wpQuiet_nil ?_
  refine wpAnyH_only 0 (by kernel_rfl) (by simp; rfl) rfl rfl (later_drew _) (fun K hK => ?_)
  go_wp2_with (go_at_call 121; refine (hoFactors_any _).mono ?_; rintro e w' ⟨rfl, rfl⟩)
  refine ⟨(Below.refl _ _).alloc (Nat.le_refl _) _, ?_⟩
  have ea : IntKind.i64.wrap (160 * f) = 160 * f := IntWalk.i64_in _ (by omega)
  have eb : IntKind.i64.wrap (160 * f * f) = 160 * f * f := IntWalk.i64_in _ (by omega)
  have ed : IntKind.i64.wrap (160 * f * f * l) = 160 * f * f * l := IntWalk.i64_in _ (by omega)
  have ee : IntKind.i64.wrap (160 * f * f * l + 99999999) = 160 * f * f * l + 99999999 := IntWalk.i64_in _ (by omega)
  refine wpAnyH_take_all [3, 4, 6, 8, 11, 12, 13, 14] 0 rfl (by kernel_rfl) (by intro c a d v w h; cases d <;> exact h) (by kernel_rfl) (by simp; rfl) rfl (later_refl _) ?_
  repeat (go_big_quiet_step (fail))
  refine wpQuiet_nil ?_
  refine wpAnyH_done (by kernel_rfl) ?_ _
  clear ea eb ed ee
  go_wp2
  go_ret
  refine ⟨ret_int ?_, ?_⟩
  · simp [lossOf, fac]
  · exact ((Below.refl _ _).alloc (Nat.le_refl _) _).drew.alloc (by simp) _
theorem ix3 (w : World) : (Instr.index 137 (.agg #[.int .i64 3, .int .i64 20, .int .i64 160, .int .i64 5000]) (.int .i64 3)).run Tryd.prog w = .ok (.int .i64 5000) w := by kernel_rfl

set_option maxHeartbeats 1000000 in
theorem hoseLoss_3 (l f : Int) (w : World) (hl0 : 1 ≤ l) (hl1 : l ≤ 5000) (hf0 : 0 ≤ f) (hf1 : f ≤ 3000) :
    Calls Tryd.prog 76 #[.agg #[.int .i64 3, .int .i64 l], .int .i64 f] w fun e w' => e = .returned (.int .i64 (lossOf 3 l f)) ∧ Below w.heap.size w w' := by
  have hix := ix3
  obtain ⟨a1, a2⟩ := mul_bd (a := 5000) (A := 5000) (by omega) (by omega) hf0 hf1
  obtain ⟨b1, b2⟩ := mul_bd a1 a2 hf0 hf1
  obtain ⟨d1, d2⟩ := mul_bd b1 b2 (show 0 ≤ l by omega) hl1
  go_enter Tryd.func76, Tryd.ntmps76
  go_wp2_with (go_at_call 120; refine (upTo_any _ _ _ (by omega) (by omega) (by omega) (by omega)).mono ?_; rintro e w' ⟨rfl, rfl⟩)
  go_ret
  exact ⟨ret_int (by simp only [lossOf, fac]; simp; omega), (Below.refl _ _).alloc (Nat.le_refl _) _⟩

set_option maxHeartbeats 1000000 in
theorem hoLoss_3 (l f : Int) (w : World) (hl0 : 1 ≤ l) (hl1 : l ≤ 5000) (hf0 : 0 ≤ f) (hf1 : f ≤ 3000) :
    Calls Tryd.prog 78 #[.agg #[.int .i64 3, .int .i64 l], .int .i64 f] w fun e w' => e = .returned (.int .i64 (lossOf 3 l f)) ∧ Below w.heap.size w w' := by
  obtain ⟨a1, a2⟩ := mul_bd (a := 5000) (A := 5000) (by omega) (by omega) hf0 hf1
  obtain ⟨b1, b2⟩ := mul_bd a1 a2 hf0 hf1
  obtain ⟨d1, d2⟩ := mul_bd b1 b2 (show 0 ≤ l by omega) hl1
  go_enter Tryd.func78, Tryd.ntmps78
  go_wp2_with fail
  refine wpAnyH_start (n := 15) (by kernel_rfl) rfl rfl ?_
  refine wpAnyH_take_all [1, 2, 5, 7, 9, 10] 9 rfl (by kernel_rfl) (by intro c a d v w h; cases d <;> exact h) (by kernel_rfl) (by simp; rfl) rfl (later_drew _) ?_
  repeat (go_big_quiet_step (fail))
  refine wpQuiet_nil ?_
  refine wpAnyH_only 0 (by kernel_rfl) (by simp; rfl) rfl rfl (later_drew _) (fun K hK => ?_)
  go_wp2_with (go_at_call 121; refine (hoFactors_any _).mono ?_; rintro e w' ⟨rfl, rfl⟩)
  refine ⟨(Below.refl _ _).alloc (Nat.le_refl _) _, ?_⟩
  have ea : IntKind.i64.wrap (5000 * f) = 5000 * f := IntWalk.i64_in _ (by omega)
  have eb : IntKind.i64.wrap (5000 * f * f) = 5000 * f * f := IntWalk.i64_in _ (by omega)
  have ed : IntKind.i64.wrap (5000 * f * f * l) = 5000 * f * f * l := IntWalk.i64_in _ (by omega)
  have ee : IntKind.i64.wrap (5000 * f * f * l + 99999999) = 5000 * f * f * l + 99999999 := IntWalk.i64_in _ (by omega)
  refine wpAnyH_take_all [3, 4, 6, 8, 11, 12, 13, 14] 0 rfl (by kernel_rfl) (by intro c a d v w h; cases d <;> exact h) (by kernel_rfl) (by simp; rfl) rfl (later_refl _) ?_
  repeat (go_big_quiet_step (fail))
  refine wpQuiet_nil ?_
  refine wpAnyH_done (by kernel_rfl) ?_ _
  clear ea eb ed ee
  go_wp2
  go_ret
  refine ⟨ret_int ?_, ?_⟩
  · simp [lossOf, fac]
  · exact ((Below.refl _ _).alloc (Nat.le_refl _) _).drew.alloc (by simp) _

theorem hoseLoss_any (k l f : Int) (w : World) (hk : hoseB k l = true) (hf : inB f 0 3000 = true) :
    Calls Tryd.prog 76 #[.agg #[.int .i64 k, .int .i64 l], .int .i64 f] w fun e w' => e = .returned (.int .i64 (lossOf k l f)) ∧ Below w.heap.size w w' := by
  simp only [hoseB, Bool.and_eq_true, inB_iff] at hk hf
  have hc : k = 0 ∨ k = 1 ∨ k = 2 ∨ k = 3 := by omega
  rcases hc with rfl | rfl | rfl | rfl
  · exact hoseLoss_0 l f w hk.2.1 hk.2.2 hf.1 hf.2
  · exact hoseLoss_1 l f w hk.2.1 hk.2.2 hf.1 hf.2
  · exact hoseLoss_2 l f w hk.2.1 hk.2.2 hf.1 hf.2
  · exact hoseLoss_3 l f w hk.2.1 hk.2.2 hf.1 hf.2

theorem hoLoss_any (k l f : Int) (w : World) (hk : hoseB k l = true) (hf : inB f 0 3000 = true) :
    Calls Tryd.prog 78 #[.agg #[.int .i64 k, .int .i64 l], .int .i64 f] w fun e w' => e = .returned (.int .i64 (lossOf k l f)) ∧ Below w.heap.size w w' := by
  simp only [hoseB, Bool.and_eq_true, inB_iff] at hk hf
  have hc : k = 0 ∨ k = 1 ∨ k = 2 ∨ k = 3 := by omega
  rcases hc with rfl | rfl | rfl | rfl
  · exact hoLoss_0 l f w hk.2.1 hk.2.2 hf.1 hf.2
  · exact hoLoss_1 l f w hk.2.1 hk.2.2 hf.1 hf.2
  · exact hoLoss_2 l f w hk.2.1 hk.2.2 hf.1 hf.2
  · exact hoLoss_3 l f w hk.2.1 hk.2.2 hf.1 hf.2
end Go.Proofs.YtmoelgbbgepckaaDoor

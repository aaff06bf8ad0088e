/- compareStreets. -/
import Derived.Test.YtbhnaakknfienaaGreatDoorTownB
namespace Go.Proofs.YtbhnaakknfienaaGreatDoor
open Go.RowKit
set_option linter.unusedVariables false

theorem two_at (W : World) (n : Nat) (t : TypeId) (a b : Value) (hn : n = W.heap.size) : (W.alloc (.cells #[a, b] t)).drew.cell? ⟨n, 0, none⟩ = some a ∧ (W.alloc (.cells #[a, b] t)).drew.cell? ⟨n, 1, none⟩ = some b := by
  subst hn
  exact ⟨(Row.new W #[a, b] t).2.1 0 _ rfl, (Row.new W #[a, b] t).2.1 1 _ rfl⟩

set_option maxHeartbeats 4000000 in
theorem compareStreets_any (x0 x1 x2 y0 y1 y2 : Int) (w : World) :
    Calls Tryz.prog 47 #[.agg #[.int .i64 x0, .int .i64 x1, .int .i64 x2], .agg #[.int .i64 y0, .int .i64 y1, .int .i64 y2]] w fun e w' => e = .returned (.int .i64 (cmpS (x0, x1, x2) (y0, y1, y2))) ∧ Below w.heap.size w w' := by
  go_enter Tryz.func47, Tryz.ntmps47
  go_wp2_with fail
  refine wpAnyH_start (n := 13) (by kernel_rfl) rfl rfl ?_
  refine wpAnyH_take_all [0, 1, 2, 3, 5, 6, 7, 8] 5 rfl (by kernel_rfl) (by intro c a d v w h; cases d <;> exact h) (by kernel_rfl) (by simp; rfl) rfl (later_drew _) ?_
  repeat (go_big_quiet_step (fail))
  refine wpQuiet_nil ?_
  refine wpAnyH_only 4 (by kernel_rfl) (by simp; rfl) rfl rfl (later_drew _) (fun K hK => ?_)
  go_wp2_with (go_at_call 80; refine (cmpInt_any _ _ _).mono ?_; rintro e w' ⟨rfl, rfl⟩)
  refine ⟨Below.refl _ _, ?_⟩
  refine wpAnyH_only 9 (by kernel_rfl) (by simp; rfl) rfl rfl (later_refl _) (fun K hK => ?_)
  go_wp2_with (go_at_call 80; refine (cmpInt_any _ _ _).mono ?_; rintro e w' ⟨rfl, rfl⟩)
  refine ⟨Below.refl _ _, ?_⟩
  refine wpAnyH_only 10 (by kernel_rfl) (by simp; rfl) rfl rfl (later_refl _) (fun K hK => ?_)
  go_wp2_with fail
  refine ⟨(Below.refl _ _).alloc (Nat.le_refl _) _, ?_⟩
  refine wpAnyH_only 11 (by kernel_rfl) (by simp; rfl) rfl rfl (later_refl _) (fun K hK => ?_)
  go_wp2_with fail
  refine (orInt_any _ (cmpI x0 y0) (cmpI x1 y1) _ ?_ ?_ ?_).mono ?_
  · simp
  · exact (two_at _ _ _ _ _ (by simp)).1
  · exact (two_at _ _ _ _ _ (by simp)).2
  rintro e w' ⟨rfl, rfl⟩
  go_wp2_with fail
  refine ⟨Below.refl _ _, ?_⟩
  refine wpAnyH_only 12 (by kernel_rfl) (by simp; rfl) rfl rfl (later_refl _) (fun K hK => ?_)
  go_wp2_with fail
  refine ⟨Below.refl _ _, ?_⟩
  refine wpAnyH_done (by kernel_rfl) ?_ _
  go_wp2
  go_ret
  exact ⟨rfl, (by repeat (first | exact Below.refl _ _ | refine below_step ?_ (by assumption) | refine below_step ?_ (Later.below _) | refine below_alloc ?_ _ | refine Below.drew ?_ | refine Below.setCell ?_ (by first | (simp; done) | (simp; omega)) _))⟩
end Go.Proofs.YtbhnaakknfienaaGreatDoor

/- Streets: whether they fit a town, and their order. -/
import Derived.Test.YtbhnaakknfienaaGreatDoorTownM
import Derived.Test.YtbhnaakknfienaaGreatDoorConvStreet
namespace Go.Proofs.YtbhnaakknfienaaGreatDoor
open Go.RowKit
set_option linter.unusedVariables false

def nodeB (nd i : Int) : Bool := inB i 0 (nd - 1)
def fitB (nd : Int) (s : Int × Int × Int) : Bool := nodeB nd s.1 && nodeB nd s.2.1 && decide (s.1 < s.2.1) && inB s.2.2 1 3600
def strB (nd : Int) (s : Int × Int × Int) : Bool := nodeB nd s.1 && nodeB nd s.2.1 && !decide (s.1 = s.2.1) && inB s.2.2 1 3600
def befB (a b : Int × Int × Int) : Bool := decide (a.1 < b.1) || (decide (a.1 = b.1) && decide (a.2.1 < b.2.1))
theorem fit_str (nd : Int) (s : Int × Int × Int) : fitB nd s = (strB nd s && !decide (s.2.1 < s.1)) := by
  obtain ⟨a, b, c⟩ := s
  simp only [fitB, strB]
  by_cases h : a < b
  · have h1 : ¬ a = b := by omega
    have h2 : ¬ b < a := by omega
    simp [h, h1, h2]
  · by_cases h1 : a = b
    · simp [h1]
    · have h2 : b < a := by omega
      simp [h, h1, h2]

set_option maxHeartbeats 1000000 in
theorem has_any (b : Nat) (nd i : Int) (w : World) (h0 : 1 ≤ nd) (h1 : nd ≤ 14) (hb : b < w.heap.size) (hc : w.cell? ⟨b, 0, none⟩ = some (.int .i64 nd)) :
    Calls Tryz.prog 36 #[.pointer (some ⟨b, 0, none⟩), .int .i64 i] w fun e w' => e = .returned (.bool (nodeB nd i)) ∧ w = w' := by
  go_enter Tryz.func36, Tryz.ntmps36
  go_wp2_with (go_at_call 55; ((with_reducible refine (inside_any _ _ _ _).mono ?_); rintro e w' ⟨rfl, rfl⟩))
  go_ret
  exact ⟨rfl, rfl⟩

set_option maxHeartbeats 1000000 in
theorem fits_any (b : Nat) (nd x0 x1 x2 : Int) (w : World) (h0 : 1 ≤ nd) (h1 : nd ≤ 14) (hb : b < w.heap.size) (hc : w.cell? ⟨b, 0, none⟩ = some (.int .i64 nd)) :
    Calls Tryz.prog 45 #[.pointer (some ⟨b, 0, none⟩), .agg #[.int .i64 x0, .int .i64 x1, .int .i64 x2]] w fun e w' => e = .returned (.bool (fitB nd (x0, x1, x2))) ∧ Below w.heap.size w w' := by
  have q := fun i => has_any b nd i (w.alloc (.cells #[.int .i64 x0, .int .i64 x1, .int .i64 x2] 39)) h0 h1 (by simp; omega) (((Below.refl w.heap.size w).alloc (Nat.le_refl _) _).cell (p := ⟨b, 0, none⟩) hb |>.trans hc)
  have Q := hide q
  clear q hb hc
  go_enter Tryz.func45, Tryz.ntmps45
  go_wp2_with (first | (go_at_call 36; ((with_reducible refine (Q.out _).mono ?_); rintro e w' ⟨rfl, rfl⟩)) | (go_at_call 55; ((with_reducible refine (inside_any _ _ _ _).mono ?_); rintro e w' ⟨rfl, rfl⟩)))
  all_goals
    go_ret
    exact ⟨ret_bool (by simp_all [fitB] <;> omega), (by repeat (first | exact Below.refl _ _ | refine below_step ?_ (by assumption) | refine below_step ?_ (Later.below _) | refine below_alloc ?_ _ | refine Below.drew ?_ | refine Below.setCell ?_ (by first | (simp; done) | (simp; omega)) _))⟩

set_option maxHeartbeats 1000000 in
theorem toStreetB_any (nd x0 x1 x2 : Int) (w : World) (h0 : 1 ≤ nd) (h1 : nd ≤ 14) :
    Calls Tryz.prog 51 #[.agg #[.int .i64 x0, .int .i64 x1, .int .i64 x2], .int .i64 nd] w fun e w' => e = .returned (.bool (strB nd (x0, x1, x2))) ∧ Below w.heap.size w w' := by
  go_enter Tryz.func51, Tryz.ntmps51
  go_wp2_with (go_at_call 59; ((with_reducible refine (l1In_any _ _ _ _).mono ?_); rintro e w' ⟨rfl, rfl⟩))
  all_goals
    go_ret
    exact ⟨ret_bool (by simp_all [strB, nodeB]), (by repeat (first | exact Below.refl _ _ | refine below_step ?_ (by assumption) | refine below_step ?_ (Later.below _) | refine below_alloc ?_ _ | refine Below.drew ?_ | refine Below.setCell ?_ (by first | (simp; done) | (simp; omega)) _))⟩

set_option maxHeartbeats 1000000 in
theorem toBefore_any (x0 x1 x2 y0 y1 y2 : Int) (w : World) :
    Calls Tryz.prog 54 #[.agg #[.int .i64 x0, .int .i64 x1, .int .i64 x2], .agg #[.int .i64 y0, .int .i64 y1, .int .i64 y2]] w fun e w' => e = .returned (.bool (befB (x0, x1, x2) (y0, y1, y2))) ∧ Below w.heap.size w w' := by
  go_enter Tryz.func54, Tryz.ntmps54
  go_wp2
  all_goals
    go_ret
    exact ⟨ret_bool (by simp_all [befB] <;> omega), (by repeat (first | exact Below.refl _ _ | refine below_step ?_ (by assumption) | refine below_step ?_ (Later.below _) | refine below_alloc ?_ _ | refine Below.drew ?_ | refine Below.setCell ?_ (by first | (simp; done) | (simp; omega)) _))⟩
end Go.Proofs.YtbhnaakknfienaaGreatDoor

/- The order of streets: compareStreets. -/
import Derived.Test.YtbhnaakknfienaaGreatDoorTownA
namespace Go.Proofs.YtbhnaakknfienaaGreatDoor
open Go.RowKit
set_option linter.unusedVariables false

def cmpI (a b : Int) : Int := if a < b then -1 else if b < a then 1 else 0
def orI (x y : Int) : Int := if x = 0 then y else x
def cmpS (a b : Int × Int × Int) : Int := orI (cmpI a.1 b.1) (cmpI a.2.1 b.2.1)
theorem cmpS_bef (a b : Int × Int × Int) : decide (0 ≤ cmpS a b) = !befB a b := by
  obtain ⟨a0, a1, a2⟩ := a
  obtain ⟨b0, b1, b2⟩ := b
  simp only [cmpS, befB, orI, cmpI]
  by_cases h : a0 < b0
  · simp [h]
  · by_cases h2 : b0 < a0
    · have h3 : ¬ a0 = b0 := by omega
      simp [h, h2, h3]
    · have h3 : a0 = b0 := by omega
      subst h3
      by_cases h4 : a1 < b1
      · simp [h4]
      · by_cases h5 : b1 < a1 <;> simp [h4, h5]

set_option maxHeartbeats 1000000 in
theorem isNaN_any (a : Int) (w : World) :
    Calls Tryz.prog 90 #[.int .i64 a] w fun e w' => e = .returned (.bool false) ∧ w = w' := by
  go_enter Tryz.func90, Tryz.ntmps90
  go_wp2
  go_ret
  exact ⟨by simp, rfl⟩

set_option maxHeartbeats 1000000 in
theorem cmpInt_any (a b : Int) (w : World) :
    Calls Tryz.prog 80 #[.int .i64 a, .int .i64 b] w fun e w' => e = .returned (.int .i64 (cmpI a b)) ∧ w = w' := by
  go_enter Tryz.func80, Tryz.ntmps80
  go_wp2_with (go_at_call 90; ((with_reducible refine (isNaN_any _ _).mono ?_); rintro e w' ⟨rfl, rfl⟩))
  all_goals
    go_ret
    exact ⟨ret_int (by simp [cmpI, *] <;> omega), rfl⟩

set_option maxHeartbeats 1000000 in
theorem orInt_any (b : Nat) (x y : Int) (w : World) (hb : b < w.heap.size) (h0 : w.cell? ⟨b, 0, none⟩ = some (.int .i64 x)) (h1 : w.cell? ⟨b, 1, none⟩ = some (.int .i64 y)) :
    Calls Tryz.prog 79 #[.slice (some ⟨b, 0, none⟩) 2 2] w fun e w' => e = .returned (.int .i64 (orI x y)) ∧ w = w' := by
  go_enter Tryz.func79, Tryz.ntmps79
  go_wp2_with fail
  go_loop [8] (fun t => ∃ k : Nat, k ≤ 2 ∧ t = .int .i64 k ∧ Hid ((1 ≤ k → x = 0) ∧ (2 ≤ k → y = 0))) (fun t => 2 - (intOf t).toNat)
  case atStart => exact ⟨0, by omega, rfl, hide ⟨fun h => by omega, fun h => by omega⟩⟩
  case round =>
    obtain ⟨k, hk, rfl, HX⟩ := hrel
    match k, hk, HX with
    | 0, hk, HX =>
      by_cases hx : x = 0
      · have Hx := hide hx
        have hx' : (x == 0) = true := by simpa using hx
        clear hx
        go_wp2
        go_round
        case rel => exact ⟨1, by omega, by go_num, hide ⟨fun _ => Hx.out, fun h => by omega⟩⟩
        case measure => simp [intOf]
      · have Hx := hide hx
        have hx' : (x == 0) = false := by simpa using hx
        clear hx
        go_wp2
        go_ret
        exact ⟨ret_int (by rw [orI, if_neg Hx.out]), rfl⟩
    | 1, hk, HX =>
      by_cases hx : y = 0
      · have Hx := hide hx
        have hx' : (y == 0) = true := by simpa using hx
        clear hx
        go_wp2
        go_round
        case rel => exact ⟨2, by omega, by go_num, hide ⟨fun _ => HX.out.1 (by omega), fun _ => Hx.out⟩⟩
        case measure => simp [intOf]
      · have Hx := hide hx
        have hx' : (y == 0) = false := by simpa using hx
        clear hx
        go_wp2
        go_ret
        exact ⟨ret_int (by rw [orI, if_pos (HX.out.1 (by omega))]), rfl⟩
    | 2, hk, HX =>
      go_wp2
      go_ret
      exact ⟨ret_int (by rw [orI, if_pos (HX.out.1 (by omega)), HX.out.2 (by omega)]), rfl⟩
end Go.Proofs.YtbhnaakknfienaaGreatDoor

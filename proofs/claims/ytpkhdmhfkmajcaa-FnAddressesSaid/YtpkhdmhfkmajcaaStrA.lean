/- Roads and stretches: whether they are valid. -/
import Derived.Test.YtpkhdmhfkmajcaaSmall
namespace Go.Proofs.Ytpkhdmhfkmajcaa
open Go.RowKit
set_option linter.unusedVariables false

def lowB (c : UInt8) : Bool := decide (97 ≤ (c.toNat : Int)) && decide ((c.toNat : Int) ≤ 122)
def roadB (s : ByteArray) : Bool := s.data.toList.all lowB && inB s.size 1 10

theorem road_all {s : ByteArray} (h : ∀ i (hi : i < s.size), lowB s[i] = true) : s.data.toList.all lowB = true := by
  rw [List.all_eq_true]
  intro c hc
  obtain ⟨i, hi, rfl⟩ := List.mem_iff_getElem.1 hc
  exact h i (by simpa using hi)
theorem road_bad {s : ByteArray} {i : Nat} (hi : i < s.size) (h : lowB s[i] = false) : s.data.toList.all lowB = false := by
  rw [List.all_eq_false]
  exact ⟨s[i], List.mem_iff_getElem.2 ⟨i, by simpa using hi, rfl⟩, by rw [h]; decide⟩

set_option maxHeartbeats 1000000 in
theorem isRoad_any (s : ByteArray) (w : World) (hs : s.size ≤ maxLen) :
    Calls Try.prog 37 #[.string s] w fun e w' => e = .returned (.bool (roadB s)) ∧ w = w' := by
  unfold maxLen at hs
  go_enter Try.func37, Try.ntmps37
  go_wp2
  go_loop [6] (fun i => ∃ k : Nat, k ≤ s.size ∧ i = .int .i64 k ∧ Hid (∀ j (hj : j < s.size), j < k → lowB s[j] = true)) (fun i => s.size - (intOf i).toNat)
  case atStart => exact ⟨0, Nat.zero_le _, rfl, hide (fun j hj h => absurd h (by omega))⟩
  case round =>
    obtain ⟨k, hk, rfl, HA⟩ := hrel
    by_cases hlt : k < s.size
    · have HB : Hid (lowB s[k] = false → s.data.toList.all lowB = false) := hide (road_bad hlt)
      by_cases h1 : (s[k].toNat : Int) < 97
      · go_wp2
        go_ret
        exact ⟨ret_bool (by rw [roadB, HB.out (by simp [lowB]; omega)]; rfl), rfl⟩
      · by_cases h2 : (122 : Int) < (s[k].toNat : Int)
        · go_wp2
          go_ret
          exact ⟨ret_bool (by rw [roadB, HB.out (by simp [lowB]; omega)]; rfl), rfl⟩
        · have HC : Hid (lowB s[k] = true) := hide (by simp [lowB]; omega)
          go_wp2
          go_round
          case rel =>
            refine ⟨k + 1, by omega, by go_num, hide (fun j hj h => ?_)⟩
            by_cases hjk : j < k
            · exact HA.out j hj hjk
            · have : j = k := by omega
              subst this
              exact HC.out
          case measure => simp [intOf]; omega
    · have HD : Hid (s.data.toList.all lowB = true) := hide (road_all (fun j hj => HA.out j hj (by omega)))
      go_wp2_with (go_at_call 38; ((with_reducible refine (inside_any _ _ _ _).mono ?_); rintro e w' ⟨rfl, rfl⟩))
      go_ret
      exact ⟨ret_bool (by rw [roadB, HD.out, Bool.true_and]), rfl⟩
set_option maxHeartbeats 1000000 in
theorem adName_any (s : ByteArray) (w : World) (hs : s.size ≤ maxLen) :
    Calls Try.prog 43 #[.string s] w fun e w' => e = .returned (.bool (roadB s)) ∧ w = w' := by
  unfold maxLen at hs
  go_enter Try.func43, Try.ntmps43
  go_wp2
  go_loop [3] (fun i => ∃ k : Nat, k ≤ s.size ∧ i = .int .i64 k ∧ Hid (∀ j (hj : j < s.size), j < k → lowB s[j] = true)) (fun i => s.size - (intOf i).toNat)
  case atStart => exact ⟨0, Nat.zero_le _, rfl, hide (fun j hj h => absurd h (by omega))⟩
  case round =>
    obtain ⟨k, hk, rfl, HA⟩ := hrel
    by_cases hlt : k < s.size
    · have HB : Hid (lowB s[k] = false → s.data.toList.all lowB = false) := hide (road_bad hlt)
      by_cases h1 : (s[k].toNat : Int) < 97
      · go_wp2
        go_ret
        exact ⟨ret_bool (by rw [roadB, HB.out (by simp [lowB]; omega)]; rfl), rfl⟩
      · by_cases h2 : (122 : Int) < (s[k].toNat : Int)
        · go_wp2
          go_ret
          exact ⟨ret_bool (by rw [roadB, HB.out (by simp [lowB]; omega)]; rfl), rfl⟩
        · have HC : Hid (lowB s[k] = true) := hide (by simp [lowB]; omega)
          go_wp2
          go_round
          case rel =>
            refine ⟨k + 1, by omega, by go_num, hide (fun j hj h => ?_)⟩
            by_cases hjk : j < k
            · exact HA.out j hj hjk
            · have : j = k := by omega
              subst this
              exact HC.out
          case measure => simp [intOf]; omega
    · have HD : Hid (s.data.toList.all lowB = true) := hide (road_all (fun j hj => HA.out j hj (by omega)))
      go_wp2_with (go_at_call 45; ((with_reducible refine (l1In_any _ _ _ _).mono ?_); rintro e w' ⟨rfl, rfl⟩))
      go_ret
      exact ⟨ret_bool (by rw [roadB, HD.out, Bool.true_and]), rfl⟩

def strB (s : ByteArray) (lo hi node risk : Int) : Bool := roadB s && decide (1 ≤ lo) && decide (lo ≤ hi) && decide (hi ≤ 999) && inB node 0 13 && inB risk 1 5

set_option maxHeartbeats 400000 in
theorem adHouse_any (n : Int) (w : World) :
    Calls Try.prog 57 #[.int .i64 n] w fun e w' => e = .returned (.bool (inB n 1 999)) ∧ w = w' := by
  go_enter Try.func57, Try.ntmps57
  go_wp2_with (go_at_call 45; ((with_reducible refine (l1In_any _ _ _ _).mono ?_); rintro e w' ⟨rfl, rfl⟩))
  go_ret
  exact ⟨rfl, rfl⟩

set_option maxHeartbeats 1000000 in
theorem isStretch_any (s : ByteArray) (lo hi node risk : Int) (w : World) (hs : s.size ≤ maxLen) :
    Calls Try.prog 28 #[.agg #[.string s, .int .i64 lo, .int .i64 hi, .int .i64 node, .int .i64 risk]] w fun e w' => e = .returned (.bool (strB s lo hi node risk)) ∧ Below w.heap.size w w' := by
  go_enter Try.func28, Try.ntmps28
  go_wp2_with (first | (go_at_call 37; ((with_reducible refine (isRoad_any _ _ hs).mono ?_); rintro e w' ⟨rfl, rfl⟩)) | (go_at_call 38; ((with_reducible refine (inside_any _ _ _ _).mono ?_); rintro e w' ⟨rfl, rfl⟩)))
  all_goals
    ((try simp only [Bool.not_eq_true'] at *); (try simp only [Bool.not_eq_false'] at *))
    go_ret
    exact ⟨ret_bool (by simp_all [strB, inB] <;> omega), (by repeat (first | exact Below.refl _ _ | refine below_step ?_ (by assumption) | refine below_step ?_ (Later.below _) | refine below_alloc ?_ _ | refine Below.drew ?_ | refine Below.setCell ?_ (by first | (simp; done) | (simp; omega)) _))⟩

set_option maxHeartbeats 1000000 in
theorem adOne_any (s : ByteArray) (lo hi node risk : Int) (w : World) (hs : s.size ≤ maxLen) :
    Calls Try.prog 34 #[.agg #[.string s, .int .i64 lo, .int .i64 hi, .int .i64 node, .int .i64 risk]] w fun e w' => e = .returned (.bool (strB s lo hi node risk)) ∧ Below w.heap.size w w' := by
  go_enter Try.func34, Try.ntmps34
  go_wp2_with (first | (go_at_call 43; ((with_reducible refine (adName_any _ _ hs).mono ?_); rintro e w' ⟨rfl, rfl⟩)) | (go_at_call 45; ((with_reducible refine (l1In_any _ _ _ _).mono ?_); rintro e w' ⟨rfl, rfl⟩)) | (go_at_call 57; ((with_reducible refine (adHouse_any _ _).mono ?_); rintro e w' ⟨rfl, rfl⟩)))
  all_goals
    ((try simp only [Bool.not_eq_true'] at *); (try simp only [Bool.not_eq_false'] at *))
    go_ret
    exact ⟨ret_bool (by simp_all [strB, inB] <;> omega), (by repeat (first | exact Below.refl _ _ | refine below_step ?_ (by assumption) | refine below_step ?_ (Later.below _) | refine below_alloc ?_ _ | refine Below.drew ?_ | refine Below.setCell ?_ (by first | (simp; done) | (simp; omega)) _))⟩

set_option maxHeartbeats 400000 in
theorem implIsStretch_any (s : ByteArray) (lo hi node risk : Int) (w : World) (hs : s.size ≤ maxLen) :
    Calls Try.prog 22 #[.agg #[.string s, .int .i64 lo, .int .i64 hi, .int .i64 node, .int .i64 risk]] w fun e w' => e = .returned (.bool (strB s lo hi node risk)) ∧ Below w.heap.size w w' := by
  go_enter Try.func22, Try.ntmps22
  go_wp2_with (go_at_call 28; ((with_reducible refine (isStretch_any _ _ _ _ _ _ hs).mono ?_); rintro e w1 ⟨rfl, hb1⟩); obtain ⟨hc1, hf1⟩ := bcell hb1)
  go_ret
  exact ⟨rfl, (by repeat (first | exact Below.refl _ _ | refine below_step ?_ (by assumption) | refine below_step ?_ (Later.below _) | refine below_alloc ?_ _ | refine Below.drew ?_ | refine Below.setCell ?_ (by first | (simp; done) | (simp; omega)) _))⟩
set_option maxHeartbeats 400000 in
theorem specIsStretch_any (s : ByteArray) (lo hi node risk : Int) (w : World) (hs : s.size ≤ maxLen) :
    Calls Try.prog 23 #[.agg #[.string s, .int .i64 lo, .int .i64 hi, .int .i64 node, .int .i64 risk]] w fun e w' => e = .returned (.bool (strB s lo hi node risk)) ∧ Below w.heap.size w w' := by
  go_enter Try.func23, Try.ntmps23
  go_wp2_with (go_at_call 34; ((with_reducible refine (adOne_any _ _ _ _ _ _ hs).mono ?_); rintro e w1 ⟨rfl, hb1⟩); obtain ⟨hc1, hf1⟩ := bcell hb1)
  go_ret
  exact ⟨rfl, (by repeat (first | exact Below.refl _ _ | refine below_step ?_ (by assumption) | refine below_step ?_ (Later.below _) | refine below_alloc ?_ _ | refine Below.drew ?_ | refine Below.setCell ?_ (by first | (simp; done) | (simp; omega)) _))⟩
end Go.Proofs.Ytpkhdmhfkmajcaa

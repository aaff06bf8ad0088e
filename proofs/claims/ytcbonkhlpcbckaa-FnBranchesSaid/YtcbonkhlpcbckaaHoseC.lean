/- Branches, longest hoses and pressures: what each call returns. -/
import Derived.Test.YtcbonkhlpcbckaaHoseB
namespace Go.Proofs.Ytcbonkhlpcbckaa
open Go.RowKit
set_option linter.unusedVariables false

def bfOk (n p : Int) : Bool := inB n 4 40 && inB p 0 2000
def bfR (n p : Int) : Int := if bfOk n p then bfOf n p else 0

theorem branchFlow_b (n p : Int) (w : World) (h1 : inB n 4 40 = true) (h2 : inB p 0 2000 = true) :
    Calls Try.prog 29 #[.int .i64 n, .int .i64 p] w fun e w' => e = .returned (.int .i64 (bfOf n p)) ∧ w = w' :=
  branchFlow_any n p w (inB_iff.1 h1).1 (inB_iff.1 h1).2 (inB_iff.1 h2).1 (inB_iff.1 h2).2
theorem hoBranch_b (n p : Int) (w : World) (h1 : inB n 4 40 = true) (h2 : inB p 0 2000 = true) :
    Calls Try.prog 31 #[.int .i64 n, .int .i64 p] w fun e w' => e = .returned (.int .i64 (bfOf n p)) ∧ w = w' :=
  hoBranch_any n p w (inB_iff.1 h1).1 (inB_iff.1 h1).2 (inB_iff.1 h2).1 (inB_iff.1 h2).2


set_option maxHeartbeats 400000 in
theorem implBranchFlow_any (n p : Int) (w : World) :
    Calls Try.prog 8 #[.int .i64 n, .int .i64 p] w fun e w' => e = .returned (.tuple #[.int .i64 (bfR n p), .bool (bfOk n p)]) ∧ w = w' := by
  go_enter Try.func8, Try.ntmps8
  go_wp2_with (first | (go_at_call 23; ((with_reducible refine (inside_any _ _ _ _).mono ?_); rintro e w' ⟨rfl, rfl⟩)) | (go_at_call 29; ((with_reducible refine (branchFlow_b _ _ _ (by first | assumption | exact bnf (by assumption) | exact bnt (by assumption)) (by first | assumption | exact bnf (by assumption) | exact bnt (by assumption))).mono ?_); rintro e w' ⟨rfl, rfl⟩)))
  all_goals
    ((try simp only [Bool.not_eq_true'] at *); (try simp only [Bool.not_eq_false'] at *))
    go_ret2
    exact ⟨ret_tup2 (by simp [bfR, bfOk, *]) (by simp [bfOk, *]), rfl⟩

set_option maxHeartbeats 400000 in
theorem specBranchFlow_any (n p : Int) (w : World) :
    Calls Try.prog 9 #[.int .i64 n, .int .i64 p] w fun e w' => e = .returned (.tuple #[.int .i64 (bfR n p), .bool (bfOk n p)]) ∧ w = w' := by
  go_enter Try.func9, Try.ntmps9
  go_wp2_with (first | (go_at_call 25; ((with_reducible refine (hoNozzle_any _ _).mono ?_); rintro e w' ⟨rfl, rfl⟩)) | (go_at_call 30; ((with_reducible refine (hoPressure_any _ _).mono ?_); rintro e w' ⟨rfl, rfl⟩)) | (go_at_call 31; ((with_reducible refine (hoBranch_b _ _ _ (by first | assumption | exact bnf (by assumption) | exact bnt (by assumption)) (by first | assumption | exact bnf (by assumption) | exact bnt (by assumption))).mono ?_); rintro e w' ⟨rfl, rfl⟩)))
  all_goals
    ((try simp only [Bool.not_eq_true'] at *); (try simp only [Bool.not_eq_false'] at *))
    go_ret2
    exact ⟨ret_tup2 (by simp [bfR, bfOk, *]) (by simp [bfOk, *]), rfl⟩

theorem lpOf_bd (n f : Int) : 0 ≤ lpOf n f ∧ lpOf n f ≤ 2001 := by
  unfold lpOf
  have h : ∀ (P : Nat → Bool) (N : Nat), least P N ≤ N + 1 := by
    intro P N
    induction N with
    | zero => unfold least; split <;> omega
    | succ N ih => unfold least; split <;> (try split) <;> omega
  have := h (pressP n f) 2000
  omega

set_option maxHeartbeats 1000000 in
theorem hoNeeds_any (n f : Int) (w : World) (h1 : inB n 4 40 = true) (h2 : inB f 0 3000 = true) :
    Calls Try.prog 27 #[.int .i64 n, .int .i64 f] w fun e w' => e = .returned (.tuple #[.int .i64 (lpOf n f), .bool (decide (lpOf n f ≤ 2000))]) ∧ w = w' := by
  obtain ⟨n0, n1⟩ := inB_iff.1 h1
  clear h1 h2
  go_enter Try.func27, Try.ntmps27
  go_wp2
  go_loop [6, 7] (fun t u => ∃ k m : Int, -1 ≤ k ∧ k < m ∧ m ≤ 2001 ∧ t = .int .i64 k ∧ u = .int .i64 m ∧ (k = -1 ∨ bfOf n k < f) ∧ (m = 2001 ∨ f ≤ bfOf n m)) (fun t u => (intOf u - intOf t).toNat)
  case atStart => exact ⟨-1, 2001, by omega, by omega, by omega, rfl, rfl, .inl rfl, .inl rfl⟩
  case round =>
    obtain ⟨k, m, hk, hkm, hm, rfl, rfl, hP, hR⟩ := hrel
    have HP := hide hP
    have HR := hide hR
    clear hP hR
    by_cases hlt : 1 < m - k
    · have hj0 : 0 ≤ (k + m) / 2 := by omega
      have hj1 : (k + m) / 2 ≤ 2000 := by omega
      by_cases hc : f ≤ bfOf n ((k + m) / 2)
      all_goals
        by_cases hs : 0 ≤ k + m
        · go_wp2_with (go_at_call 31; ((with_reducible refine (hoBranch_any _ _ _ (by omega) (by omega) (by omega) (by omega)).mono ?_); rintro e w' ⟨rfl, rfl⟩))
          go_round
          case rel => first | exact ⟨k, (k + m) / 2, by omega, by omega, by omega, rfl, rfl, HP.out, .inr hc⟩ | exact ⟨(k + m) / 2, m, by omega, by omega, by omega, rfl, rfl, .inr (by omega), HR.out⟩
          case measure => simp [intOf]; omega
        · omega
    · go_wp2
      go_ret2
      have hmk : m = k + 1 := by omega
      obtain ⟨j, rfl⟩ := Int.eq_ofNat_of_zero_le (show 0 ≤ m by omega)
      have e1 : lpOf n f = j := lpOf_eq (by omega) (HR.out.imp (by omega) id) (by
        rcases HP.out with h | h
        · exact .inl (by omega)
        · exact .inr (by rw [show (j : Int) - 1 = k by omega]; exact h))
      exact ⟨ret_tup2 e1.symm (by rw [e1]), rfl⟩

def lpOk (n f : Int) : Bool := decide (lpOf n f ≤ 2000)
def lpR (n f : Int) : Int := if lpOk n f then lpOf n f else 0

set_option maxHeartbeats 1000000 in
theorem branchPressure_any (n f : Int) (w : World) (h1 : inB n 4 40 = true) (h2 : inB f 0 3000 = true) :
    Calls Try.prog 24 #[.int .i64 n, .int .i64 f] w fun e w' => e = .returned (.tuple #[.int .i64 (lpR n f), .bool (lpOk n f)]) ∧ w = w' := by
  obtain ⟨n0, n1⟩ := inB_iff.1 h1
  clear h1 h2
  go_enter Try.func24, Try.ntmps24
  go_wp2
  go_loop [6, 7] (fun t u => ∃ k m : Int, 0 ≤ k ∧ k ≤ m ∧ m ≤ 2000 ∧ t = .int .i64 k ∧ u = .int .i64 m ∧ (k = 0 ∨ bfOf n (k - 1) < f) ∧ (m = 2000 ∨ f ≤ bfOf n m)) (fun t u => (intOf u - intOf t).toNat)
  case atStart => exact ⟨0, 2000, by omega, by omega, by omega, rfl, rfl, .inl rfl, .inl rfl⟩
  case round =>
    obtain ⟨k, m, hk, hkm, hm, rfl, rfl, hP, hR⟩ := hrel
    have HP := hide hP
    have HR := hide hR
    clear hP hR
    by_cases hlt : k < m
    · by_cases hc : f ≤ bfOf n ((k + m) / 2)
      all_goals
        go_wp2_with (go_at_call 29; ((with_reducible refine (branchFlow_any _ _ _ (by omega) (by omega) (by omega) (by omega)).mono ?_); rintro e w' ⟨rfl, rfl⟩))
        go_round
        case rel => first | exact ⟨k, (k + m) / 2, by omega, by omega, by omega, rfl, rfl, HP.out, .inr hc⟩ | exact ⟨(k + m) / 2 + 1, m, by omega, by omega, by omega, rfl, rfl, .inr (by rw [show (k + m) / 2 + 1 - 1 = (k + m) / 2 by omega]; omega), HR.out⟩
        case measure => simp [intOf]; omega
    · have hmk : m = k := by omega
      have hkm' : k ≤ 2000 := by omega
      clear hkm hlt
      by_cases hc : bfOf n k < f
      · go_wp2_with (go_at_call 29; ((with_reducible refine (branchFlow_any _ _ _ (by omega) (by omega) (by omega) (by omega)).mono ?_); rintro e w' ⟨rfl, rfl⟩))
        go_ret2
        have hm2 : m = 2000 := HR.out.resolve_right (by rw [hmk]; omega)
        have e1 : lpOf n f = (2001 : Nat) := lpOf_eq (by omega) (.inl rfl) (.inr (by rw [show ((2001 : Nat) : Int) - 1 = k by omega]; exact hc))
        exact ⟨ret_tup2 (by simp [lpR, lpOk, e1]) (by simp [lpOk, e1]), rfl⟩
      · go_wp2_with (go_at_call 29; ((with_reducible refine (branchFlow_any _ _ _ (by omega) (by omega) (by omega) (by omega)).mono ?_); rintro e w' ⟨rfl, rfl⟩))
        go_ret2
        obtain ⟨j, rfl⟩ := Int.eq_ofNat_of_zero_le hk
        have e1 : lpOf n f = j := lpOf_eq (by omega) (.inr (by omega)) (HP.out.imp (by omega) id)
        exact ⟨ret_tup2 (by simp [lpR, lpOk, e1]; omega) (by simp [lpOk, e1]; omega), rfl⟩

def bpOk (n f : Int) : Bool := inB n 4 40 && inB f 0 3000 && lpOk n f
def bpR (n f : Int) : Int := if bpOk n f then lpOf n f else 0

set_option maxHeartbeats 400000 in
theorem implBranchPressure_any (n f : Int) (w : World) :
    Calls Try.prog 5 #[.int .i64 n, .int .i64 f] w fun e w' => e = .returned (.tuple #[.int .i64 (bpR n f), .bool (bpOk n f)]) ∧ w = w' := by
  go_enter Try.func5, Try.ntmps5
  go_wp2_with (first | (go_at_call 23; ((with_reducible refine (inside_any _ _ _ _).mono ?_); rintro e w' ⟨rfl, rfl⟩)) | (go_at_call 24; ((with_reducible refine (branchPressure_any _ _ _ (by first | assumption | exact bnf (by assumption) | exact bnt (by assumption)) (by first | assumption | exact bnf (by assumption) | exact bnt (by assumption))).mono ?_); rintro e w' ⟨rfl, rfl⟩)))
  all_goals
    ((try simp only [Bool.not_eq_true'] at *); (try simp only [Bool.not_eq_false'] at *))
    go_ret2
    exact ⟨ret_tup2 (by simp [bpR, bpOk, lpR, *]) (by simp [bpOk, *]), rfl⟩

set_option maxHeartbeats 400000 in
theorem specBranchPressure_any (n f : Int) (w : World) :
    Calls Try.prog 6 #[.int .i64 n, .int .i64 f] w fun e w' => e = .returned (.tuple #[.int .i64 (bpR n f), .bool (bpOk n f)]) ∧ w = w' := by
  go_enter Try.func6, Try.ntmps6
  go_wp2_with (first | (go_at_call 25; ((with_reducible refine (hoNozzle_any _ _).mono ?_); rintro e w' ⟨rfl, rfl⟩)) | (go_at_call 26; ((with_reducible refine (hoFlow_any _ _).mono ?_); rintro e w' ⟨rfl, rfl⟩)) | (go_at_call 27; ((with_reducible refine (hoNeeds_any _ _ _ (by first | assumption | exact bnf (by assumption) | exact bnt (by assumption)) (by first | assumption | exact bnf (by assumption) | exact bnt (by assumption))).mono ?_); rintro e w' ⟨rfl, rfl⟩)))
  all_goals
    ((try simp only [Bool.not_eq_true'] at *); (try simp only [Bool.not_eq_false'] at *))
    go_ret2
    exact ⟨ret_tup2 (by simp [bpR, bpOk, lpOk, *]) (by simp [bpOk, lpOk, *]), rfl⟩
end Go.Proofs.Ytcbonkhlpcbckaa

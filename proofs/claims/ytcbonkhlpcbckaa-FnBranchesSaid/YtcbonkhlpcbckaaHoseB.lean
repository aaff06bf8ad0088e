/- The functions of the hose chapter over numbers: what each call returns. -/
import Derived.Test.YtcbonkhlpcbckaaHoseA
import Derived.Test.YtcbonkhlpcbckaaMem
namespace Go.Proofs.Ytcbonkhlpcbckaa
open Go.RowKit
set_option linter.unusedVariables false

set_option maxHeartbeats 400000 in
theorem hoFlow_any (n : Int) (w : World) :
    Calls Try.prog 26 #[.int .i64 n] w fun e w' => e = .returned (.bool (inB n 0 3000)) ∧ w = w' := by
  go_enter Try.func26, Try.ntmps26
  go_wp2_with (go_at_call 42; refine (l1In_any _ _ _ _).mono ?_; rintro e w' ⟨rfl, rfl⟩)
  go_ret
  exact ⟨rfl, rfl⟩

set_option maxHeartbeats 400000 in
theorem hoPressure_any (n : Int) (w : World) :
    Calls Try.prog 30 #[.int .i64 n] w fun e w' => e = .returned (.bool (inB n 0 2000)) ∧ w = w' := by
  go_enter Try.func30, Try.ntmps30
  go_wp2_with (go_at_call 42; refine (l1In_any _ _ _ _).mono ?_; rintro e w' ⟨rfl, rfl⟩)
  go_ret
  exact ⟨rfl, rfl⟩

set_option maxHeartbeats 400000 in
theorem hoNozzle_any (n : Int) (w : World) :
    Calls Try.prog 25 #[.int .i64 n] w fun e w' => e = .returned (.bool (inB n 4 40)) ∧ w = w' := by
  go_enter Try.func25, Try.ntmps25
  go_wp2_with (go_at_call 42; refine (l1In_any _ _ _ _).mono ?_; rintro e w' ⟨rfl, rfl⟩)
  go_ret
  exact ⟨rfl, rfl⟩

def lossOk (k l f : Int) : Bool := hoseB k l && inB f 0 3000
def lossV (k l f : Int) : Int := if lossOk k l f then lossOf k l f else 0

set_option maxHeartbeats 400000 in
theorem implHoseLoss_any (k l f : Int) (w : World) :
    Calls Try.prog 20 #[.agg #[.int .i64 k, .int .i64 l], .int .i64 f] w fun e w' => e = .returned (.tuple #[.int .i64 (lossV k l f), .bool (lossOk k l f)]) ∧ Below w.heap.size w w' := by
  cases hh : hoseB k l with
  | false =>
    have e1 : lossOk k l f = false := by simp [lossOk, hh]
    have e2 : lossV k l f = 0 := by simp [lossV, e1]
    rw [e1, e2]
    have c := fun w => isHose_any k l w
    rw [hh] at c
    go_enter Try.func20, Try.ntmps20
    go_wp2_with (go_at_call 46; refine (c _).mono ?_; rintro e w1 ⟨rfl, hb⟩; obtain ⟨hc1, hf1⟩ := bcell hb)
    go_ret2
    exact ⟨rfl, ((Below.refl _ _).alloc (Nat.le_refl _) _).trans (hb.mono (by simp))⟩
  | true =>
    cases hf : inB f 0 3000 with
    | false =>
      have e1 : lossOk k l f = false := by simp [lossOk, hf]
      have e2 : lossV k l f = 0 := by simp [lossV, e1]
      rw [e1, e2]
      have c := fun w => isHose_any k l w
      rw [hh] at c
      have c2 := fun w => inside_any f 0 3000 w
      rw [hf] at c2
      go_enter Try.func20, Try.ntmps20
      go_wp2_with (first | (go_at_call 46; refine (c _).mono ?_; rintro e w1 ⟨rfl, hb⟩; obtain ⟨hc1, hf1⟩ := bcell hb) | (go_at_call 23; refine (c2 _).mono ?_; rintro e w' ⟨rfl, rfl⟩))
      go_ret2
      exact ⟨rfl, ((Below.refl _ _).alloc (Nat.le_refl _) _).trans (hb.mono (by simp))⟩
    | true =>
      have e1 : lossOk k l f = true := by simp [lossOk, hh, hf]
      have e2 : lossV k l f = lossOf k l f := by simp [lossV, e1]
      rw [e1, e2]
      have c := fun w => isHose_any k l w
      rw [hh] at c
      have c2 := fun w => inside_any f 0 3000 w
      rw [hf] at c2
      have c3 := fun w => hoseLoss_any k l f w hh hf
      have Hh := hide hh
      have Hf := hide hf
      clear hh hf e1 e2
      go_enter Try.func20, Try.ntmps20
      go_wp2_with (first | (go_at_call 46; refine (c _).mono ?_; rintro e w1 ⟨rfl, hb⟩; obtain ⟨hc1, hf1⟩ := bcell hb) | (go_at_call 23; refine (c2 _).mono ?_; rintro e w' ⟨rfl, rfl⟩) | (go_at_call 41; refine (c3 _).mono ?_; rintro e w2 ⟨rfl, hb2⟩))
      go_ret2
      exact ⟨rfl, (((Below.refl _ _).alloc (Nat.le_refl _) _).trans (hb.mono (by simp))).trans (hb2.mono (by have := hb.size; simp at this; omega))⟩

def hosesOk (d l : Int) : Bool := inB d 0 100000 && inB l 1 5000
def hosesR (d l : Int) : Int := if hosesOk d l then hosesV d l else 0

set_option maxHeartbeats 400000 in
theorem hoCount_any (d l : Int) (w : World) (h0 : 0 ≤ d) (h1 : d ≤ 100000) (h2 : 1 ≤ l) (h3 : l ≤ 5000) :
    Calls Try.prog 45 #[.int .i64 d, .int .i64 l] w fun e w' => e = .returned (.int .i64 (hosesV d l)) ∧ w = w' := by
  go_enter Try.func45, Try.ntmps45
  go_wp2
  go_ret
  exact ⟨rfl, rfl⟩

set_option maxHeartbeats 400000 in
theorem implHosesFor_any (d l : Int) (w : World) :
    Calls Try.prog 17 #[.int .i64 d, .int .i64 l] w fun e w' => e = .returned (.tuple #[.int .i64 (hosesR d l), .bool (hosesOk d l)]) ∧ w = w' := by
  have c1 := fun w => inside_any d 0 100000 w
  have c2 := fun w => inside_any l 1 5000 w
  cases h1 : inB d 0 100000 with
  | false =>
    have e1 : hosesOk d l = false := by simp [hosesOk, h1]
    have e2 : hosesR d l = 0 := by simp [hosesR, e1]
    rw [e1, e2]
    rw [h1] at c1
    go_enter Try.func17, Try.ntmps17
    go_wp2_with (go_at_call 23; ((with_reducible refine (c1 _).mono ?_); rintro e w' ⟨rfl, rfl⟩))
    go_ret2
    exact ⟨rfl, rfl⟩
  | true =>
    rw [h1] at c1
    cases h2 : inB l 1 5000 with
    | false =>
      have e1 : hosesOk d l = false := by simp [hosesOk, h2]
      have e2 : hosesR d l = 0 := by simp [hosesR, e1]
      rw [e1, e2]
      rw [h2] at c2
      go_enter Try.func17, Try.ntmps17
      go_wp2_with fail
      refine (c1 _).mono ?_
      rintro e w' ⟨rfl, rfl⟩
      go_wp2_with fail
      refine (c2 _).mono ?_
      rintro e w' ⟨rfl, rfl⟩
      go_wp2
      go_ret2
      exact ⟨rfl, rfl⟩
    | true =>
      have e1 : hosesOk d l = true := by simp [hosesOk, h1, h2]
      have e2 : hosesR d l = hosesV d l := by simp [hosesR, e1]
      rw [e1, e2]
      rw [h2] at c2
      rw [inB_iff] at h1 h2
      obtain ⟨h1, h1'⟩ := h1
      obtain ⟨h2, h2'⟩ := h2
      clear e1 e2
      go_enter Try.func17, Try.ntmps17
      go_wp2_with fail
      refine (c1 _).mono ?_
      rintro e w' ⟨rfl, rfl⟩
      go_wp2_with fail
      refine (c2 _).mono ?_
      rintro e w' ⟨rfl, rfl⟩
      go_wp2_with (first | (go_at_call 44; ((with_reducible refine (upTo_any _ _ _ (by omega) (by omega) (by omega) (by omega)).mono ?_); rintro e w' ⟨rfl, rfl⟩)) | (go_at_call 45; ((with_reducible refine (hoCount_any _ _ _ (by omega) (by omega) (by omega) (by omega)).mono ?_); rintro e w' ⟨rfl, rfl⟩)))
      go_ret2
      exact ⟨by first | rfl | (rw [hosesV_alt]; rfl), rfl⟩
set_option maxHeartbeats 400000 in
theorem specHosesFor_any (d l : Int) (w : World) :
    Calls Try.prog 18 #[.int .i64 d, .int .i64 l] w fun e w' => e = .returned (.tuple #[.int .i64 (hosesR d l), .bool (hosesOk d l)]) ∧ w = w' := by
  have c1 := fun w => l1In_any d 0 100000 w
  have c2 := fun w => l1In_any l 1 5000 w
  cases h1 : inB d 0 100000 with
  | false =>
    have e1 : hosesOk d l = false := by simp [hosesOk, h1]
    have e2 : hosesR d l = 0 := by simp [hosesR, e1]
    rw [e1, e2]
    rw [h1] at c1
    go_enter Try.func18, Try.ntmps18
    go_wp2_with (go_at_call 42; ((with_reducible refine (c1 _).mono ?_); rintro e w' ⟨rfl, rfl⟩))
    go_ret2
    exact ⟨rfl, rfl⟩
  | true =>
    rw [h1] at c1
    cases h2 : inB l 1 5000 with
    | false =>
      have e1 : hosesOk d l = false := by simp [hosesOk, h2]
      have e2 : hosesR d l = 0 := by simp [hosesR, e1]
      rw [e1, e2]
      rw [h2] at c2
      go_enter Try.func18, Try.ntmps18
      go_wp2_with fail
      refine (c1 _).mono ?_
      rintro e w' ⟨rfl, rfl⟩
      go_wp2_with fail
      refine (c2 _).mono ?_
      rintro e w' ⟨rfl, rfl⟩
      go_wp2
      go_ret2
      exact ⟨rfl, rfl⟩
    | true =>
      have e1 : hosesOk d l = true := by simp [hosesOk, h1, h2]
      have e2 : hosesR d l = hosesV d l := by simp [hosesR, e1]
      rw [e1, e2]
      rw [h2] at c2
      rw [inB_iff] at h1 h2
      obtain ⟨h1, h1'⟩ := h1
      obtain ⟨h2, h2'⟩ := h2
      clear e1 e2
      go_enter Try.func18, Try.ntmps18
      go_wp2_with fail
      refine (c1 _).mono ?_
      rintro e w' ⟨rfl, rfl⟩
      go_wp2_with fail
      refine (c2 _).mono ?_
      rintro e w' ⟨rfl, rfl⟩
      go_wp2_with (first | (go_at_call 44; ((with_reducible refine (upTo_any _ _ _ (by omega) (by omega) (by omega) (by omega)).mono ?_); rintro e w' ⟨rfl, rfl⟩)) | (go_at_call 45; ((with_reducible refine (hoCount_any _ _ _ (by omega) (by omega) (by omega) (by omega)).mono ?_); rintro e w' ⟨rfl, rfl⟩)))
      go_ret2
      exact ⟨by first | rfl | (rw [hosesV_alt]; rfl), rfl⟩

/-- Bounds of the squares. -/
theorem sq_bd {n p : Int} (h0 : 4 ≤ n) (h1 : n ≤ 40) (h2 : 0 ≤ p) (h3 : p ≤ 2000) : 0 ≤ 66 * n ∧ 66 * n ≤ 2640 ∧ 0 ≤ 66 * n * n ∧ 66 * n * n ≤ 105600 ∧ 0 ≤ 66 * n * n * p ∧ 66 * n * n * p ≤ 211200000 ∧ 0 ≤ 66 * n * n * (66 * n * n * p) ∧ 66 * n * n * (66 * n * n * p) ≤ 22302720000000 ∧
    0 ≤ 66 * n * n * (66 * n * n) ∧ 66 * n * n * (66 * n * n) ≤ 11151360000 := by
  obtain ⟨a1, a2⟩ := mul_bd (a := 66 * n) (A := 2640) (b := n) (B := 40) (by omega) (by omega) (by omega) (by omega)
  obtain ⟨b1, b2⟩ := mul_bd a1 a2 h2 h3
  obtain ⟨d1, d2⟩ := mul_bd a1 a2 b1 b2
  obtain ⟨e1, e2⟩ := mul_bd a1 a2 a1 a2
  exact ⟨by omega, by omega, a1, by omega, b1, by omega, d1, by omega, e1, by omega⟩

set_option maxHeartbeats 1000000 in
theorem branchFlow_any (n p : Int) (w : World) (h0 : 4 ≤ n) (h1 : n ≤ 40) (h2 : 0 ≤ p) (h3 : p ≤ 2000) :
    Calls Try.prog 29 #[.int .i64 n, .int .i64 p] w fun e w' => e = .returned (.int .i64 (bfOf n p)) ∧ w = w' := by
  obtain ⟨a1, a2, b1, b2, d1, d2, e1, e2, _, _⟩ := sq_bd h0 h1 h2 h3
  go_enter Try.func29, Try.ntmps29
  go_wp2
  go_loop [6] (fun t => ∃ k : Nat, k ≤ 3000 ∧ t = .int .i64 k ∧ (k = 0 ∨ (k : Int) * k * 1000000 ≤ 66 * n * n * (66 * n * n * p))) (fun t => 3000 - (intOf t).toNat)
  case atStart => exact ⟨0, by omega, rfl, .inl rfl⟩
  case round =>
    obtain ⟨k, hk, rfl, hP⟩ := hrel
    have HP := hide hP
    clear hP
    have hk' : (k : Int) ≤ 3000 := by omega
    clear hk
    by_cases hlt : (k : Int) < 3000
    · obtain ⟨q1, q2⟩ := mul_bd (a := (k : Int) + 1) (A := 3000) (b := (k : Int) + 1) (B := 3000) (by omega) (by omega) (by omega) (by omega)
      by_cases hc : ((k : Int) + 1) * ((k : Int) + 1) * 1000000 ≤ 66 * n * n * (66 * n * n * p)
      · go_wp2
        go_round
        case rel => exact ⟨k + 1, by omega, by go_num, .inr (by simpa using hc)⟩
        case measure => simp [intOf]; omega
      · go_wp2
        go_ret
        exact ⟨ret_int (by rw [bfOf_def, flowOf_eq (by omega) HP.out (.inr (by omega))]), rfl⟩
    · go_wp2
      go_ret
      exact ⟨ret_int (by rw [bfOf_def, flowOf_eq (by omega) HP.out (.inl (by omega))]), rfl⟩

set_option maxHeartbeats 1000000 in
theorem hoBranch_any (n p : Int) (w : World) (h0 : 4 ≤ n) (h1 : n ≤ 40) (h2 : 0 ≤ p) (h3 : p ≤ 2000) :
    Calls Try.prog 31 #[.int .i64 n, .int .i64 p] w fun e w' => e = .returned (.int .i64 (bfOf n p)) ∧ w = w' := by
  obtain ⟨a1, a2, b1, b2, d1, d2, e1, e2, g1, g2⟩ := sq_bd h0 h1 h2 h3
  have hS : 66 * n * n * (66 * n * n * p) = 66 * n * n * (66 * n * n) * p := by
    generalize 66 * n * n = s
    rw [Int.mul_assoc]
  have hbf : bfOf n p = flowOf (66 * n * n * (66 * n * n) * p) := by rw [bfOf_def, hS]
  rw [hbf]
  rw [hS] at e1 e2
  clear hbf hS
  go_enter Try.func31, Try.ntmps31
  go_wp2
  go_loop [6, 7] (fun t u => ∃ k m : Nat, k < m ∧ m ≤ 3001 ∧ t = .int .i64 k ∧ u = .int .i64 m ∧ (k = 0 ∨ (k : Int) * k * 1000000 ≤ 66 * n * n * (66 * n * n) * p) ∧ (m = 3001 ∨ 66 * n * n * (66 * n * n) * p < (m : Int) * m * 1000000)) (fun t u => (intOf u - intOf t).toNat)
  case atStart => exact ⟨0, 3001, by omega, by omega, rfl, rfl, .inl rfl, .inl rfl⟩
  case round =>
    obtain ⟨k, m, hkm, hm, rfl, rfl, hP, hR⟩ := hrel
    have HP := hide hP
    have HR := hide hR
    clear hP hR
    by_cases hlt : 1 < (m : Int) - k
    · obtain ⟨j, hj, hj1, hj2⟩ : ∃ j : Nat, ((k : Int) + m) / 2 = j ∧ k < j ∧ j < m := ⟨(k + m) / 2, by omega, by omega, by omega⟩
      obtain ⟨q1, q2⟩ := mul_bd (a := ((k : Int) + m) / 2) (A := 3000) (b := ((k : Int) + m) / 2) (B := 3000) (by omega) (by omega) (by omega) (by omega)
      have HJ := hide hj
      clear hj
      by_cases hc : ((k : Int) + m) / 2 * (((k : Int) + m) / 2) * 1000000 ≤ 66 * n * n * (66 * n * n) * p
      · go_wp2
        go_round
        case rel => exact ⟨j, m, by omega, hm, by rw [HJ.out], rfl, .inr (by rw [← HJ.out]; exact hc), HR.out⟩
        case measure => simp [intOf]; omega
      · go_wp2
        go_round
        case rel => exact ⟨k, j, by omega, by omega, rfl, by rw [HJ.out], HP.out, .inr (by rw [← HJ.out]; omega)⟩
        case measure => simp [intOf]; omega
    · go_wp2
      go_ret
      exact ⟨ret_int (by
        rw [flowOf_eq (k := k) (by omega) HP.out]
        rcases HR.out with h | h
        · exact .inl (by omega)
        · rw [show (m : Int) = (k : Int) + 1 by omega] at h
          exact .inr h), rfl⟩
end Go.Proofs.Ytcbonkhlpcbckaa

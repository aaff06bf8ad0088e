/- The functions of the hose chapter over numbers: what each call returns. -/
import Derived.Test.YtmoelgbbgepckaaDoorHoseA
import Derived.Test.YtmoelgbbgepckaaDoorMem
namespace Go.Proofs.YtmoelgbbgepckaaDoor
open Go.RowKit
set_option linter.unusedVariables false

set_option maxHeartbeats 400000 in
theorem hoFlow_any (n : Int) (w : World) :
    Calls Tryd.prog 73 #[.int .i64 n] w fun e w' => e = .returned (.bool (inB n 0 3000)) ∧ w = w' := by
  go_enter Tryd.func73, Tryd.ntmps73
  go_wp2_with (go_at_call 113; refine (l1In_any _ _ _ _).mono ?_; rintro e w' ⟨rfl, rfl⟩)
  go_ret
  exact ⟨rfl, rfl⟩

set_option maxHeartbeats 400000 in
theorem hoPressure_any (n : Int) (w : World) :
    Calls Tryd.prog 70 #[.int .i64 n] w fun e w' => e = .returned (.bool (inB n 0 2000)) ∧ w = w' := by
  go_enter Tryd.func70, Tryd.ntmps70
  go_wp2_with (go_at_call 113; refine (l1In_any _ _ _ _).mono ?_; rintro e w' ⟨rfl, rfl⟩)
  go_ret
  exact ⟨rfl, rfl⟩

set_option maxHeartbeats 400000 in
theorem implIsHose_any (k l : Int) (w : World) :
    Calls Tryd.prog 31 #[.agg #[.int .i64 k, .int .i64 l]] w fun e w' => e = .returned (.bool (hoseB k l)) ∧ Below w.heap.size w w' := by
  go_enter Tryd.func31, Tryd.ntmps31
  go_wp2_with (go_at_call 75; refine (isHose_any _ _ _).mono ?_; rintro e w1 ⟨rfl, hb⟩)
  go_ret
  exact ⟨rfl, ((Below.refl _ _).alloc (Nat.le_refl _) _).trans (hb.mono (by simp))⟩
def lossOk (k l f : Int) : Bool := hoseB k l && inB f 0 3000
def lossV (k l f : Int) : Int := if lossOk k l f then lossOf k l f else 0

set_option maxHeartbeats 400000 in
theorem implHoseLoss_any (k l f : Int) (w : World) :
    Calls Tryd.prog 26 #[.agg #[.int .i64 k, .int .i64 l], .int .i64 f] w fun e w' => e = .returned (.tuple #[.int .i64 (lossV k l f), .bool (lossOk k l f)]) ∧ Below w.heap.size w w' := by
  cases hh : hoseB k l with
  | false =>
    have e1 : lossOk k l f = false := by simp [lossOk, hh]
    have e2 : lossV k l f = 0 := by simp [lossV, e1]
    rw [e1, e2]
    have c := fun w => isHose_any k l w
    rw [hh] at c
    go_enter Tryd.func26, Tryd.ntmps26
    go_wp2_with (go_at_call 75; refine (c _).mono ?_; rintro e w1 ⟨rfl, hb⟩; obtain ⟨hc1, hf1⟩ := bcell hb)
    go_ret2
    exact ⟨rfl, ((Below.refl _ _).alloc (Nat.le_refl _) _).trans (hb.mono (by simp))⟩
  | true =>
    cases hf : inB f 0 3000 with
    | false =>
      have e1 : lossOk k l f = false := by simp [lossOk, hf]
      have e2 : lossV k l f = 0 := by simp [lossV, e1]
      rw [e1, e2]
      have c := fun w => isHose_any k l w
      rw [hh] at c
      have c2 := fun w => inside_any f 0 3000 w
      rw [hf] at c2
      go_enter Tryd.func26, Tryd.ntmps26
      go_wp2_with (first | (go_at_call 75; refine (c _).mono ?_; rintro e w1 ⟨rfl, hb⟩; obtain ⟨hc1, hf1⟩ := bcell hb) | (go_at_call 68; refine (c2 _).mono ?_; rintro e w' ⟨rfl, rfl⟩))
      go_ret2
      exact ⟨rfl, ((Below.refl _ _).alloc (Nat.le_refl _) _).trans (hb.mono (by simp))⟩
    | true =>
      have e1 : lossOk k l f = true := by simp [lossOk, hh, hf]
      have e2 : lossV k l f = lossOf k l f := by simp [lossV, e1]
      rw [e1, e2]
      have c := fun w => isHose_any k l w
      rw [hh] at c
      have c2 := fun w => inside_any f 0 3000 w
      rw [hf] at c2
      have c3 := fun w => hoseLoss_any k l f w hh hf
      have Hh := hide hh
      have Hf := hide hf
      clear hh hf e1 e2
      go_enter Tryd.func26, Tryd.ntmps26
      go_wp2_with (first | (go_at_call 75; refine (c _).mono ?_; rintro e w1 ⟨rfl, hb⟩; obtain ⟨hc1, hf1⟩ := bcell hb) | (go_at_call 68; refine (c2 _).mono ?_; rintro e w' ⟨rfl, rfl⟩) | (go_at_call 76; refine (c3 _).mono ?_; rintro e w2 ⟨rfl, hb2⟩))
      go_ret2
      exact ⟨rfl, (((Below.refl _ _).alloc (Nat.le_refl _) _).trans (hb.mono (by simp))).trans (hb2.mono (by have := hb.size; simp at this; omega))⟩

set_option maxHeartbeats 400000 in
theorem specHoseLoss_any (k l f : Int) (w : World) :
    Calls Tryd.prog 27 #[.agg #[.int .i64 k, .int .i64 l], .int .i64 f] w fun e w' => e = .returned (.tuple #[.int .i64 (lossV k l f), .bool (lossOk k l f)]) ∧ Below w.heap.size w w' := by
  cases hh : hoseB k l with
  | false =>
    have e1 : lossOk k l f = false := by simp [lossOk, hh]
    have e2 : lossV k l f = 0 := by simp [lossV, e1]
    rw [e1, e2]
    have c := fun w => hoOne_any k l w
    rw [hh] at c
    go_enter Tryd.func27, Tryd.ntmps27
    go_wp2_with (go_at_call 77; ((with_reducible refine (c _).mono ?_); rintro e w1 ⟨rfl, hb1⟩); obtain ⟨hc1, hf1⟩ := bcell hb1)
    go_ret2
    exact ⟨rfl, ((Below.refl _ _).alloc (Nat.le_refl _) _).trans (hb1.mono (by simp))⟩
  | true =>
    cases hf : inB f 0 3000 with
    | false =>
      have e1 : lossOk k l f = false := by simp [lossOk, hf]
      have e2 : lossV k l f = 0 := by simp [lossV, e1]
      rw [e1, e2]
      have c := fun w => hoOne_any k l w
      rw [hh] at c
      have c2 := fun w => hoFlow_any f w
      rw [hf] at c2
      go_enter Tryd.func27, Tryd.ntmps27
      go_wp2_with (first | (go_at_call 77; ((with_reducible refine (c _).mono ?_); rintro e w1 ⟨rfl, hb1⟩); obtain ⟨hc1, hf1⟩ := bcell hb1) | (go_at_call 73; ((with_reducible refine (c2 _).mono ?_); rintro e w' ⟨rfl, rfl⟩)))
      go_ret2
      exact ⟨rfl, ((Below.refl _ _).alloc (Nat.le_refl _) _).trans (hb1.mono (by simp))⟩
    | true =>
      have e1 : lossOk k l f = true := by simp [lossOk, hh, hf]
      have e2 : lossV k l f = lossOf k l f := by simp [lossV, e1]
      rw [e1, e2]
      have c := fun w => hoOne_any k l w
      rw [hh] at c
      have c2 := fun w => hoFlow_any f w
      rw [hf] at c2
      have c3 := fun w => hoLoss_any k l f w hh hf
      have Hh := hide hh
      have Hf := hide hf
      clear hh hf e1 e2
      go_enter Tryd.func27, Tryd.ntmps27
      go_wp2_with (first | (go_at_call 77; ((with_reducible refine (c _).mono ?_); rintro e w1 ⟨rfl, hb1⟩); obtain ⟨hc1, hf1⟩ := bcell hb1) | (go_at_call 73; ((with_reducible refine (c2 _).mono ?_); rintro e w' ⟨rfl, rfl⟩)) | (go_at_call 78; ((with_reducible refine (c3 _).mono ?_); rintro e w2 ⟨rfl, hb2⟩); obtain ⟨hc2, hf2⟩ := bcell hb2))
      go_ret2
      exact ⟨rfl, (((Below.refl _ _).alloc (Nat.le_refl _) _).trans (hb1.mono (by simp))).trans (hb2.mono (by have := hb1.size; simp at this; omega))⟩

def hosesOk (d l : Int) : Bool := inB d 0 100000 && inB l 1 5000
def hosesR (d l : Int) : Int := if hosesOk d l then hosesV d l else 0

/-- Bounds of the squares. -/
theorem sq_bd {n p : Int} (h0 : 4 ≤ n) (h1 : n ≤ 40) (h2 : 0 ≤ p) (h3 : p ≤ 2000) : 0 ≤ 66 * n ∧ 66 * n ≤ 2640 ∧ 0 ≤ 66 * n * n ∧ 66 * n * n ≤ 105600 ∧ 0 ≤ 66 * n * n * p ∧ 66 * n * n * p ≤ 211200000 ∧ 0 ≤ 66 * n * n * (66 * n * n * p) ∧ 66 * n * n * (66 * n * n * p) ≤ 22302720000000 ∧
    0 ≤ 66 * n * n * (66 * n * n) ∧ 66 * n * n * (66 * n * n) ≤ 11151360000 := by
  obtain ⟨a1, a2⟩ := mul_bd (a := 66 * n) (A := 2640) (b := n) (B := 40) (by omega) (by omega) (by omega) (by omega)
  obtain ⟨b1, b2⟩ := mul_bd a1 a2 h2 h3
  obtain ⟨d1, d2⟩ := mul_bd a1 a2 b1 b2
  obtain ⟨e1, e2⟩ := mul_bd a1 a2 a1 a2
  exact ⟨by omega, by omega, a1, by omega, b1, by omega, d1, by omega, e1, by omega⟩

end Go.Proofs.YtmoelgbbgepckaaDoor

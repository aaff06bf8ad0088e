/- Greatest sums: the program's way, from the last main on. -/
import Derived.Test.YtfcpgpmhjadanaaGreatDoorNetS
import Derived.Test.YtfcpgpmhjadanaaGreatDoorNetO
namespace Go.Proofs.YtfcpgpmhjadanaaGreatDoor
open Go.RowKit
set_option linter.unusedVariables false

theorem kidsN_zero {M H : List (Int × Int)} (hk : NetOk M H) (S : Nat → Int) (m : Nat) : ∀ j, j ≤ m + 1 → j ≤ M.length → kidsN M S m j = 0
  | 0, _, _ => rfl
  | j + 1, h, hj => by
    have := hk.par_lt (k := j) (by omega)
    rw [kidsN, if_neg (by omega)]
    exact kidsN_zero hk S m j (by omega) (by omega)
/-- The row when all mains from k on are done. -/
def downN (M H : List (Int × Int)) (F : List Int) (k : Nat) : Nat → Int := fun i => if i < k then baseN H F F.length i + (kidsN M (sumM M H F) i M.length - kidsN M (sumM M H F) i k) else sumM M H F i
theorem downN_top {M H : List (Int × Int)} {F : List Int} {i : Nat} (h : i < M.length) : downN M H F M.length i = baseN H F F.length i := by
  unfold downN; rw [if_pos h]; omega
theorem downN_at {M H : List (Int × Int)} (hk : NetOk M H) (F : List Int) {k : Nat} (h : k < M.length) : min (downN M H F (k + 1) k) (lim M k) = sumM M H F k := by
  unfold downN
  rw [if_pos (by omega), kidsN_zero hk _ k (k + 1) (by omega) (by omega), sumM_eq hk F h, Int.sub_zero]
theorem downN_step0 {M H : List (Int × Int)} (hk : NetOk M H) (F : List Int) {k : Nat} (h : k < M.length) (hp : par M k < 0) {i : Nat} : upd (downN M H F (k + 1)) k (sumM M H F k) i = downN M H F k i := by
  unfold upd downN
  by_cases hik : i = k
  · subst hik; rw [if_pos rfl, if_neg (by omega)]
  · rw [if_neg hik]
    by_cases h1 : i < k
    · rw [if_pos (by omega), if_pos h1, kidsN, if_neg (by omega)]
    · rw [if_neg (by omega), if_neg h1]
theorem downN_step1 {M H : List (Int × Int)} (hk : NetOk M H) (F : List Int) {k q : Nat} (h : k < M.length) (hp : par M k = (q : Int)) {i : Nat} :
    upd (upd (downN M H F (k + 1)) k (sumM M H F k)) q (downN M H F (k + 1) q + sumM M H F k) i = downN M H F k i := by
  have hq := (hk.par_lt h).2
  have hqk : q < k := by omega
  unfold upd
  by_cases hiq : i = q
  · subst hiq
    unfold downN
    rw [if_pos rfl, if_pos (by omega), if_pos hqk, kidsN, if_pos hp]
    omega
  · rw [if_neg hiq]
    by_cases hik : i = k
    · subst hik; unfold downN; rw [if_pos rfl, if_neg (by omega)]
    · rw [if_neg hik]
      unfold downN
      by_cases h1 : i < k
      · rw [if_pos (by omega), if_pos h1, kidsN, if_neg (by omega)]
      · rw [if_neg (by omega), if_neg h1]
theorem kidsN_mono {M : List (Int × Int)} {S : Nat → Int} {m : Nat} (hS : ∀ c, c < M.length → 0 ≤ S c) : ∀ (d j : Nat), j + d ≤ M.length → kidsN M S m j ≤ kidsN M S m (j + d)
  | 0, j, _ => by simp
  | d + 1, j, h => by
    have ih := kidsN_mono (m := m) hS d j (by omega)
    have := hS (j + d) (by omega)
    rw [show j + (d + 1) = (j + d) + 1 by omega, kidsN]
    split <;> omega
theorem downN_bd {M H : List (Int × Int)} (hk : NetOk M H) (F : List Int) (hF : F.length ≤ 10) {k i : Nat} (hkl : k ≤ M.length) (h : i < M.length) : 0 ≤ downN M H F k i ∧ downN M H F k i ≤ 200000 := by
  have h1 := baseN_bd hk F i F.length
  have h2 := sumM_bd hk F h
  have h3 := kidsN_bd (M := M) (S := sumM M H F) (m := i) M.length (fun c hc => sumM_bd hk F hc)
  have h4 := kidsN_bd (M := M) (S := sumM M H F) (m := i) k (fun c hc => sumM_bd hk F (by omega))
  have h5 := kidsN_mono (m := i) (M := M) (S := sumM M H F) (fun c hc => (sumM_bd hk F hc).1) (M.length - k) k (by omega)
  rw [show k + (M.length - k) = M.length by omega] at h5
  have h6 := hk.m10
  unfold downN
  split <;> omega
end Go.Proofs.YtfcpgpmhjadanaaGreatDoor

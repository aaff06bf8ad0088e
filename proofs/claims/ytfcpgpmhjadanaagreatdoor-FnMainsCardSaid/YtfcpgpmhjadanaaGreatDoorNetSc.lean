/- ScarceMain: what the program's and the reference's return. -/
import Derived.Test.YtfcpgpmhjadanaaGreatDoorNetWo
namespace Go.Proofs.YtfcpgpmhjadanaaGreatDoor
open Go.RowKit
set_option linter.unusedVariables false

theorem closeM_ok {M H : List (Int × Int)} (hk : NetOk M H) (i : Nat) (hi : i < M.length) : NetOk (closeM M i) H := by
  refine ⟨by rw [closeM_length]; exact hk.m1, by rw [closeM_length]; exact hk.m10, hk.h10, fun j x hx => ?_, fun j x hx => by rw [closeM_length]; exact hk.hyd j x hx⟩
  unfold closeM at hx
  by_cases hij : i = j
  · subst hij
    rw [List.getElem?_set_self hi] at hx
    injection hx with hx
    subst hx
    have hp := par_some (List.getElem?_eq_getElem hi)
    obtain ⟨h1, h2, h3, h4⟩ := hk.main i _ (List.getElem?_eq_getElem hi)
    rw [hp]
    exact ⟨h1, h2, by omega, by omega⟩
  · rw [List.getElem?_set_ne hij] at hx
    exact hk.main j x hx
def bestN (S : Nat → Int) : Nat → Nat
  | 0 => 0
  | k + 1 => if S k < S (bestN S k) then k else bestN S k
theorem bestN_le (S : Nat → Int) : ∀ k, bestN S k ≤ k
  | 0 => Nat.le_refl _
  | k + 1 => by have := bestN_le S k; rw [bestN]; split <;> omega
theorem bestN_lt (S : Nat → Int) (k : Nat) (h : 0 < k) : bestN S k < k := by
  match k, h with
  | k + 1, _ => have := bestN_le S k; rw [bestN]; split <;> omega
def scS (M H : List (Int × Int)) (F : List Int) (i : Nat) : Int := sumM (closeM M i) H F 0
def scV (M H : List (Int × Int)) (F : List Int) : Int := if openB M H F then (bestN (scS M H F) M.length : Int) else 0
theorem scV_no {M H : List (Int × Int)} {F : List Int} (h : openB M H F = false) : scV M H F = 0 := by rw [scV, h]; rfl
theorem scV_yes {M H : List (Int × Int)} {F : List Int} (h : openB M H F = true) : scV M H F = (bestN (scS M H F) M.length : Int) := by rw [scV, h]; rfl
theorem scS_bd {M H : List (Int × Int)} (hk : NetOk M H) (F : List Int) {i : Nat} (hi : i < M.length) : 0 ≤ scS M H F i ∧ scS M H F i ≤ 5000 := by
  have := (closeM_ok hk i hi).m1
  exact sumM_bd (closeM_ok hk i hi) F (by omega)

end Go.Proofs.YtfcpgpmhjadanaaGreatDoor

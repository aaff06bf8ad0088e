/- GreatestSum: what the program's and the reference's return. -/
import Derived.Test.YtfcpgpmhjadanaaGreatDoorNetV
namespace Go.Proofs.YtfcpgpmhjadanaaGreatDoor
open Go.RowKit
set_option linter.unusedVariables false

theorem risB_mem {lo hi : Int} {F : List Int} (h : risB lo hi F = true) {x : Int} (hx : x ∈ F) : lo ≤ x ∧ x ≤ hi := by
  have := chainB_mem h hx
  rwa [inB_iff] at this
theorem risB_next {lo hi : Int} {F : List Int} (h : risB lo hi F = true) {i : Nat} {a b : Int} (ha : F[i + 1]? = some a) (hb : F[i]? = some b) : b < a := by
  have := chainB_next h ha hb
  simpa [upB] using this
theorem risB_ge {hi : Int} {F : List Int} (h : risB 0 hi F = true) : ∀ (i : Nat) (x : Int), F[i]? = some x → (i : Int) ≤ x
  | 0, x, hx => (risB_mem h (List.mem_of_getElem? hx)).1
  | i + 1, x, hx => by
    have hi : i < F.length := by have := (List.getElem?_eq_some_iff.1 hx).1; omega
    have h1 := risB_ge h i _ (List.getElem?_eq_getElem hi)
    have h2 := risB_next h hx (List.getElem?_eq_getElem hi)
    omega
theorem risB_length {m : Nat} {F : List Int} (h : risB 0 ((m : Int) - 1) F = true) : F.length ≤ m := by
  by_cases h0 : F.length = 0
  · omega
  · have hl : F.length - 1 < F.length := by omega
    have h1 := risB_ge h _ _ (List.getElem?_eq_getElem hl)
    have h2 := (risB_mem h (List.mem_of_getElem? (List.getElem?_eq_getElem hl))).2
    omega
theorem risB_lt {hi : Int} {F : List Int} (h : risB 0 hi F = true) : ∀ (d i : Nat) (x y : Int), F[i]? = some x → F[i + d + 1]? = some y → x < y
  | 0, i, x, y, hx, hy => risB_next h hy hx
  | d + 1, i, x, y, hx, hy => by
    have hi : i + d + 1 < F.length := by have := (List.getElem?_eq_some_iff.1 hy).1; omega
    have h1 := risB_lt h d i x _ hx (List.getElem?_eq_getElem hi)
    have h2 := risB_next h hy (List.getElem?_eq_getElem hi)
    omega

def grV (M H : List (Int × Int)) (F : List Int) : Int := if openB M H F then sumM M H F 0 else 0
theorem grV_no {M H : List (Int × Int)} {F : List Int} (h : openB M H F = false) : grV M H F = 0 := by rw [grV, h]; rfl
theorem grV_yes {M H : List (Int × Int)} {F : List Int} (h : openB M H F = true) : grV M H F = sumM M H F 0 := by rw [grV, h]; rfl

end Go.Proofs.YtfcpgpmhjadanaaGreatDoor

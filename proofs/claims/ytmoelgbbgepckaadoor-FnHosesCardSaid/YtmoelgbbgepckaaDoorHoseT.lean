/- A line's text: both sides. -/
import Derived.Test.YtmoelgbbgepckaaDoorNumT
import Derived.Test.YtmoelgbbgepckaaDoorHoseL
import Derived.Deep.LoopGhost
namespace Go.Proofs.YtmoelgbbgepckaaDoor
open Go.RowKit
set_option linter.unusedVariables false

/-- One hose's text. -/
def th1 (h : Int × Int) : ByteArray := ((⟨#[UInt8.ofNat (97 + h.1.toNat)]⟩ : ByteArray) ++ txt h.2.toNat) ++ ⟨#[59]⟩
/-- The text of the first j hoses. -/
def thN (l : List (Int × Int)) : Nat → ByteArray
  | 0 => ⟨#[]⟩
  | j + 1 => match l[j]? with
    | some x => thN l j ++ th1 x
    | none => thN l j
theorem thN_succ {l : List (Int × Int)} {j : Nat} {x : Int × Int} (h : l[j]? = some x) : thN l (j + 1) = thN l j ++ th1 x := by rw [thN, h]
theorem size_one (c : UInt8) : (⟨#[c]⟩ : ByteArray).size = 1 := rfl
theorem line_mem {l : List (Int × Int)} (h : lineB l = true) {x : Int × Int} (hx : x ∈ l) : 0 ≤ x.1 ∧ x.1 ≤ 3 ∧ 1 ≤ x.2 ∧ x.2 ≤ 5000 := by
  have h1 := List.all_eq_true.1 (lineB_iff h).1 x hx
  simp only [hoseB, Bool.and_eq_true, inB_iff] at h1
  omega
theorem thN_size {l : List (Int × Int)} (h : lineB l = true) : ∀ j, (thN l j).size ≤ 23 * j
  | 0 => by simp [thN, ByteArray.size]
  | j + 1 => by
    have ih := thN_size h j
    cases hx : l[j]? with
    | none => simp only [thN, hx]; omega
    | some x =>
      have hm := line_mem h (List.mem_of_getElem? hx)
      have h2 := txt_size x.2.toNat (by omega)
      rw [thN_succ hx, ByteArray.size_append, th1, ByteArray.size_append, ByteArray.size_append, size_one, size_one]
      omega
end Go.Proofs.YtmoelgbbgepckaaDoor

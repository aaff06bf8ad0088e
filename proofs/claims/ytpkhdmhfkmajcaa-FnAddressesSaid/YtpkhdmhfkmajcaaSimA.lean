/- Similar names: the program's test. -/
import Derived.Test.YtpkhdmhfkmajcaaSimL
import Derived.Test.YtpkhdmhfkmajcaaSmall
import Derived.Lib.Strings
namespace Go.Proofs.Ytpkhdmhfkmajcaa
open Go.RowKit
set_option linter.unusedVariables false

def simT (a b : ByteArray) : Bool := simI a.data.toList b.data.toList
theorem len_data (a : ByteArray) : a.data.toList.length = a.size := by simp
theorem data_at {a : ByteArray} {i : Nat} (h : i < a.size) : a.data.toList[i]? = some a[i] := by
  rw [List.getElem?_eq_getElem (by simpa using h)]; rfl
theorem toList_data (a : ByteArray) : a.toList = a.data.toList := by
  have := Lib.extract_toList a 0 a.size
  rw [show a.extract 0 a.size = a by simp] at this
  rw [this, List.drop_zero, Nat.sub_zero, List.take_of_length_le (by simp)]
theorem tail_data (a : ByteArray) (i : Nat) : (a.extract i a.size).toList = a.data.toList.drop i := by
  rw [Lib.extract_toList, List.take_of_length_le (by simp)]
end Go.Proofs.Ytpkhdmhfkmajcaa

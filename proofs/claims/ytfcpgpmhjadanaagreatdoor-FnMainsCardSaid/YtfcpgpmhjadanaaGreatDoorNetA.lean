/- Nets copied and compared by the laws. -/
import Derived.Test.YtfcpgpmhjadanaaGreatDoorConvMain
import Derived.Test.YtfcpgpmhjadanaaGreatDoorConvHydrant
import Derived.Test.YtfcpgpmhjadanaaGreatDoorOwn
namespace Go.Proofs.YtfcpgpmhjadanaaGreatDoor
open Go.RowKit
set_option linter.unusedVariables false

def szNet (n m : Nat) : Int := if n + m ≤ 1048576 then 1048576 - n - m else -1
theorem szNet_pos {n m : Nat} (h : n + m ≤ 1048576) : szNet n m = 1048576 - n - m := by unfold szNet; rw [if_pos h]
theorem szNet_neg {n m : Nat} (h : 1048576 < n + m) : szNet n m = -1 := by unfold szNet; rw [if_neg (by omega)]

end Go.Proofs.YtfcpgpmhjadanaaGreatDoor

/- Laws over calls: what the law's call returns. -/
import Derived.Test.YtmmeoabmjbclcaaCallB
import Derived.Test.YtmmeoabmjbclcaaConvCall
namespace Go.Proofs.Ytmmeoabmjbclcaa
open Go.RowKit
set_option linter.unusedVariables false

theorem szCall_neg {n : Nat} (h : 1048576 < n) : szCall n 1048576 = -1 := by unfold szCall; rw [if_pos (by omega)]
theorem szCall_pos {n : Nat} (h : n ≤ 1048576) : szCall n 1048576 = 1048576 - (n : Int) := by unfold szCall; rw [if_neg (by omega)]

end Go.Proofs.Ytmmeoabmjbclcaa

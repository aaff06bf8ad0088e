/- The law FnExactIsTown: what the law's call returns. -/
import Derived.Test.YtnbiknaihogknaaDoorLawH
import Derived.Test.YtnbiknaihogknaaDoorOwn
namespace Go.Proofs.YtnbiknaihogknaaDoor
open Go.RowKit
set_option linter.unusedVariables false

theorem szStreet_pos {n : Nat} (h : n ≤ 1048576) : szStreet n 1048576 = 1048576 - n := by unfold szStreet; rw [if_neg (by omega)]
theorem szStreet_neg {n : Nat} (h : 1048576 < n) : szStreet n 1048576 = -1 := by unfold szStreet; rw [if_pos (by omega)]

end Go.Proofs.YtnbiknaihogknaaDoor

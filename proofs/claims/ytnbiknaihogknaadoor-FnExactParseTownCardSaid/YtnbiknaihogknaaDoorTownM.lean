/- Streets and towns: plain words. -/
import Derived.Test.YtnbiknaihogknaaDoorSmall
namespace Go.Proofs.YtnbiknaihogknaaDoor
set_option linter.unusedVariables false
abbrev StT := Int × Int × Int
def tcells (c : Int × Int × Int) : List Value := [.int .i64 c.1, .int .i64 c.2.1, .int .i64 c.2.2]
end Go.Proofs.YtnbiknaihogknaaDoor

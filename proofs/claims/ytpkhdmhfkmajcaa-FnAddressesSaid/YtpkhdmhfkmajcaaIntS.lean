/- What the laws' own functions on slices of integers return. -/
import Derived.Test.YtpkhdmhfkmajcaaOwn
import Derived.Test.YtpkhdmhfkmajcaaSmall
namespace Go.Proofs.Ytpkhdmhfkmajcaa
open Go.RowKit
set_option linter.unusedVariables false

def icells (x : Int) : Value := .int .i64 x




end Go.Proofs.Ytpkhdmhfkmajcaa

/- What the laws' own functions on slices of integers return. -/
import Derived.Test.YtbkhejkncmgdeaaOwn
import Derived.Test.YtbkhejkncmgdeaaSmall
namespace Go.Proofs.Ytbkhejkncmgdeaa
open Go.RowKit
set_option linter.unusedVariables false

def icells (x : Int) : Value := .int .i64 x




end Go.Proofs.Ytbkhejkncmgdeaa

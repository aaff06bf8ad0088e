/- What the laws' own functions on slices of integers return. -/
import Derived.Test.YtfcpgpmhjadanaaOwn
import Derived.Test.YtfcpgpmhjadanaaSmall
namespace Go.Proofs.Ytfcpgpmhjadanaa
open Go.RowKit
set_option linter.unusedVariables false

def icells (x : Int) : Value := .int .i64 x




end Go.Proofs.Ytfcpgpmhjadanaa

/- What the laws' own functions on slices of integers return. -/
import Derived.Test.YtmoelgbbgepckaaDoorOwn
import Derived.Test.YtmoelgbbgepckaaDoorSmall
namespace Go.Proofs.YtmoelgbbgepckaaDoor
open Go.RowKit
set_option linter.unusedVariables false

def icells (x : Int) : Value := .int .i64 x




end Go.Proofs.YtmoelgbbgepckaaDoor

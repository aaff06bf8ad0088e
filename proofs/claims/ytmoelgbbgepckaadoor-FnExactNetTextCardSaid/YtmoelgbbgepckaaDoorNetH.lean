/- Nets' loads: the reference's loop. -/
import Derived.Test.YtmoelgbbgepckaaDoorNetG
namespace Go.Proofs.YtmoelgbbgepckaaDoor
open Go.RowKit
set_option linter.unusedVariables false

end Go.Proofs.YtmoelgbbgepckaaDoor

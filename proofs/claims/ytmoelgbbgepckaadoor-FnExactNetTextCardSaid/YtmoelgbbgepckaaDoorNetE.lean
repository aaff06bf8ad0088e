/- Flows that are possible each alone. -/
import Derived.Test.YtmoelgbbgepckaaDoorNetO
namespace Go.Proofs.YtmoelgbbgepckaaDoor
open Go.RowKit
set_option linter.unusedVariables false

end Go.Proofs.YtmoelgbbgepckaaDoor

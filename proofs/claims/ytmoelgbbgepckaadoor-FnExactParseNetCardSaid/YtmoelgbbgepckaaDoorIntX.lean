/- A slice of integers copied by the laws: where it lies, a letter. -/
import Derived.Test.YtmoelgbbgepckaaDoorIntS
namespace Go.Proofs.YtmoelgbbgepckaaDoor
open Go.RowKit
set_option linter.unusedVariables false

end Go.Proofs.YtmoelgbbgepckaaDoor

/- The law over towns' validity: what the law's call returns. -/
import Derived.Test.YtbkhejkncmgdeaaDoorTownF
namespace Go.Proofs.YtbkhejkncmgdeaaDoor
open Go.RowKit
set_option linter.unusedVariables false

end Go.Proofs.YtbkhejkncmgdeaaDoor

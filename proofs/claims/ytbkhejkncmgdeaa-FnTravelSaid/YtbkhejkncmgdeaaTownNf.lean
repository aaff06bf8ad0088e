/- NearestOf: both sides. -/
import Derived.Test.YtbkhejkncmgdeaaTownNe
namespace Go.Proofs.Ytbkhejkncmgdeaa
open Go.RowKit
set_option linter.unusedVariables false

end Go.Proofs.Ytbkhejkncmgdeaa

/- The law over towns' validity: what the law's call returns. -/
import Derived.Test.YtbkhejkncmgdeaaTownF
namespace Go.Proofs.Ytbkhejkncmgdeaa
open Go.RowKit
set_option linter.unusedVariables false

end Go.Proofs.Ytbkhejkncmgdeaa

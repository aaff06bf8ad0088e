/- Draws: a text with one or two edits. -/
import Derived.Test.YtfcpgpmhjadanaaDrawA
import Derived.BigRegion
import Derived.Deep.LoopGhost
import Derived.Laws.IdiomStrings
namespace Go.Proofs.Ytfcpgpmhjadanaa
open Go.RowKit
set_option linter.unusedVariables false
set_option linter.unusedSimpArgs false

end Go.Proofs.Ytfcpgpmhjadanaa

/- Nets copied by the laws; what IsNet returns. -/
import Derived.Test.YtfcpgpmhjadanaaNetC
namespace Go.Proofs.Ytfcpgpmhjadanaa
open Go.RowKit
set_option linter.unusedVariables false

end Go.Proofs.Ytfcpgpmhjadanaa

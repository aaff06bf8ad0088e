/- ScarceMain: the reference's way. -/
import Derived.Test.YtfcpgpmhjadanaaGreatDoorNetSc
namespace Go.Proofs.YtfcpgpmhjadanaaGreatDoor
open Go.RowKit
set_option linter.unusedVariables false

end Go.Proofs.YtfcpgpmhjadanaaGreatDoor

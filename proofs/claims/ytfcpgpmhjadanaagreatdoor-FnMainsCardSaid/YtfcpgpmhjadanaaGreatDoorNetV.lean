/- Greatest sums: the program's walk. -/
import Derived.Test.YtfcpgpmhjadanaaGreatDoorNetU
import Derived.Test.YtfcpgpmhjadanaaGreatDoorNetQ
import Derived.Test.YtfcpgpmhjadanaaGreatDoorNetT
namespace Go.Proofs.YtfcpgpmhjadanaaGreatDoor
open Go.RowKit
set_option linter.unusedVariables false

end Go.Proofs.YtfcpgpmhjadanaaGreatDoor

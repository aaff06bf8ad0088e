/- Greatest sums: the reference's recursion. -/
import Derived.Test.YtfcpgpmhjadanaaGreatDoorNetS
import Derived.Test.YtfcpgpmhjadanaaGreatDoorNetQ
namespace Go.Proofs.YtfcpgpmhjadanaaGreatDoor
open Go.RowKit
set_option linter.unusedVariables false

end Go.Proofs.YtfcpgpmhjadanaaGreatDoor

/- What the laws' own functions on slices of integers return. -/
import Derived.Test.YtfcpgpmhjadanaaGreatDoorOwn
import Derived.Test.YtfcpgpmhjadanaaGreatDoorSmall
namespace Go.Proofs.YtfcpgpmhjadanaaGreatDoor
open Go.RowKit
set_option linter.unusedVariables false

def icells (x : Int) : Value := .int .i64 x




end Go.Proofs.YtfcpgpmhjadanaaGreatDoor

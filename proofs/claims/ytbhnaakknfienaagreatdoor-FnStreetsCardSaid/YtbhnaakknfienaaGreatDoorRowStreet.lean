/- What the laws' markStreetS and heldStreetS do to a row of the call's own. -/
import Derived.Test.YtbhnaakknfienaaGreatDoorOwn
import Derived.Test.YtbhnaakknfienaaGreatDoorSmall
namespace Go.Proofs.YtbhnaakknfienaaGreatDoor
open Go.RowKit
set_option linter.unusedVariables false

end Go.Proofs.YtbhnaakknfienaaGreatDoor

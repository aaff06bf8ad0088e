/- Towns copied and compared by the laws. -/
import Derived.Test.YtbhnaakknfienaaGreatDoorTownC
namespace Go.Proofs.YtbhnaakknfienaaGreatDoor
open Go.RowKit
set_option linter.unusedVariables false

end Go.Proofs.YtbhnaakknfienaaGreatDoor

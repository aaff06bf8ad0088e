/- Streets and towns: plain words. -/
import Derived.Test.YtbhnaakknfienaaGreatDoorSmall
namespace Go.Proofs.YtbhnaakknfienaaGreatDoor
set_option linter.unusedVariables false
abbrev StT := Int × Int × Int
def tcells (c : Int × Int × Int) : List Value := [.int .i64 c.1, .int .i64 c.2.1, .int .i64 c.2.2]
end Go.Proofs.YtbhnaakknfienaaGreatDoor

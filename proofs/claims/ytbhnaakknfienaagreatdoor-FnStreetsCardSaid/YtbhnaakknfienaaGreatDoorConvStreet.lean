/- What the laws' own functions on Street return: a copy; that two equal ones are equal. -/
import Derived.Test.YtbhnaakknfienaaGreatDoorRegions
import Derived.Test.YtbhnaakknfienaaGreatDoorRow
import Derived.Test.YtbhnaakknfienaaGreatDoorSmall
import Derived.Test.YtbhnaakknfienaaGreatDoorTownM
import Derived.WalkKit
import Derived.WalkSpells
import Derived.WalkLawsBesides
import Derived.KernelRfl
namespace Go.Proofs.YtbhnaakknfienaaGreatDoor
open Go.RowKit
set_option linter.unusedVariables false

theorem infoStreet : (Tryz.prog.info? 39).map (fun i => (i.zero, i.size, i.bytes)) = some (some (.agg #[.int .i64 0, .int .i64 0, .int .i64 0]), 3, 24) := by kernel_rfl

def szStreet (n : Nat) (left : Int) : Int := if left - n < 0 then -1 else left - n
end Go.Proofs.YtbhnaakknfienaaGreatDoor

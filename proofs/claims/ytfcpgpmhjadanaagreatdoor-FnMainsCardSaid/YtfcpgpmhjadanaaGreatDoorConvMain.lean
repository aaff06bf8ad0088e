/- What the laws' own functions on Main return: a copy; that two equal ones are equal. -/
import Derived.Test.YtfcpgpmhjadanaaGreatDoorRegions
import Derived.Test.YtfcpgpmhjadanaaGreatDoorRow
import Derived.Test.YtfcpgpmhjadanaaGreatDoorSmall
import Derived.Test.YtfcpgpmhjadanaaGreatDoorNetM
import Derived.WalkKit
import Derived.WalkSpells
import Derived.WalkLawsBesides
import Derived.KernelRfl
namespace Go.Proofs.YtfcpgpmhjadanaaGreatDoor
open Go.RowKit
set_option linter.unusedVariables false

theorem infoMain : (Tryz.prog.info? 36).map (fun i => (i.zero, i.size, i.bytes)) = some (some (.agg #[.int .i64 0, .int .i64 0]), 2, 16) := by kernel_rfl

def szMain (n : Nat) (left : Int) : Int := if left - n < 0 then -1 else left - n
end Go.Proofs.YtfcpgpmhjadanaaGreatDoor

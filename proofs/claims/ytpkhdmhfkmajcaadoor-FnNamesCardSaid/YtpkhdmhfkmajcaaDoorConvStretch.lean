/- What the laws' own functions on Stretch return: a copy; that two equal ones are equal. -/
import Derived.Test.YtpkhdmhfkmajcaaDoorRegions
import Derived.Test.YtpkhdmhfkmajcaaDoorRow
import Derived.Test.YtpkhdmhfkmajcaaDoorSmall
import Derived.Test.YtpkhdmhfkmajcaaDoorStrL
import Derived.WalkKit
import Derived.WalkSpells
import Derived.WalkLawsBesides
import Derived.KernelRfl
namespace Go.Proofs.YtpkhdmhfkmajcaaDoor
open Go.RowKit
set_option linter.unusedVariables false

theorem infoStretch : (Tryd.prog.info? 39).map (fun i => (i.zero, i.size, i.bytes)) = some (some (.agg #[.string ByteArray.empty, .int .i64 0, .int .i64 0, .int .i64 0, .int .i64 0]), 5, 48) := by kernel_rfl

end Go.Proofs.YtpkhdmhfkmajcaaDoor

/- What the laws' own functions on Stretch return: a copy; that two equal ones are equal. -/
import Derived.Test.YtpkhdmhfkmajcaaRegions
import Derived.Test.YtpkhdmhfkmajcaaRow
import Derived.Test.YtpkhdmhfkmajcaaSmall
import Derived.Test.YtpkhdmhfkmajcaaStrL
import Derived.WalkKit
import Derived.WalkSpells
import Derived.WalkLawsBesides
import Derived.KernelRfl
namespace Go.Proofs.Ytpkhdmhfkmajcaa
open Go.RowKit
set_option linter.unusedVariables false

theorem infoStretch : (Try.prog.info? 25).map (fun i => (i.zero, i.size, i.bytes)) = some (some (.agg #[.string ByteArray.empty, .int .i64 0, .int .i64 0, .int .i64 0, .int .i64 0]), 5, 48) := by kernel_rfl

end Go.Proofs.Ytpkhdmhfkmajcaa

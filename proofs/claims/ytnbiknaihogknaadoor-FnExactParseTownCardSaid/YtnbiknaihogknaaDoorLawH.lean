/- The law over towns' validity: what the law's call returns. -/
import Derived.Test.YtnbiknaihogknaaDoorTownF
namespace Go.Proofs.YtnbiknaihogknaaDoor
open Go.RowKit
set_option linter.unusedVariables false

end Go.Proofs.YtnbiknaihogknaaDoor

/- Two closed facts of the program that every law's frame wants. -/
import Derived.Test.YthdfhddlebeonaaRows
import Derived.Test.YthdfhddlebeonaaOpen
import Derived.Carry
namespace Go.Proofs.Ythdfhddlebeonaa
theorem law_own : ownKnob Try.checked.prog.godebug = none := by kernel_rfl
theorem law_laidOut : laidOutB Try.checked.prog = true := by kernel_rfl
end Go.Proofs.Ythdfhddlebeonaa

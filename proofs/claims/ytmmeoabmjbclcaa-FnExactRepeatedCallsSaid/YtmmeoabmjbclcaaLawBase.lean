/- Two closed facts of the program that every law's frame wants. -/
import Derived.Test.YtmmeoabmjbclcaaRows
import Derived.Test.YtmmeoabmjbclcaaOpen
import Derived.Carry
namespace Go.Proofs.Ytmmeoabmjbclcaa
theorem law_own : ownKnob Try.checked.prog.godebug = none := by kernel_rfl
theorem law_laidOut : laidOutB Try.checked.prog = true := by kernel_rfl
theorem flat_ones {α : Type} (f : α → Value) : ∀ l : List α, (l.map (fun x => [f x])).flatten = l.map f
  | [] => rfl
  | x :: l => by rw [List.map_cons, List.flatten_cons, flat_ones f l]; rfl
end Go.Proofs.Ytmmeoabmjbclcaa

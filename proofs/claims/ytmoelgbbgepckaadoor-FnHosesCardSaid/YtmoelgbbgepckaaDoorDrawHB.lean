/- Draws of the hose chapter: the arguments that the laws draw. -/
import Derived.Test.YtmoelgbbgepckaaDoorDrawH
namespace Go.Proofs.YtmoelgbbgepckaaDoor
open Go.RowKit
set_option linter.unusedVariables false

theorem drw_new (w : World) (A : Option Addr) (n c : Nat) (code : List Int) (t : TypeId) (hn : n = code.length) (hm : n ≤ maxLen) (hb : ∀ x ∈ code, 0 ≤ x ∧ x ≤ 255) (hr : Rd w A (code.map (Value.int .u8))) :
    (Drw.mk w w.heap.size A n c code).ok ∧ (Drw.mk w w.heap.size A n c code).st 0 (w.alloc (.cells #[.slice A n c, .int .i64 0, .int .u64 0] t)) :=
  ⟨⟨hn, hm, hb, hr, Nat.le_refl _⟩, (Below.refl _ _).alloc (Nat.le_refl _) _, 0, 0, Nat.le_refl _, ⟨by omega, by omega⟩, Row.new w _ t⟩
def DrwTwo (w : World) (e : Ending) (w' : World) : Prop := (∃ a f : Int, e = .returned (.tuple #[.int .i64 a, .int .i64 f]) ∧ I64 a ∧ I64 f) ∧ Below w.heap.size w w'

theorem fldHose0 (x l : Int) (w : World) : (Instr.field 40 (.agg #[.int .i64 x, .int .i64 l]) 0).run Tryd.prog w = .ok (.int .i64 x) w := by kernel_rfl

end Go.Proofs.YtmoelgbbgepckaaDoor

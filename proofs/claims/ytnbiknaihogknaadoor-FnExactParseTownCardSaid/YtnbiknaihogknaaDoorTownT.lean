/- Travel times: what the program's loops hand back. -/
import Derived.Test.YtnbiknaihogknaaDoorTownS
import Derived.Deep.LoopGhost
namespace Go.Proofs.YtnbiknaihogknaaDoor
open Go.RowKit
set_option linter.unusedVariables false

structure TI (w wr : World) (nd : Nat) (d : Nat → Int) : Prop where
  bel : Below w.heap.size w wr
  own : OwnD wr w.heap.size (w.heap.size + 1) nd d
section
variable {w wr w' : World} {nd : Nat} {d d' : Nat → Int}
theorem TI.set (h : TI w wr nd d) {i : Nat} (hi : i < nd) (x : Int) : TI w (wr.setCell ⟨w.heap.size + 1, i, none⟩ (.int .i64 x)) nd (upd d i x) :=
  ⟨h.bel.setCell (by simp) _, h.own.set hi x⟩
theorem TI.below (h : TI w wr nd d) (hb : Below wr.heap.size wr w') : TI w w' nd d := ⟨below_step h.bel hb, h.own.below hb⟩
theorem TI.alloc (h : TI w wr nd d) (o : Obj) : TI w (wr.alloc o) nd d := h.below ((Below.refl _ _).alloc (Nat.le_refl _) _)
theorem TI.congr (h : TI w wr nd d) (e : ∀ i, i < nd → d i = d' i) : TI w wr nd d' := ⟨h.bel, h.own.congr e⟩
end
/-- The rows of one street's ways. -/
structure WI (wr : World) (p : Nat) (x0 x1 x2 : Int) : Prop where
  st : Row wr p [.int .i64 x0, .int .i64 x1, .int .i64 x2]
  ws : Row wr (p + 1) [.int .i64 x0, .int .i64 x1, .int .i64 x1, .int .i64 x0]
theorem WI.far {wr : World} {p : Nat} {x0 x1 x2 : Int} (h : WI wr p x0 x1 x2) {q : Addr} (hq : q.block < p) (u : Value) : WI (wr.setCell q u) p x0 x1 x2 := ⟨h.st.far (by omega) _, h.ws.far (by omega) _⟩
theorem WI.below {wr w' : World} {p : Nat} {x0 x1 x2 : Int} (h : WI wr p x0 x1 x2) (hb : Below wr.heap.size wr w') : WI w' p x0 x1 x2 := ⟨h.st.below hb, h.ws.below hb⟩
theorem WI.new (wr : World) (x0 x1 x2 : Int) (t0 t1 : TypeId) :
    WI ((wr.alloc (.cells #[.int .i64 x0, .int .i64 x1, .int .i64 x2] t0)).alloc (.cells #[.int .i64 x0, .int .i64 x1, .int .i64 x1, .int .i64 x0] t1)) wr.heap.size x0 x1 x2 := by
  refine ⟨(Row.new _ _ _).alloc _, ?_⟩
  have := Row.new (wr.alloc (.cells #[.int .i64 x0, .int .i64 x1, .int .i64 x2] t0)) #[.int .i64 x0, .int .i64 x1, .int .i64 x1, .int .i64 x0] t1
  simpa using this

end Go.Proofs.YtnbiknaihogknaaDoor

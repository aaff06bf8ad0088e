/- A list of integers written out in a call, made in a region that draws its order. -/
import Derived.Test.YtfcpgpmhjadanaaDrawA
import Derived.Test.YtfcpgpmhjadanaaRegX
namespace Go.Proofs.Ytfcpgpmhjadanaa
open Go.RowKit
set_option linter.unusedVariables false

theorem wp_of_run {P : Program} {Q : Exit → Act → World → Prop} {o : Oper} {a : Act} {w w' : World} {K : Act → World → Prop} {v : Value} (hrun : (execOp a.eval o).run P w = .ok (.value v) w') (h : K (a.put o.dst v) w') : Oper.wp P o a w K Q := by
  unfold Oper.wp
  rw [hrun]
  exact h
theorem run_ints3 (a b c : Int) (w : World) : (Instr.buildSlice 28 3 #[(0, .int .i64 a), (1, .int .i64 b), (2, .int .i64 c)]).run Try.prog w = .ok (.slice (some ⟨w.heap.size, 0, none⟩) 3 3) (w.alloc (.cells #[.int .i64 a, .int .i64 b, .int .i64 c] 3)) := by kernel_rfl
theorem wp_ints3 {Q : Exit → Act → World → Prop} {o : Oper} {ac : Act} {w : World} {K : Act → World → Prop} (a b c : Int) (x0 x1 x2 : Operand) (ho : o.op = .buildSlice 28 3 #[(0, x0), (1, x1), (2, x2)]) (e0 : ac.eval x0 = .int .i64 a) (e1 : ac.eval x1 = .int .i64 b) (e2 : ac.eval x2 = .int .i64 c) (h : K (ac.put o.dst (.slice (some ⟨w.heap.size, 0, none⟩) 3 3)) (w.alloc (.cells #[.int .i64 a, .int .i64 b, .int .i64 c] 3))) : Oper.wp Try.prog o ac w K Q := by
  refine wp_of_run ?_ h
  have := run_ints3 a b c w
  unfold execOp
  simp only [ho, List.map_toArray, List.map_cons, List.map_nil, e0, e1, e2, Sem.run_bind, this, Result.andThen_ok, Sem.run_pure]
theorem run_ints5 (a b c d e : Int) (w : World) : (Instr.buildSlice 28 5 #[(0, .int .i64 a), (1, .int .i64 b), (2, .int .i64 c), (3, .int .i64 d), (4, .int .i64 e)]).run Try.prog w = .ok (.slice (some ⟨w.heap.size, 0, none⟩) 5 5) (w.alloc (.cells #[.int .i64 a, .int .i64 b, .int .i64 c, .int .i64 d, .int .i64 e] 3)) := by kernel_rfl
theorem wp_ints5 {Q : Exit → Act → World → Prop} {o : Oper} {ac : Act} {w : World} {K : Act → World → Prop} (a b c d e : Int) (x0 x1 x2 x3 x4 : Operand) (ho : o.op = .buildSlice 28 5 #[(0, x0), (1, x1), (2, x2), (3, x3), (4, x4)]) (e0 : ac.eval x0 = .int .i64 a) (e1 : ac.eval x1 = .int .i64 b) (e2 : ac.eval x2 = .int .i64 c) (e3 : ac.eval x3 = .int .i64 d) (e4 : ac.eval x4 = .int .i64 e) (h : K (ac.put o.dst (.slice (some ⟨w.heap.size, 0, none⟩) 5 5)) (w.alloc (.cells #[.int .i64 a, .int .i64 b, .int .i64 c, .int .i64 d, .int .i64 e] 3))) : Oper.wp Try.prog o ac w K Q := by
  refine wp_of_run ?_ h
  have := run_ints5 a b c d e w
  unfold execOp
  simp only [ho, List.map_toArray, List.map_cons, List.map_nil, e0, e1, e2, e3, e4, Sem.run_bind, this, Result.andThen_ok, Sem.run_pure]
theorem run_ints6 (a b c d e f : Int) (w : World) : (Instr.buildSlice 28 6 #[(0, .int .i64 a), (1, .int .i64 b), (2, .int .i64 c), (3, .int .i64 d), (4, .int .i64 e), (5, .int .i64 f)]).run Try.prog w = .ok (.slice (some ⟨w.heap.size, 0, none⟩) 6 6) (w.alloc (.cells #[.int .i64 a, .int .i64 b, .int .i64 c, .int .i64 d, .int .i64 e, .int .i64 f] 3)) := by kernel_rfl
theorem wp_ints6 {Q : Exit → Act → World → Prop} {o : Oper} {ac : Act} {w : World} {K : Act → World → Prop} (a b c d e f : Int) (x0 x1 x2 x3 x4 x5 : Operand) (ho : o.op = .buildSlice 28 6 #[(0, x0), (1, x1), (2, x2), (3, x3), (4, x4), (5, x5)]) (e0 : ac.eval x0 = .int .i64 a) (e1 : ac.eval x1 = .int .i64 b) (e2 : ac.eval x2 = .int .i64 c) (e3 : ac.eval x3 = .int .i64 d) (e4 : ac.eval x4 = .int .i64 e) (e5 : ac.eval x5 = .int .i64 f) (h : K (ac.put o.dst (.slice (some ⟨w.heap.size, 0, none⟩) 6 6)) (w.alloc (.cells #[.int .i64 a, .int .i64 b, .int .i64 c, .int .i64 d, .int .i64 e, .int .i64 f] 3))) : Oper.wp Try.prog o ac w K Q := by
  refine wp_of_run ?_ h
  have := run_ints6 a b c d e f w
  unfold execOp
  simp only [ho, List.map_toArray, List.map_cons, List.map_nil, e0, e1, e2, e3, e4, e5, Sem.run_bind, this, Result.andThen_ok, Sem.run_pure]
end Go.Proofs.Ytfcpgpmhjadanaa

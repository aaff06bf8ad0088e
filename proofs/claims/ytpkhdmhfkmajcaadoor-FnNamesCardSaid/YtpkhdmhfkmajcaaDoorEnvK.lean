/- What a law's row lists gives what the program's reading of texts leans on. -/
import Derived.Test.YtpkhdmhfkmajcaaDoorParE
import Derived.Test.YtpkhdmhfkmajcaaDoorFrameS
import Derived.Test.YtpkhdmhfkmajcaaDoorRows
import Derived.Lib.LaidTab
import Derived.Stop.LaidErr
import Derived.Stop.ErrReads
import Derived.Shelf.Vars
namespace Go.Proofs.YtpkhdmhfkmajcaaDoor
open Go.ChangeShapes Go.WideShapes Go.ChangeAt Go.RowKit
set_option linter.unusedVariables false

theorem tab_head {r : List (String × DataW Unit)} {W : World} (h : laidMet Tryd.prog (("internal/strconv.uint64pow10", Rows.laid_internal_strconv_uint64pow10) :: r) W) : Tab W :=
  Lib.tabIs_of_head (g := 3) (by kernel_rfl) (t := 113) (by kernel_rfl) (e := 48) (n := 20) (by kernel_rfl) (by kernel_rfl) (by kernel_rfl) (by kernel_rfl) (show laidMet Tryd.prog (("internal/strconv.uint64pow10", Lib.tabData .u64 Lib.pow10Tab) :: r) W from h)
theorem err_row (u : TypeId) (h : Tryd.prog.typeName? 3 u = some "*errors.errorString") : u = 109 :=
  typeName_ptr_named (nm := "errors.errorString") (by rw [show "*" ++ "errors.errorString" = "*errors.errorString" from by decide]; kernel_rfl) (by kernel_rfl) (by decide) u (by rw [show "*" ++ "errors.errorString" = "*errors.errorString" from by decide]; exact h)
theorem err_head {r : List (String × DataW Unit)} {n : String} {text : List UInt8} {g : Nat} {W : World} (hg : Tryd.prog.globalNamed n = some g) (ht : (Tryd.prog.globals[g]?).map (·.type) = some 73) (h : laidMet Tryd.prog ((n, .iface "*errors.errorString" (.ptr (.agg [.lit (.string text)]))) :: r) W) : ∃ t p, W.var? Tryd.prog n = some #[.iface t p] := by
  obtain ⟨a, s, hv, -⟩ := laid_sentinel h hg ht Tryd.underlying73 err_row Tryd.underlying109 Tryd.underlying111 rfl rfl Tryd.underlying9 (by kernel_rfl) (by kernel_rfl)
  exact ⟨_, _, hv⟩
theorem errs_head {r : List (String × DataW Unit)} {W : World} (h : laidMet Tryd.prog (("strconv.ErrRange", Rows.laid_strconv_ErrRange) :: ("strconv.ErrSyntax", Rows.laid_strconv_ErrSyntax) :: r) W) : (∃ t p, W.var? Tryd.prog "strconv.ErrSyntax" = some #[.iface t p]) ∧ ∃ t p, W.var? Tryd.prog "strconv.ErrRange" = some #[.iface t p] :=
  ⟨err_head (g := 1) (by kernel_rfl) (by kernel_rfl) (laidMet.tail h), err_head (g := 2) (by kernel_rfl) (by kernel_rfl) h⟩
theorem max_shaped {W : World} (hs : W.ShapedOpen Tryd.prog) : MaxIs W :=
  cell_of_shapedOpen_int hs (g := 0) (t := 3) (k := .i64) (zero := #[.int .i64 0]) (of_decide_eq_true (by kernel_rfl)) (by kernel_rfl) rfl (by kernel_rfl) (by kernel_rfl) Tryd.underlying3
end Go.Proofs.YtpkhdmhfkmajcaaDoor

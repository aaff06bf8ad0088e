/- What a law's row lists gives what the program's reading of numbers leans on. -/
import Derived.Test.YtpkhdmhfkmajcaaDoorEnvK
namespace Go.Proofs.YtpkhdmhfkmajcaaDoor
open Go.ChangeShapes Go.WideShapes Go.ChangeAt Go.RowKit
set_option linter.unusedVariables false

theorem env_a {W : World} (h : laidMetH Tryd.prog [("math/bits.deBruijn32tab", Rows.laid_math_bits_deBruijn32tab), ("math/bits.deBruijn64tab", Rows.laid_math_bits_deBruijn64tab), ("internal/strconv.uint64pow10", Rows.laid_internal_strconv_uint64pow10), ("strconv.ErrRange", Rows.laid_strconv_ErrRange), ("strconv.ErrSyntax", Rows.laid_strconv_ErrSyntax)] W) (hs : W.ShapedOpen Tryd.prog) : TxtEnv W := by
  rw [MakeChecks.laidMetH_plain _ _ _ (by kernel_rfl)] at h
  have h2 := laidMet.tail (laidMet.tail h)
  have h3 := errs_head (laidMet.tail h2)
  exact ⟨⟨tab_head h2, h3.1, h3.2⟩, max_shaped hs⟩
end Go.Proofs.YtpkhdmhfkmajcaaDoor

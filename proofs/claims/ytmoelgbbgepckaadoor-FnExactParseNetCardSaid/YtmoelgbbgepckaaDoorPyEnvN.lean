/- What a law's row lists gives what the program's reading of words leans on. -/
import Derived.Test.YtmoelgbbgepckaaDoorPyEnvK
import Derived.Test.YtmoelgbbgepckaaDoorPyParW
import Derived.Lib.LaidU8
namespace Go.Proofs.YtmoelgbbgepckaaDoor
open Go.ChangeShapes Go.WideShapes Go.ChangeAt Go.RowKit
set_option linter.unusedVariables false

theorem asc_head {r : List (String × DataW Unit)} {W : World} (h : laidMet Tryd.prog (("strings.asciiSpace", Rows.laid_strings_asciiSpace) :: r) W) : Lib.TabIs Tryd.prog W "strings.asciiSpace" .u8 Lib.asciiSpaceTab :=
  Lib.tabIs_of_head (g := 0) (by kernel_rfl) (t := 162) (by kernel_rfl) (e := 5) (n := 256) (by kernel_rfl) (by kernel_rfl) (by kernel_rfl) (by kernel_rfl) (by
    have e : (Rows.laid_strings_asciiSpace : DataW Unit) = Lib.tabData .u8 Lib.asciiSpaceTab := by kernel_rfl
    rw [← e]; exact h)
theorem wht_head {r : List (String × DataW Unit)} {W : World} (h : laidMet Tryd.prog (("unicode.White_Space", Rows.laid_unicode_White_Space) :: r) W) : Lib.WhiteTab 1 W := by
  have e : (Rows.laid_unicode_White_Space : DataW Unit) = Lib.whiteData := by kernel_rfl
  rw [e] at h
  exact whiteTab_of_reads Tryd.lays199 ⟨by kernel_rfl, by kernel_rfl, by kernel_rfl, by kernel_rfl, by kernel_rfl, by kernel_rfl, by kernel_rfl, by kernel_rfl⟩ (Lib.laidMet.reads h (List.mem_cons_self ..))
theorem env_n {W : World} (h : laidMetH Tryd.prog [("math/bits.deBruijn32tab", Rows.laid_math_bits_deBruijn32tab), ("math/bits.deBruijn64tab", Rows.laid_math_bits_deBruijn64tab), ("internal/strconv.uint64pow10", Rows.laid_internal_strconv_uint64pow10), ("unicode/utf8.acceptRanges", Rows.laid_unicode_utf8_acceptRanges), ("strconv.ErrRange", Rows.laid_strconv_ErrRange), ("strconv.ErrSyntax", Rows.laid_strconv_ErrSyntax), ("unicode.White_Space", Rows.laid_unicode_White_Space), ("strings.asciiSpace", Rows.laid_strings_asciiSpace), ("unicode/utf8.first", Rows.laid_unicode_utf8_first)] W) (hs : W.ShapedOpen Tryd.prog) : WrdEnv W := by
  rw [MakeChecks.laidMetH_plain _ _ _ (by kernel_rfl)] at h
  have h3 := errs_head (laidMet.tail (laidMet.tail (laidMet.tail (laidMet.tail h))))
  exact ⟨⟨⟨tab_head (laidMet.tail (laidMet.tail h)), h3.1, h3.2⟩, max_shaped hs⟩, asc_head (laidMet.tail (laidMet.tail (laidMet.tail (laidMet.tail (laidMet.tail (laidMet.tail (laidMet.tail h))))))), wht_head (laidMet.tail (laidMet.tail (laidMet.tail (laidMet.tail (laidMet.tail (laidMet.tail h))))))⟩
end Go.Proofs.YtmoelgbbgepckaaDoor

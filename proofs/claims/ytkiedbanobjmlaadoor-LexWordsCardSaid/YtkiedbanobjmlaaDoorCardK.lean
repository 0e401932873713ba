/- The premises that LexBack and LexWords ask for: the table of trailing zeros too. -/
import Derived.Test.YtkiedbanobjmlaaDoorCard0
import Derived.Test.YtkiedbanobjmlaaDoorL25
set_option linter.unusedSimpArgs false
set_option linter.unusedVariables false
namespace Go.Proofs.YtkiedbanobjmlaaDoor.Lx
open Go.RowKit
open Pl

def db64 : List Int := [0, 1, 56, 2, 57, 49, 28, 3, 61, 58, 42, 50, 38, 29, 17, 4, 62, 47, 59, 36, 45, 43, 51, 22, 53, 39, 33, 30, 24, 18, 12, 5, 63, 55, 48, 27, 60, 41, 37, 16, 46, 35, 44, 21, 52, 32, 23, 11, 54, 26, 40, 15, 34, 20, 31, 10, 25, 14, 19, 9, 13, 8, 7, 6]
theorem gDb : Tryd.prog.globalNamed "math/bits.deBruijn64tab" = some 5 := by kernel_rfl
theorem gDbType : (Tryd.prog.globals[5]?).map (·.type) = some 122 := by kernel_rfl
theorem cellsDb : Tryd.prog.cellsOf 122 = 64 := by kernel_rfl
theorem cellsU8 : Tryd.prog.cellsOf 5 = 1 := by kernel_rfl
theorem envK {W : World} (h : laidMetH Tryd.prog Rows.lexScansRow.laid W) (hS : W.ShapedOpen Tryd.prog) : EnvK W := by
  have h' : laidMet Tryd.prog [("math/bits.deBruijn32tab", Rows.laid_math_bits_deBruijn32tab), ("math/bits.deBruijn64tab", Rows.laid_math_bits_deBruijn64tab), ("internal/strconv.uint64pow10", Rows.laid_internal_strconv_uint64pow10), ("strconv.ErrRange", Rows.laid_strconv_ErrRange), ("strconv.ErrSyntax", Rows.laid_strconv_ErrSyntax)] W := h
  have t : Lib.TabIs Tryd.prog W "math/bits.deBruijn64tab" .u8 db64 := Lib.tabIs_of_head (rest := [("internal/strconv.uint64pow10", Rows.laid_internal_strconv_uint64pow10), ("strconv.ErrRange", Rows.laid_strconv_ErrRange), ("strconv.ErrSyntax", Rows.laid_strconv_ErrSyntax)]) gDb gDbType Tryd.underlying122 Tryd.underlying5 cellsU8 cellsDb h'.tail
  exact ⟨envJ h hS, t.cell gDb 7 (by decide)⟩
end Go.Proofs.YtkiedbanobjmlaaDoor.Lx

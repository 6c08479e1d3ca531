/- The library's two errors stand where a row lists them. -/
import Derived.Test.YtpmelhkhmichcaaDoorRdB
import Derived.Test.YtpmelhkhmichcaaDoorRows
import Derived.LaidMore
import Derived.Lay
import Derived.Stop.LaidErr
import Derived.MakeChecks
namespace Go.Proofs.YtpmelhkhmichcaaDoor
set_option linter.unusedSimpArgs false
set_option linter.unusedVariables false
open Go.ChangeShapes Go.WideShapes Go.ChangeAt Go.RowKit

theorem gRange : Tryd.prog.globalNamed "strconv.ErrRange" = some 1 := by kernel_rfl
theorem gSyntax : Tryd.prog.globalNamed "strconv.ErrSyntax" = some 0 := by kernel_rfl
theorem gRangeType : (Tryd.prog.globals[1]?).map (·.type) = some 66 := by kernel_rfl
theorem gSyntaxType : (Tryd.prog.globals[0]?).map (·.type) = some 66 := by kernel_rfl
theorem esCells : Tryd.prog.cellsOf 122 = 1 := by kernel_rfl
theorem strCells : Tryd.prog.cellsOf 9 = 1 := by kernel_rfl
theorem esStar : "*" ++ "errors.errorString" = "*errors.errorString" := by decide
theorem esRow (u : TypeId) (h : Tryd.prog.typeName? 3 u = some "*errors.errorString") : u = 120 :=
  typeName_ptr_named (nm := "errors.errorString") (by rw [esStar]; kernel_rfl) (by kernel_rfl) (by decide) u (by rw [esStar]; exact h)
theorem evw_of {W : World} (h : laidMetH Tryd.prog Rows.fnExactReadRuleRow.laid W) : EvW W := by
  rw [MakeChecks.laidMetH_plain _ _ _ (by kernel_rfl)] at h
  have h1 : laidMet Tryd.prog [("math/bits.deBruijn32tab", Rows.laid_math_bits_deBruijn32tab), ("math/bits.deBruijn64tab", Rows.laid_math_bits_deBruijn64tab), ("internal/strconv.uint64pow10", Rows.laid_internal_strconv_uint64pow10), ("unicode/utf8.acceptRanges", Rows.laid_unicode_utf8_acceptRanges), ("strconv.ErrRange", Rows.laid_strconv_ErrRange), ("strconv.ErrSyntax", Rows.laid_strconv_ErrSyntax), ("unicode/utf8.first", Rows.laid_unicode_utf8_first)] W := h
  have h2 := h1.tail.tail.tail.tail
  obtain ⟨a0, s0, hv0, _⟩ := laid_sentinel h2 gRange gRangeType Tryd.underlying66 esRow Tryd.underlying120 Tryd.underlying122 rfl rfl Tryd.underlying9 esCells strCells
  obtain ⟨a1, s1, hv1, _⟩ := laid_sentinel h2.tail gSyntax gSyntaxType Tryd.underlying66 esRow Tryd.underlying120 Tryd.underlying122 rfl rfl Tryd.underlying9 esCells strCells
  have c0 := World.var?_cell gRange hv0 0
  have c1 := World.var?_cell gSyntax hv1 0
  simp at c0 c1
  exact ⟨⟨_, c1, .inr ⟨_, _, rfl⟩⟩, _, c0, .inr ⟨_, _, rfl⟩⟩
end Go.Proofs.YtpmelhkhmichcaaDoor

import Derived.Test.YtebegohhjdllpaaGreatDoorRows
import Derived.LaidByTextLater
import Derived.SevenTiedAt
import Derived.LaidSub
import Derived.LaidOnce
namespace Go.Proofs.YtebegohhjdllpaaGreatDoor
open Go
set_option maxRecDepth 100000
set_option linter.unusedVariables false
/-- The twelve variables that the row lists and the text itself lays. -/
noncomputable def L12 : List (String × DataW Unit) := [("math/bits.deBruijn32tab", Rows.laid_math_bits_deBruijn32tab), ("math/bits.deBruijn64tab", Rows.laid_math_bits_deBruijn64tab), ("internal/strconv.uint64pow10", Rows.laid_internal_strconv_uint64pow10), ("unicode/utf8.acceptRanges", Rows.laid_unicode_utf8_acceptRanges), ("strconv.ErrRange", Rows.laid_strconv_ErrRange), ("strconv.ErrSyntax", Rows.laid_strconv_ErrSyntax), ("tithing/expr.table", Rows.laid_tithing_expr_table), ("tithing/check.truth", Rows.laid_tithing_check_truth), ("tithing/check.cash", Rows.laid_tithing_check_cash), ("tithing/check.days", Rows.laid_tithing_check_days), ("tithing/check.plain", Rows.laid_tithing_check_plain), ("tithing/statute.cash", Rows.laid_tithing_statute_cash)]
theorem lname : Tryz.prog.funcNamed "gosem.cut.vars" = some 874 := by kernel_rfl
theorem lid : varsId Tryz.prog = 874 := by
  unfold varsId
  rw [lname]
  rfl
theorem lw1 : Tryz.prog.worded (varsWordLater true) = true := by kernel_rfl
theorem lw2 : Tryz.prog.worded (varsWordLater !true) = false := by kernel_rfl
theorem lw3 : Tryz.prog.worded rootWordLater = true := by kernel_rfl
theorem lk : L12.map (fun x => Tryz.prog.kindOfLater x.1) = ([.data, .data, .data, .data, .sentinel, .sentinel, .widerDeep, .data, .data, .data, .data, .data] : List LaidKind).map some := by kernel_rfl
theorem ln : varsNamedLaterB Tryz.prog (varsId Tryz.prog) L12 = true := by
  rw [lid]
  kernel_rfl
end Go.Proofs.YtebegohhjdllpaaGreatDoor

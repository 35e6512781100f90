/-
  The tie of FlowNothing's row to the program's text, part D: it proves closed facts by the kernel. No conditions.
-/
import Derived.Test.YtgfbjbdfckgdjaaGreatDoorFL
import Derived.Test.YtgfbjbdfckgdjaaGreatDoorRows
import Derived.LaidByTextLater
import Derived.SevenTiedAt
import Derived.LaidSub
import Derived.LaidOnce
set_option linter.unusedSimpArgs false
set_option linter.unusedVariables false
namespace Go.Proofs.YtgfbjbdfckgdjaaGreatDoor
open Go
set_option maxRecDepth 100000
abbrev tieList : List (String × DataW Unit) := [("math/bits.deBruijn32tab", Rows.laid_math_bits_deBruijn32tab), ("math/bits.deBruijn64tab", Rows.laid_math_bits_deBruijn64tab), ("internal/strconv.uint64pow10", Rows.laid_internal_strconv_uint64pow10), ("unicode/utf8.acceptRanges", Rows.laid_unicode_utf8_acceptRanges), ("strconv.ErrRange", Rows.laid_strconv_ErrRange), ("strconv.ErrSyntax", Rows.laid_strconv_ErrSyntax)]
theorem tie_hw : Tryz.prog.worded (varsWordLater true) = true := by
  unfold Program.worded
  rw [← Array.any_toList]; kernel_rfl
theorem tie_hv : Tryz.prog.worded (varsWordLater !true) = false := by
  unfold Program.worded
  rw [← Array.any_toList]; kernel_rfl
theorem tie_hroot : Tryz.prog.worded rootWordLater = true := by
  unfold Program.worded
  rw [← Array.any_toList]; kernel_rfl
theorem tie_hk : (tieList : List (String × DataW Unit)).map (fun x => Tryz.prog.kindOfLater x.1) = ([.data, .data, .data, .data, .sentinel, .sentinel] : List LaidKind).map some := by kernel_rfl
theorem tie_hg : Tryz.prog.funcNamed "gosem.cut.vars" = some 1015 := by
  rw [funcNamed_list]; kernel_rfl
theorem tie_hn : varsNamedLaterB Tryz.prog 1015 tieList = true := by kernel_rfl
theorem tie_hp : (tieList.all fun x => x.2.handleName?.isNone) = true := by kernel_rfl
end Go.Proofs.YtgfbjbdfckgdjaaGreatDoor

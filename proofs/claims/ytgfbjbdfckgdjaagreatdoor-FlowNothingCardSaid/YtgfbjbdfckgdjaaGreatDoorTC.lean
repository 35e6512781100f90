/-
  The tie of FlowNothing's row to the program's text, part C: it proves closed facts by the kernel. No conditions.
-/
import Derived.Test.YtgfbjbdfckgdjaaGreatDoorTA
import Derived.Test.YtgfbjbdfckgdjaaGreatDoorTB
set_option linter.unusedSimpArgs false
set_option linter.unusedVariables false
namespace Go.Proofs.YtgfbjbdfckgdjaaGreatDoor
open Go
set_option maxRecDepth 100000
theorem flowNothing_row_tie : Rows.flowNothingRow.laidByTextAt .later Tryz.pinned [.data, .data, .data, .data, .sentinel, .sentinel, .pinned] true :=
  OpenClaim.laidByTextAt_pinned rfl rfl tie rfl rfl rfl rfl (fun y hy _e => by
    simp only [Rows.flowNothingRow, List.zip_cons_cons, List.zip_nil_right, List.mem_cons, List.mem_nil_iff, or_false] at hy
    rcases hy with rfl | rfl | rfl | rfl | rfl | rfl | rfl
    · cases _e
    · cases _e
    · cases _e
    · cases _e
    · cases _e
    · cases _e
    · exact ⟨pin_laid_unicode_utf8_first, by kernel_rfl⟩) fits1
end Go.Proofs.YtgfbjbdfckgdjaaGreatDoor

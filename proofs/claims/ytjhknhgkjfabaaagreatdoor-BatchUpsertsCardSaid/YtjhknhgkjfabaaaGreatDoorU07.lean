/-
 The tie of BatchUpserts's row to the program's text, part C: it proves closed facts by the kernel. No conditions.
-/
import Derived.Test.YtjhknhgkjfabaaaGreatDoorU05
import Derived.Test.YtjhknhgkjfabaaaGreatDoorU06
set_option linter.unusedSimpArgs false
set_option linter.unusedVariables false
set_option linter.unusedSimpArgs false
set_option linter.unusedVariables false
namespace Go.Proofs.YtjhknhgkjfabaaaGreatDoor
open Go
set_option maxRecDepth 100000
theorem batchUpserts_row_tie : Rows.batchUpsertsRow.laidByTextAt .later Tryz.pinned [.sentinel, .sentinel, .data, .data, .data, .pinned, .data] true :=
  OpenClaim.laidByTextAt_pinned rfl rfl tie rfl rfl rfl rfl (fun y hy _e => by
    simp only [Rows.batchUpsertsRow, List.zip_cons_cons, List.zip_nil_right, List.mem_cons, List.mem_nil_iff, or_false] at hy
    rcases hy with rfl | rfl | rfl | rfl | rfl | rfl | rfl
    · cases _e
    · cases _e
    · cases _e
    · cases _e
    · cases _e
    · exact ⟨pin_laid_unicode_utf8_first, by kernel_rfl⟩
    · cases _e) fits1
end Go.Proofs.YtjhknhgkjfabaaaGreatDoor

/-
 The tie of BatchUpserts's row to the program's text, part F: it proves closed facts by the kernel. No conditions.
-/
import Derived.Test.YtjhknhgkjfabaaaGreatDoorU01
set_option linter.unusedSimpArgs false
set_option linter.unusedVariables false
set_option linter.unusedSimpArgs false
set_option linter.unusedVariables false
namespace Go.Proofs.YtjhknhgkjfabaaaGreatDoor
open Go
set_option maxRecDepth 100000
theorem tie_h1 : ∀ os tape, (DataW.laidRun Tryz.prog (varsWorld Tryz.prog 400 (varsId Tryz.prog) os tape).memory 8 (tieList.map (·.1))).map (·.1) = some tieList := fun _ _ => by kernel_rfl
end Go.Proofs.YtjhknhgkjfabaaaGreatDoor

/-
 The tie of BatchUpserts's row to the program's text, part E: it proves closed facts by the kernel. No conditions.
-/
import Derived.Test.YtjhknhgkjfabaaaGreatDoorU01
set_option linter.unusedSimpArgs false
set_option linter.unusedVariables false
set_option linter.unusedSimpArgs false
set_option linter.unusedVariables false
namespace Go.Proofs.YtjhknhgkjfabaaaGreatDoor
open Go
set_option maxRecDepth 100000
theorem tie_hd : ∀ os tape, varsDone Tryz.prog 400 (varsId Tryz.prog) os tape = true := fun _ _ => by kernel_rfl
end Go.Proofs.YtjhknhgkjfabaaaGreatDoor

/-
  The tie of NodeNil's row to the program's text, part E: it proves closed facts by the kernel. No conditions.
-/
import Derived.Test.YtjmiegmeekpdcaaGreatDoorTD
set_option linter.unusedSimpArgs false
set_option linter.unusedVariables false
namespace Go.Proofs.YtjmiegmeekpdcaaGreatDoor
open Go
set_option maxRecDepth 100000
theorem tie_hd : ∀ os tape, varsDone Tryz.prog 400 (varsId Tryz.prog) os tape = true := fun _ _ => by kernel_rfl
end Go.Proofs.YtjmiegmeekpdcaaGreatDoor

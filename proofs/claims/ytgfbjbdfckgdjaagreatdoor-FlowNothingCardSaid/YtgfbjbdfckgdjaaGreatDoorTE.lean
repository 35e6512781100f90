/-
  The tie of FlowNothing's row to the program's text, part E: it proves closed facts by the kernel. No conditions.
-/
import Derived.Test.YtgfbjbdfckgdjaaGreatDoorTD
set_option linter.unusedSimpArgs false
set_option linter.unusedVariables false
namespace Go.Proofs.YtgfbjbdfckgdjaaGreatDoor
open Go
set_option maxRecDepth 100000
theorem tie_hd : ∀ os tape, varsDone Tryz.prog 72 1015 os tape = true := fun _ _ => by kernel_rfl
end Go.Proofs.YtgfbjbdfckgdjaaGreatDoor

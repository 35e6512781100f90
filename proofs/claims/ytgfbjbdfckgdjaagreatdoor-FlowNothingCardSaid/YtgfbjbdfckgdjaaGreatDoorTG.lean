/-
  The tie of FlowNothing's row to the program's text, part G: it proves closed facts by the kernel. No conditions.
-/
import Derived.Test.YtgfbjbdfckgdjaaGreatDoorTD
set_option linter.unusedSimpArgs false
set_option linter.unusedVariables false
namespace Go.Proofs.YtgfbjbdfckgdjaaGreatDoor
open Go
set_option maxRecDepth 100000
theorem tie_h2 : ∀ os tape, (DataW.laidRun Tryz.prog (varsWorld Tryz.prog 72 1015 os tape).memory 8 (tieList.map (·.1))).map (fun x => decide x.2.Nodup && laidRowsB Tryz.prog (varsWorld Tryz.prog 72 1015 os tape).memory x.2) = some true := fun _ _ => by kernel_rfl
end Go.Proofs.YtgfbjbdfckgdjaaGreatDoor

/-
  The tie of FlowNothing's row to the program's text, part A: it proves closed facts by the kernel. No conditions.
-/
import Derived.Test.YtgfbjbdfckgdjaaGreatDoorTE
import Derived.Test.YtgfbjbdfckgdjaaGreatDoorTF
import Derived.Test.YtgfbjbdfckgdjaaGreatDoorTG
set_option linter.unusedSimpArgs false
set_option linter.unusedVariables false
namespace Go.Proofs.YtgfbjbdfckgdjaaGreatDoor
open Go
set_option maxRecDepth 100000
theorem tie : Tryz.prog.laidByTextLater tieList [.data, .data, .data, .data, .sentinel, .sentinel] true :=
  Program.laidByTextLater_of_run 1015 72 8 tie_hw tie_hv tie_hroot tie_hk tie_hg tie_hn tie_hd tie_h1 tie_h2 tie_hp
end Go.Proofs.YtgfbjbdfckgdjaaGreatDoor

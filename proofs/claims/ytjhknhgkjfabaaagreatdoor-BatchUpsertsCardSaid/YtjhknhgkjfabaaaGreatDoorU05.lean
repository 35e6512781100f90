/-
 The tie of BatchUpserts's row to the program's text, part A: it proves closed facts by the kernel. No conditions.
-/
import Derived.Test.YtjhknhgkjfabaaaGreatDoorU02
import Derived.Test.YtjhknhgkjfabaaaGreatDoorU03
import Derived.Test.YtjhknhgkjfabaaaGreatDoorU04
set_option linter.unusedSimpArgs false
set_option linter.unusedVariables false
set_option linter.unusedSimpArgs false
set_option linter.unusedVariables false
namespace Go.Proofs.YtjhknhgkjfabaaaGreatDoor
open Go
set_option maxRecDepth 100000
theorem tie : Tryz.prog.laidByTextLater tieList [.sentinel, .sentinel, .data, .data, .data, .data] true :=
  Program.laidByTextLater_by_run 400 8 tie_hw tie_hv tie_hroot tie_hk tie_hg tie_hn tie_hd tie_h1 tie_h2 tie_hp
end Go.Proofs.YtjhknhgkjfabaaaGreatDoor

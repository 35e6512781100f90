/-
 BatchUpserts' example, part 2: it proves that the call of 'awake' returns true, in whatever world. No conditions.
-/
import Derived.Test.YtjhknhgkjfabaaaGreatDoorU30
set_option linter.unusedSimpArgs false
set_option linter.unusedVariables false
namespace Go.Proofs.YtjhknhgkjfabaaaGreatDoor
open Go.RowKit
set_option maxHeartbeats 1000000
set_option maxRecDepth 100000

theorem f5_any (hm : Tryz.prog.follows .mixedOrders = true) (w : World) : Calls Tryz.prog 5 #[] w fun e w' => e = .returned (.bool true) ∧ Below w.heap.size w w' :=
  Ev.callsM_true hm (memos_ok hm) (fuel := 5000) (d := 60) (by kernel_rfl) w
end Go.Proofs.YtjhknhgkjfabaaaGreatDoor

/-
  FlowNothing's example, part 8: what the evaluator says of some of its calls. No conditions.
-/
import Derived.Test.YtgfbjbdfckgdjaaGreatDoorND2
namespace Go.Proofs.YtgfbjbdfckgdjaaGreatDoor
open Go.RowKit Go
set_option maxHeartbeats 1000000
set_option maxRecDepth 100000

theorem m113_says : m113.says (Ev.ofProgV Tryz.prog V0 none) [] 5000 60 = true := by kernel_rfl
theorem m114_says : m114.says (Ev.ofProgV Tryz.prog V0 none) [] 5000 60 = true := by kernel_rfl
theorem m115_says : m115.says (Ev.ofProgV Tryz.prog V0 none) [] 5000 60 = true := by kernel_rfl
theorem m116_says : m116.saysN (Ev.ofProgV Tryz.prog V0 none) [] 5000 60 [120, 125, 867, 842, 132, 169, 201, 252, 318, 349, 202, 346] [[], [], [], [], [], []] = true := by kernel_rfl
theorem m117_says : m117.says (Ev.ofProgV Tryz.prog V0 none) [m116] 5000 60 = true := by kernel_rfl
theorem m118_says : m118.says (Ev.ofProgV Tryz.prog V0 none) [m117] 5000 60 = true := by kernel_rfl
theorem m119_says : m119.says (Ev.ofProgV Tryz.prog V0 none) [m110, m111, m112, m113, m114, m115, m118] 5000 60 = true := by kernel_rfl
theorem m120_says : m120.saysN (Ev.ofProgV Tryz.prog V0 none) [] 5000 60 [120, 125, 867, 842, 132, 169, 201, 252, 318, 349, 202, 346] [[], []] = true := by kernel_rfl
theorem m121_says : m121.says (Ev.ofProgV Tryz.prog V0 none) [m120] 5000 60 = true := by kernel_rfl
end Go.Proofs.YtgfbjbdfckgdjaaGreatDoor

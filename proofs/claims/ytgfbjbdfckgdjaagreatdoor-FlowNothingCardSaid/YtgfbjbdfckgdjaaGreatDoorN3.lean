/-
  FlowNothing's example, part 3: what the evaluator says of some of its calls. No conditions.
-/
import Derived.Test.YtgfbjbdfckgdjaaGreatDoorND2
namespace Go.Proofs.YtgfbjbdfckgdjaaGreatDoor
open Go.RowKit Go
set_option maxHeartbeats 1000000
set_option maxRecDepth 100000

theorem m33_says : m33.says (Ev.ofProgV Tryz.prog V0 none) [] 5000 60 = true := by kernel_rfl
theorem m34_says : m34.saysN (Ev.ofProgV Tryz.prog V0 none) [] 5000 60 [120, 125, 867, 842, 132, 169, 201, 252, 318, 349, 202, 346] [[], [], [], [], [], []] = true := by kernel_rfl
theorem m35_says : m35.says (Ev.ofProgV Tryz.prog V0 none) [] 5000 60 = true := by kernel_rfl
theorem m36_says : m36.says (Ev.ofProgV Tryz.prog V0 none) [m35] 5000 60 = true := by kernel_rfl
theorem m37_says : m37.says (Ev.ofProgV Tryz.prog V0 none) [m36] 5000 60 = true := by kernel_rfl
theorem m38_says : m38.says (Ev.ofProgV Tryz.prog V0 none) [m37] 5000 60 = true := by kernel_rfl
theorem m39_says : m39.says (Ev.ofProgV Tryz.prog V0 none) [] 5000 60 = true := by kernel_rfl
theorem m40_says : m40.says (Ev.ofProgV Tryz.prog V0 none) [] 5000 60 = true := by kernel_rfl
theorem m41_says : m41.says (Ev.ofProgV Tryz.prog V0 none) [m40] 5000 60 = true := by kernel_rfl
theorem m42_says : m42.says (Ev.ofProgV Tryz.prog V0 none) [m41] 5000 60 = true := by kernel_rfl
theorem m43_says : m43.says (Ev.ofProgV Tryz.prog V0 none) [m42] 5000 60 = true := by kernel_rfl
theorem m44_says : m44.says (Ev.ofProgV Tryz.prog V0 none) [] 5000 60 = true := by kernel_rfl
theorem m45_says : m45.says (Ev.ofProgV Tryz.prog V0 none) [] 5000 60 = true := by kernel_rfl
theorem m46_says : m46.says (Ev.ofProgV Tryz.prog V0 none) [m45] 5000 60 = true := by kernel_rfl
theorem m47_says : m47.says (Ev.ofProgV Tryz.prog V0 none) [m46] 5000 60 = true := by kernel_rfl
theorem m48_says : m48.says (Ev.ofProgV Tryz.prog V0 none) [m47] 5000 60 = true := by kernel_rfl
end Go.Proofs.YtgfbjbdfckgdjaaGreatDoor

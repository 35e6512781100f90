/-
  FlowNothing's example, part 5: what the evaluator says of some of its calls. No conditions.
-/
import Derived.Test.YtgfbjbdfckgdjaaGreatDoorND2
namespace Go.Proofs.YtgfbjbdfckgdjaaGreatDoor
open Go.RowKit Go
set_option maxHeartbeats 1000000
set_option maxRecDepth 100000

theorem m65_says : m65.says (Ev.ofProgV Tryz.prog V0 none) [] 5000 60 = true := by kernel_rfl
theorem m66_says : m66.says (Ev.ofProgV Tryz.prog V0 none) [m65] 5000 60 = true := by kernel_rfl
theorem m67_says : m67.says (Ev.ofProgV Tryz.prog V0 none) [m64, m66] 5000 60 = true := by kernel_rfl
theorem m68_says : m68.says (Ev.ofProgV Tryz.prog V0 none) [] 5000 60 = true := by kernel_rfl
theorem m69_says : m69.says (Ev.ofProgV Tryz.prog V0 none) [] 5000 60 = true := by kernel_rfl
theorem m70_says : m70.says (Ev.ofProgV Tryz.prog V0 none) [m69] 5000 60 = true := by kernel_rfl
theorem m71_says : m71.says (Ev.ofProgV Tryz.prog V0 none) [m68, m70] 5000 60 = true := by kernel_rfl
theorem m72_says : m72.says (Ev.ofProgV Tryz.prog V0 none) [m71] 5000 60 = true := by kernel_rfl
theorem m73_says : m73.says (Ev.ofProgV Tryz.prog V0 none) [m67, m72] 5000 60 = true := by kernel_rfl
theorem m74_says : m74.says (Ev.ofProgV Tryz.prog V0 none) [m73] 5000 60 = true := by kernel_rfl
theorem m75_says : m75.says (Ev.ofProgV Tryz.prog V0 none) [] 5000 60 = true := by kernel_rfl
theorem m76_says : m76.saysN (Ev.ofProgV Tryz.prog V0 none) [] 5000 60 [120, 125, 867, 842, 132, 169, 201, 252, 318, 349, 202, 346] [[], []] = true := by kernel_rfl
theorem m77_says : m77.says (Ev.ofProgV Tryz.prog V0 none) [m76] 5000 60 = true := by kernel_rfl
theorem m78_says : m78.says (Ev.ofProgV Tryz.prog V0 none) [] 5000 60 = true := by kernel_rfl
theorem m79_says : m79.says (Ev.ofProgV Tryz.prog V0 none) [] 5000 60 = true := by kernel_rfl
theorem m80_says : m80.saysN (Ev.ofProgV Tryz.prog V0 none) [] 5000 60 [120, 125, 867, 842, 132, 169, 201, 252, 318, 349, 202, 346] [[], []] = true := by kernel_rfl
end Go.Proofs.YtgfbjbdfckgdjaaGreatDoor

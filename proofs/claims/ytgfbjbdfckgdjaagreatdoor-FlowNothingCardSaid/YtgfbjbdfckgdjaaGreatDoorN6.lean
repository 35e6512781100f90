/-
  FlowNothing's example, part 6: what the evaluator says of some of its calls. No conditions.
-/
import Derived.Test.YtgfbjbdfckgdjaaGreatDoorND2
namespace Go.Proofs.YtgfbjbdfckgdjaaGreatDoor
open Go.RowKit Go
set_option maxHeartbeats 1000000
set_option maxRecDepth 100000

theorem m81_says : m81.says (Ev.ofProgV Tryz.prog V0 none) [m80] 5000 60 = true := by kernel_rfl
theorem m82_says : m82.says (Ev.ofProgV Tryz.prog V0 none) [] 5000 60 = true := by kernel_rfl
theorem m83_says : m83.says (Ev.ofProgV Tryz.prog V0 none) [] 5000 60 = true := by kernel_rfl
theorem m84_says : m84.says (Ev.ofProgV Tryz.prog V0 none) [m83] 5000 60 = true := by kernel_rfl
theorem m85_says : m85.says (Ev.ofProgV Tryz.prog V0 none) [m84] 5000 60 = true := by kernel_rfl
theorem m86_says : m86.says (Ev.ofProgV Tryz.prog V0 none) [] 5000 60 = true := by kernel_rfl
theorem m87_says : m87.says (Ev.ofProgV Tryz.prog V0 none) [] 5000 60 = true := by kernel_rfl
theorem m88_says : m88.says (Ev.ofProgV Tryz.prog V0 none) [] 5000 60 = true := by kernel_rfl
theorem m89_says : m89.says (Ev.ofProgV Tryz.prog V0 none) [] 5000 60 = true := by kernel_rfl
theorem m90_says : m90.says (Ev.ofProgV Tryz.prog V0 none) [] 5000 60 = true := by kernel_rfl
theorem m91_says : m91.says (Ev.ofProgV Tryz.prog V0 none) [m90] 5000 60 = true := by kernel_rfl
theorem m92_says : m92.says (Ev.ofProgV Tryz.prog V0 none) [m91] 5000 60 = true := by kernel_rfl
theorem m93_says : m93.says (Ev.ofProgV Tryz.prog V0 none) [] 5000 60 = true := by kernel_rfl
theorem m94_says : m94.says (Ev.ofProgV Tryz.prog V0 none) [] 5000 60 = true := by kernel_rfl
theorem m95_says : m95.saysN (Ev.ofProgV Tryz.prog V0 none) [] 5000 60 [120, 125, 867, 842, 132, 169, 201, 252, 318, 349, 202, 346] [[], [(8413, 1, 8418), (8418, 1, 8413)]] = true := by kernel_rfl
theorem m96_says : m96.saysN (Ev.ofProgV Tryz.prog V0 none) [] 5000 60 [120, 125, 867, 842, 132, 169, 201, 252, 318, 349, 202, 346] [[], []] = true := by kernel_rfl
end Go.Proofs.YtgfbjbdfckgdjaaGreatDoor

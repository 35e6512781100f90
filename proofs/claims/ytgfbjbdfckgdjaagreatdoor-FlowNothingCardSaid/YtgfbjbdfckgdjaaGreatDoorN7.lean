/-
  FlowNothing's example, part 7: what the evaluator says of some of its calls. No conditions.
-/
import Derived.Test.YtgfbjbdfckgdjaaGreatDoorND2
namespace Go.Proofs.YtgfbjbdfckgdjaaGreatDoor
open Go.RowKit Go
set_option maxHeartbeats 1000000
set_option maxRecDepth 100000

theorem m97_says : m97.says (Ev.ofProgV Tryz.prog V0 none) [m95, m96] 5000 60 = true := by kernel_rfl
theorem m98_says : m98.says (Ev.ofProgV Tryz.prog V0 none) [m97] 5000 60 = true := by kernel_rfl
theorem m99_says : m99.says (Ev.ofProgV Tryz.prog V0 none) [m98] 5000 60 = true := by kernel_rfl
theorem m100_says : m100.says (Ev.ofProgV Tryz.prog V0 none) [] 5000 60 = true := by kernel_rfl
theorem m101_says : m101.says (Ev.ofProgV Tryz.prog V0 none) [] 5000 60 = true := by kernel_rfl
theorem m102_says : m102.says (Ev.ofProgV Tryz.prog V0 none) [] 5000 60 = true := by kernel_rfl
theorem m103_says : m103.says (Ev.ofProgV Tryz.prog V0 none) [] 5000 60 = true := by kernel_rfl
theorem m104_says : m104.says (Ev.ofProgV Tryz.prog V0 none) [] 5000 60 = true := by kernel_rfl
theorem m105_says : m105.says (Ev.ofProgV Tryz.prog V0 none) [] 5000 60 = true := by kernel_rfl
theorem m106_says : m106.says (Ev.ofProgV Tryz.prog V0 none) [m105] 5000 60 = true := by kernel_rfl
theorem m107_says : m107.says (Ev.ofProgV Tryz.prog V0 none) [] 5000 60 = true := by kernel_rfl
theorem m108_says : m108.says (Ev.ofProgV Tryz.prog V0 none) [m61, m62, m63, m74, m75, m77, m78, m79, m81, m82, m85, m86, m87, m88, m89, m92, m93, m94, m99, m100, m101, m102, m103, m104, m106, m107] 5000 60 = true := by kernel_rfl
theorem m109_says : m109.says (Ev.ofProgV Tryz.prog V0 none) [] 5000 60 = true := by kernel_rfl
theorem m110_says : m110.says (Ev.ofProgV Tryz.prog V0 none) [] 5000 60 = true := by kernel_rfl
theorem m111_says : m111.says (Ev.ofProgV Tryz.prog V0 none) [] 5000 60 = true := by kernel_rfl
theorem m112_says : m112.says (Ev.ofProgV Tryz.prog V0 none) [] 5000 60 = true := by kernel_rfl
end Go.Proofs.YtgfbjbdfckgdjaaGreatDoor

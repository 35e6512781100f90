/-
  FlowNothing's example, part 4: what the evaluator says of some of its calls. No conditions.
-/
import Derived.Test.YtgfbjbdfckgdjaaGreatDoorND2
namespace Go.Proofs.YtgfbjbdfckgdjaaGreatDoor
open Go.RowKit Go
set_option maxHeartbeats 1000000
set_option maxRecDepth 100000

theorem m49_says : m49.says (Ev.ofProgV Tryz.prog V0 none) [] 5000 60 = true := by kernel_rfl
theorem m50_says : m50.says (Ev.ofProgV Tryz.prog V0 none) [m34, m38, m39, m43, m44, m48, m49] 5000 60 = true := by kernel_rfl
theorem m51_says : m51.says (Ev.ofProgV Tryz.prog V0 none) [m32, m33, m50] 5000 60 = true := by kernel_rfl
theorem m52_says : m52.says (Ev.ofProgV Tryz.prog V0 none) [] 5000 60 = true := by kernel_rfl
theorem m53_says : m53.says (Ev.ofProgV Tryz.prog V0 none) [] 5000 60 = true := by kernel_rfl
theorem m54_says : m54.says (Ev.ofProgV Tryz.prog V0 none) [m53] 5000 60 = true := by kernel_rfl
theorem m55_says : m55.says (Ev.ofProgV Tryz.prog V0 none) [m52, m54] 5000 60 = true := by kernel_rfl
theorem m56_says : m56.says (Ev.ofProgV Tryz.prog V0 none) [] 5000 60 = true := by kernel_rfl
theorem m57_says : m57.says (Ev.ofProgV Tryz.prog V0 none) [] 5000 60 = true := by kernel_rfl
theorem m58_says : m58.says (Ev.ofProgV Tryz.prog V0 none) [m57] 5000 60 = true := by kernel_rfl
theorem m59_says : m59.says (Ev.ofProgV Tryz.prog V0 none) [m56, m58] 5000 60 = true := by kernel_rfl
theorem m60_says : m60.says (Ev.ofProgV Tryz.prog V0 none) [m59] 5000 60 = true := by kernel_rfl
theorem m61_says : m61.says (Ev.ofProgV Tryz.prog V0 none) [m55, m60] 5000 60 = true := by kernel_rfl
theorem m62_says : m62.says (Ev.ofProgV Tryz.prog V0 none) [] 5000 60 = true := by kernel_rfl
theorem m63_says : m63.says (Ev.ofProgV Tryz.prog V0 none) [] 5000 60 = true := by kernel_rfl
theorem m64_says : m64.says (Ev.ofProgV Tryz.prog V0 none) [] 5000 60 = true := by kernel_rfl
end Go.Proofs.YtgfbjbdfckgdjaaGreatDoor

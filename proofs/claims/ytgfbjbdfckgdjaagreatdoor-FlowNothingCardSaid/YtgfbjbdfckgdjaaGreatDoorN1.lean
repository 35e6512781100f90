/-
  FlowNothing's example, part 1: what the evaluator says of some of its calls. No conditions.
-/
import Derived.Test.YtgfbjbdfckgdjaaGreatDoorND2
namespace Go.Proofs.YtgfbjbdfckgdjaaGreatDoor
open Go.RowKit Go
set_option maxHeartbeats 1000000
set_option maxRecDepth 100000

theorem m1_says : m1.says (Ev.ofProgV Tryz.prog V0 none) [] 5000 60 = true := by kernel_rfl
theorem m2_says : m2.says (Ev.ofProgV Tryz.prog V0 none) [] 5000 60 = true := by kernel_rfl
theorem m3_says : m3.says (Ev.ofProgV Tryz.prog V0 none) [] 5000 60 = true := by kernel_rfl
theorem m4_says : m4.says (Ev.ofProgV Tryz.prog V0 none) [] 5000 60 = true := by kernel_rfl
theorem m5_says : m5.says (Ev.ofProgV Tryz.prog V0 none) [] 5000 60 = true := by kernel_rfl
theorem m6_says : m6.says (Ev.ofProgV Tryz.prog V0 none) [] 5000 60 = true := by kernel_rfl
theorem m7_says : m7.saysN (Ev.ofProgV Tryz.prog V0 none) [m5, m6] 5000 60 [120, 125, 867, 842, 132, 169, 201, 252, 318, 349, 202, 346] [[], [(858, 3, 868), (862, 1, 872), (863, 1, 862), (864, 1, 874), (865, 3, 858), (868, 1, 864), (869, 1, 866), (870, 1, 863), (872, 1, 865), (874, 1, 867)], [(851, 3, 858), (855, 1, 862), (857, 1, 864), (858, 3, 851), (862, 1, 855), (864, 1, 857)], [(851, 3, 868), (855, 1, 872), (857, 1, 874), (858, 3, 851), (862, 1, 855), (863, 1, 862), (864, 4, 857), (868, 1, 864), (869, 1, 866), (870, 1, 863), (872, 1, 865), (874, 1, 867)], [(851, 3, 861), (855, 1, 865), (856, 1, 855), (857, 4, 867), (861, 1, 857), (862, 1, 872), (863, 1, 859), (864, 1, 874), (865, 3, 851), (868, 1, 864), (869, 1, 866), (870, 1, 856), (872, 1, 858), (874, 1, 860)], [(851, 3, 868), (855, 1, 872), (856, 1, 855), (857, 1, 874), (858, 3, 861), (861, 1, 857), (862, 1, 865), (863, 1, 859), (864, 1, 867), (865, 3, 851), (868, 1, 864), (869, 1, 866), (870, 1, 856), (872, 1, 858), (874, 1, 860)]] = true := by kernel_rfl
theorem m8_says : m8.says (Ev.ofProgV Tryz.prog V0 none) [] 5000 60 = true := by kernel_rfl
theorem m9_says : m9.saysN (Ev.ofProgV Tryz.prog V0 none) [] 5000 60 [120, 125, 867, 842, 132, 169, 201, 252, 318, 349, 202, 346] [[], [], [], [], [], []] = true := by kernel_rfl
theorem m10_says : m10.says (Ev.ofProgV Tryz.prog V0 none) [] 5000 60 = true := by kernel_rfl
theorem m11_says : m11.says (Ev.ofProgV Tryz.prog V0 none) [m10] 5000 60 = true := by kernel_rfl
theorem m12_says : m12.says (Ev.ofProgV Tryz.prog V0 none) [m11] 5000 60 = true := by kernel_rfl
theorem m13_says : m13.says (Ev.ofProgV Tryz.prog V0 none) [m12] 5000 60 = true := by kernel_rfl
theorem m14_says : m14.says (Ev.ofProgV Tryz.prog V0 none) [] 5000 60 = true := by kernel_rfl
theorem m15_says : m15.says (Ev.ofProgV Tryz.prog V0 none) [] 5000 60 = true := by kernel_rfl
theorem m16_says : m16.says (Ev.ofProgV Tryz.prog V0 none) [m15] 5000 60 = true := by kernel_rfl
end Go.Proofs.YtgfbjbdfckgdjaaGreatDoor

/-
  FlowNothing's example, part 2: what the evaluator says of some of its calls. No conditions.
-/
import Derived.Test.YtgfbjbdfckgdjaaGreatDoorND2
namespace Go.Proofs.YtgfbjbdfckgdjaaGreatDoor
open Go.RowKit Go
set_option maxHeartbeats 1000000
set_option maxRecDepth 100000

theorem m17_says : m17.says (Ev.ofProgV Tryz.prog V0 none) [m16] 5000 60 = true := by kernel_rfl
theorem m18_says : m18.says (Ev.ofProgV Tryz.prog V0 none) [m17] 5000 60 = true := by kernel_rfl
theorem m19_says : m19.says (Ev.ofProgV Tryz.prog V0 none) [] 5000 60 = true := by kernel_rfl
theorem m20_says : m20.says (Ev.ofProgV Tryz.prog V0 none) [] 5000 60 = true := by kernel_rfl
theorem m21_says : m21.says (Ev.ofProgV Tryz.prog V0 none) [m20] 5000 60 = true := by kernel_rfl
theorem m22_says : m22.says (Ev.ofProgV Tryz.prog V0 none) [m21] 5000 60 = true := by kernel_rfl
theorem m23_says : m23.says (Ev.ofProgV Tryz.prog V0 none) [m22] 5000 60 = true := by kernel_rfl
theorem m24_says : m24.says (Ev.ofProgV Tryz.prog V0 none) [] 5000 60 = true := by kernel_rfl
theorem m25_says : m25.says (Ev.ofProgV Tryz.prog V0 none) [m9, m13, m14, m18, m19, m23, m24] 5000 60 = true := by kernel_rfl
theorem m26_says : m26.says (Ev.ofProgV Tryz.prog V0 none) [m7, m8, m25] 5000 60 = true := by kernel_rfl
theorem m27_says : m27.says (Ev.ofProgV Tryz.prog V0 none) [m1, m2, m3, m4, m26] 5000 60 = true := by kernel_rfl
theorem m28_says : m28.saysN (Ev.ofProgV Tryz.prog V0 none) [] 5000 60 [120, 125, 867, 842, 132, 169, 201, 252, 318, 349, 202, 346] [[], [], [], [], [], []] = true := by kernel_rfl
theorem m29_says : m29.says (Ev.ofProgV Tryz.prog V0 none) [] 5000 60 = true := by kernel_rfl
theorem m30_says : m30.says (Ev.ofProgV Tryz.prog V0 none) [] 5000 60 = true := by kernel_rfl
theorem m31_says : m31.says (Ev.ofProgV Tryz.prog V0 none) [] 5000 60 = true := by kernel_rfl
theorem m32_says : m32.saysN (Ev.ofProgV Tryz.prog V0 none) [m30, m31] 5000 60 [120, 125, 867, 842, 132, 169, 201, 252, 318, 349, 202, 346] [[], [(3065, 3, 3075), (3069, 1, 3079), (3070, 1, 3069), (3071, 1, 3081), (3072, 3, 3065), (3075, 1, 3071), (3076, 1, 3073), (3077, 1, 3070), (3079, 1, 3072), (3081, 1, 3074)], [(3058, 3, 3065), (3062, 1, 3069), (3064, 1, 3071), (3065, 3, 3058), (3069, 1, 3062), (3071, 1, 3064)], [(3058, 3, 3075), (3062, 1, 3079), (3064, 1, 3081), (3065, 3, 3058), (3069, 1, 3062), (3070, 1, 3069), (3071, 4, 3064), (3075, 1, 3071), (3076, 1, 3073), (3077, 1, 3070), (3079, 1, 3072), (3081, 1, 3074)], [(3058, 3, 3068), (3062, 1, 3072), (3063, 1, 3062), (3064, 4, 3074), (3068, 1, 3064), (3069, 1, 3079), (3070, 1, 3066), (3071, 1, 3081), (3072, 3, 3058), (3075, 1, 3071), (3076, 1, 3073), (3077, 1, 3063), (3079, 1, 3065), (3081, 1, 3067)], [(3058, 3, 3075), (3062, 1, 3079), (3063, 1, 3062), (3064, 1, 3081), (3065, 3, 3068), (3068, 1, 3064), (3069, 1, 3072), (3070, 1, 3066), (3071, 1, 3074), (3072, 3, 3058), (3075, 1, 3071), (3076, 1, 3073), (3077, 1, 3063), (3079, 1, 3065), (3081, 1, 3067)]] = true := by kernel_rfl
end Go.Proofs.YtgfbjbdfckgdjaaGreatDoor

/-
  FlowNothing's example, the end: it proves that the call of 'awake' returns true, in whatever world in which the variables that it reads are as V0 says. No conditions.
-/
import Derived.Test.YtgfbjbdfckgdjaaGreatDoorN1
import Derived.Test.YtgfbjbdfckgdjaaGreatDoorN2
import Derived.Test.YtgfbjbdfckgdjaaGreatDoorN3
import Derived.Test.YtgfbjbdfckgdjaaGreatDoorN4
import Derived.Test.YtgfbjbdfckgdjaaGreatDoorN5
import Derived.Test.YtgfbjbdfckgdjaaGreatDoorN6
import Derived.Test.YtgfbjbdfckgdjaaGreatDoorN7
import Derived.Test.YtgfbjbdfckgdjaaGreatDoorN8
namespace Go.Proofs.YtgfbjbdfckgdjaaGreatDoor
open Go.RowKit Go
set_option maxHeartbeats 1000000
set_option maxRecDepth 100000

theorem gok_V0 (hm : Tryz.prog.follows .mixedOrders = true) (hix : Ev.IxOK Tryz.prog V0 none) : Ev.GOK Tryz.prog (Ev.ofProgV Tryz.prog V0 none) := Ev.gok_ofProgV hm (by decide) hix
theorem k1 (hm : Tryz.prog.follows .mixedOrders = true) (hix : Ev.IxOK Tryz.prog V0 none) : Ev.NoteOK Tryz.prog (Ev.ofProgV Tryz.prog V0 none) m1 :=
  Ev.Note.ok (gok_V0 hm hix) (M := []) (fun _ h => by cases h) m1_says
theorem k2 (hm : Tryz.prog.follows .mixedOrders = true) (hix : Ev.IxOK Tryz.prog V0 none) : Ev.NoteOK Tryz.prog (Ev.ofProgV Tryz.prog V0 none) m2 :=
  Ev.Note.ok (gok_V0 hm hix) (M := []) (fun _ h => by cases h) m2_says
theorem k3 (hm : Tryz.prog.follows .mixedOrders = true) (hix : Ev.IxOK Tryz.prog V0 none) : Ev.NoteOK Tryz.prog (Ev.ofProgV Tryz.prog V0 none) m3 :=
  Ev.Note.ok (gok_V0 hm hix) (M := []) (fun _ h => by cases h) m3_says
theorem k4 (hm : Tryz.prog.follows .mixedOrders = true) (hix : Ev.IxOK Tryz.prog V0 none) : Ev.NoteOK Tryz.prog (Ev.ofProgV Tryz.prog V0 none) m4 :=
  Ev.Note.ok (gok_V0 hm hix) (M := []) (fun _ h => by cases h) m4_says
theorem k5 (hm : Tryz.prog.follows .mixedOrders = true) (hix : Ev.IxOK Tryz.prog V0 none) : Ev.NoteOK Tryz.prog (Ev.ofProgV Tryz.prog V0 none) m5 :=
  Ev.Note.ok (gok_V0 hm hix) (M := []) (fun _ h => by cases h) m5_says
theorem k6 (hm : Tryz.prog.follows .mixedOrders = true) (hix : Ev.IxOK Tryz.prog V0 none) : Ev.NoteOK Tryz.prog (Ev.ofProgV Tryz.prog V0 none) m6 :=
  Ev.Note.ok (gok_V0 hm hix) (M := []) (fun _ h => by cases h) m6_says
theorem k7 (hm : Tryz.prog.follows .mixedOrders = true) (hix : Ev.IxOK Tryz.prog V0 none) : Ev.NoteOK Tryz.prog (Ev.ofProgV Tryz.prog V0 none) m7 :=
  Ev.Note.okN (gok_V0 hm hix) (M := [m5, m6]) (by simp only [List.forall_mem_cons, List.not_mem_nil, false_implies, implies_true, and_true]; exact ⟨k5 hm hix, k6 hm hix⟩) m7_says
theorem k8 (hm : Tryz.prog.follows .mixedOrders = true) (hix : Ev.IxOK Tryz.prog V0 none) : Ev.NoteOK Tryz.prog (Ev.ofProgV Tryz.prog V0 none) m8 :=
  Ev.Note.ok (gok_V0 hm hix) (M := []) (fun _ h => by cases h) m8_says
theorem k9 (hm : Tryz.prog.follows .mixedOrders = true) (hix : Ev.IxOK Tryz.prog V0 none) : Ev.NoteOK Tryz.prog (Ev.ofProgV Tryz.prog V0 none) m9 :=
  Ev.Note.okN (gok_V0 hm hix) (M := []) (fun _ h => by cases h) m9_says
theorem k10 (hm : Tryz.prog.follows .mixedOrders = true) (hix : Ev.IxOK Tryz.prog V0 none) : Ev.NoteOK Tryz.prog (Ev.ofProgV Tryz.prog V0 none) m10 :=
  Ev.Note.ok (gok_V0 hm hix) (M := []) (fun _ h => by cases h) m10_says
theorem k11 (hm : Tryz.prog.follows .mixedOrders = true) (hix : Ev.IxOK Tryz.prog V0 none) : Ev.NoteOK Tryz.prog (Ev.ofProgV Tryz.prog V0 none) m11 :=
  Ev.Note.ok (gok_V0 hm hix) (M := [m10]) (by simp only [List.forall_mem_cons, List.not_mem_nil, false_implies, implies_true, and_true]; exact k10 hm hix) m11_says
theorem k12 (hm : Tryz.prog.follows .mixedOrders = true) (hix : Ev.IxOK Tryz.prog V0 none) : Ev.NoteOK Tryz.prog (Ev.ofProgV Tryz.prog V0 none) m12 :=
  Ev.Note.ok (gok_V0 hm hix) (M := [m11]) (by simp only [List.forall_mem_cons, List.not_mem_nil, false_implies, implies_true, and_true]; exact k11 hm hix) m12_says
theorem k13 (hm : Tryz.prog.follows .mixedOrders = true) (hix : Ev.IxOK Tryz.prog V0 none) : Ev.NoteOK Tryz.prog (Ev.ofProgV Tryz.prog V0 none) m13 :=
  Ev.Note.ok (gok_V0 hm hix) (M := [m12]) (by simp only [List.forall_mem_cons, List.not_mem_nil, false_implies, implies_true, and_true]; exact k12 hm hix) m13_says
theorem k14 (hm : Tryz.prog.follows .mixedOrders = true) (hix : Ev.IxOK Tryz.prog V0 none) : Ev.NoteOK Tryz.prog (Ev.ofProgV Tryz.prog V0 none) m14 :=
  Ev.Note.ok (gok_V0 hm hix) (M := []) (fun _ h => by cases h) m14_says
theorem k15 (hm : Tryz.prog.follows .mixedOrders = true) (hix : Ev.IxOK Tryz.prog V0 none) : Ev.NoteOK Tryz.prog (Ev.ofProgV Tryz.prog V0 none) m15 :=
  Ev.Note.ok (gok_V0 hm hix) (M := []) (fun _ h => by cases h) m15_says
theorem k16 (hm : Tryz.prog.follows .mixedOrders = true) (hix : Ev.IxOK Tryz.prog V0 none) : Ev.NoteOK Tryz.prog (Ev.ofProgV Tryz.prog V0 none) m16 :=
  Ev.Note.ok (gok_V0 hm hix) (M := [m15]) (by simp only [List.forall_mem_cons, List.not_mem_nil, false_implies, implies_true, and_true]; exact k15 hm hix) m16_says
theorem k17 (hm : Tryz.prog.follows .mixedOrders = true) (hix : Ev.IxOK Tryz.prog V0 none) : Ev.NoteOK Tryz.prog (Ev.ofProgV Tryz.prog V0 none) m17 :=
  Ev.Note.ok (gok_V0 hm hix) (M := [m16]) (by simp only [List.forall_mem_cons, List.not_mem_nil, false_implies, implies_true, and_true]; exact k16 hm hix) m17_says
theorem k18 (hm : Tryz.prog.follows .mixedOrders = true) (hix : Ev.IxOK Tryz.prog V0 none) : Ev.NoteOK Tryz.prog (Ev.ofProgV Tryz.prog V0 none) m18 :=
  Ev.Note.ok (gok_V0 hm hix) (M := [m17]) (by simp only [List.forall_mem_cons, List.not_mem_nil, false_implies, implies_true, and_true]; exact k17 hm hix) m18_says
theorem k19 (hm : Tryz.prog.follows .mixedOrders = true) (hix : Ev.IxOK Tryz.prog V0 none) : Ev.NoteOK Tryz.prog (Ev.ofProgV Tryz.prog V0 none) m19 :=
  Ev.Note.ok (gok_V0 hm hix) (M := []) (fun _ h => by cases h) m19_says
theorem k20 (hm : Tryz.prog.follows .mixedOrders = true) (hix : Ev.IxOK Tryz.prog V0 none) : Ev.NoteOK Tryz.prog (Ev.ofProgV Tryz.prog V0 none) m20 :=
  Ev.Note.ok (gok_V0 hm hix) (M := []) (fun _ h => by cases h) m20_says
theorem k21 (hm : Tryz.prog.follows .mixedOrders = true) (hix : Ev.IxOK Tryz.prog V0 none) : Ev.NoteOK Tryz.prog (Ev.ofProgV Tryz.prog V0 none) m21 :=
  Ev.Note.ok (gok_V0 hm hix) (M := [m20]) (by simp only [List.forall_mem_cons, List.not_mem_nil, false_implies, implies_true, and_true]; exact k20 hm hix) m21_says
theorem k22 (hm : Tryz.prog.follows .mixedOrders = true) (hix : Ev.IxOK Tryz.prog V0 none) : Ev.NoteOK Tryz.prog (Ev.ofProgV Tryz.prog V0 none) m22 :=
  Ev.Note.ok (gok_V0 hm hix) (M := [m21]) (by simp only [List.forall_mem_cons, List.not_mem_nil, false_implies, implies_true, and_true]; exact k21 hm hix) m22_says
theorem k23 (hm : Tryz.prog.follows .mixedOrders = true) (hix : Ev.IxOK Tryz.prog V0 none) : Ev.NoteOK Tryz.prog (Ev.ofProgV Tryz.prog V0 none) m23 :=
  Ev.Note.ok (gok_V0 hm hix) (M := [m22]) (by simp only [List.forall_mem_cons, List.not_mem_nil, false_implies, implies_true, and_true]; exact k22 hm hix) m23_says
theorem k24 (hm : Tryz.prog.follows .mixedOrders = true) (hix : Ev.IxOK Tryz.prog V0 none) : Ev.NoteOK Tryz.prog (Ev.ofProgV Tryz.prog V0 none) m24 :=
  Ev.Note.ok (gok_V0 hm hix) (M := []) (fun _ h => by cases h) m24_says
theorem k25 (hm : Tryz.prog.follows .mixedOrders = true) (hix : Ev.IxOK Tryz.prog V0 none) : Ev.NoteOK Tryz.prog (Ev.ofProgV Tryz.prog V0 none) m25 :=
  Ev.Note.ok (gok_V0 hm hix) (M := [m9, m13, m14, m18, m19, m23, m24]) (by simp only [List.forall_mem_cons, List.not_mem_nil, false_implies, implies_true, and_true]; exact ⟨k9 hm hix, k13 hm hix, k14 hm hix, k18 hm hix, k19 hm hix, k23 hm hix, k24 hm hix⟩) m25_says
theorem k26 (hm : Tryz.prog.follows .mixedOrders = true) (hix : Ev.IxOK Tryz.prog V0 none) : Ev.NoteOK Tryz.prog (Ev.ofProgV Tryz.prog V0 none) m26 :=
  Ev.Note.ok (gok_V0 hm hix) (M := [m7, m8, m25]) (by simp only [List.forall_mem_cons, List.not_mem_nil, false_implies, implies_true, and_true]; exact ⟨k7 hm hix, k8 hm hix, k25 hm hix⟩) m26_says
theorem k27 (hm : Tryz.prog.follows .mixedOrders = true) (hix : Ev.IxOK Tryz.prog V0 none) : Ev.NoteOK Tryz.prog (Ev.ofProgV Tryz.prog V0 none) m27 :=
  Ev.Note.ok (gok_V0 hm hix) (M := [m1, m2, m3, m4, m26]) (by simp only [List.forall_mem_cons, List.not_mem_nil, false_implies, implies_true, and_true]; exact ⟨k1 hm hix, k2 hm hix, k3 hm hix, k4 hm hix, k26 hm hix⟩) m27_says
theorem k28 (hm : Tryz.prog.follows .mixedOrders = true) (hix : Ev.IxOK Tryz.prog V0 none) : Ev.NoteOK Tryz.prog (Ev.ofProgV Tryz.prog V0 none) m28 :=
  Ev.Note.okN (gok_V0 hm hix) (M := []) (fun _ h => by cases h) m28_says
theorem k29 (hm : Tryz.prog.follows .mixedOrders = true) (hix : Ev.IxOK Tryz.prog V0 none) : Ev.NoteOK Tryz.prog (Ev.ofProgV Tryz.prog V0 none) m29 :=
  Ev.Note.ok (gok_V0 hm hix) (M := []) (fun _ h => by cases h) m29_says
theorem k30 (hm : Tryz.prog.follows .mixedOrders = true) (hix : Ev.IxOK Tryz.prog V0 none) : Ev.NoteOK Tryz.prog (Ev.ofProgV Tryz.prog V0 none) m30 :=
  Ev.Note.ok (gok_V0 hm hix) (M := []) (fun _ h => by cases h) m30_says
theorem k31 (hm : Tryz.prog.follows .mixedOrders = true) (hix : Ev.IxOK Tryz.prog V0 none) : Ev.NoteOK Tryz.prog (Ev.ofProgV Tryz.prog V0 none) m31 :=
  Ev.Note.ok (gok_V0 hm hix) (M := []) (fun _ h => by cases h) m31_says
theorem k32 (hm : Tryz.prog.follows .mixedOrders = true) (hix : Ev.IxOK Tryz.prog V0 none) : Ev.NoteOK Tryz.prog (Ev.ofProgV Tryz.prog V0 none) m32 :=
  Ev.Note.okN (gok_V0 hm hix) (M := [m30, m31]) (by simp only [List.forall_mem_cons, List.not_mem_nil, false_implies, implies_true, and_true]; exact ⟨k30 hm hix, k31 hm hix⟩) m32_says
theorem k33 (hm : Tryz.prog.follows .mixedOrders = true) (hix : Ev.IxOK Tryz.prog V0 none) : Ev.NoteOK Tryz.prog (Ev.ofProgV Tryz.prog V0 none) m33 :=
  Ev.Note.ok (gok_V0 hm hix) (M := []) (fun _ h => by cases h) m33_says
theorem k34 (hm : Tryz.prog.follows .mixedOrders = true) (hix : Ev.IxOK Tryz.prog V0 none) : Ev.NoteOK Tryz.prog (Ev.ofProgV Tryz.prog V0 none) m34 :=
  Ev.Note.okN (gok_V0 hm hix) (M := []) (fun _ h => by cases h) m34_says
theorem k35 (hm : Tryz.prog.follows .mixedOrders = true) (hix : Ev.IxOK Tryz.prog V0 none) : Ev.NoteOK Tryz.prog (Ev.ofProgV Tryz.prog V0 none) m35 :=
  Ev.Note.ok (gok_V0 hm hix) (M := []) (fun _ h => by cases h) m35_says
theorem k36 (hm : Tryz.prog.follows .mixedOrders = true) (hix : Ev.IxOK Tryz.prog V0 none) : Ev.NoteOK Tryz.prog (Ev.ofProgV Tryz.prog V0 none) m36 :=
  Ev.Note.ok (gok_V0 hm hix) (M := [m35]) (by simp only [List.forall_mem_cons, List.not_mem_nil, false_implies, implies_true, and_true]; exact k35 hm hix) m36_says
theorem k37 (hm : Tryz.prog.follows .mixedOrders = true) (hix : Ev.IxOK Tryz.prog V0 none) : Ev.NoteOK Tryz.prog (Ev.ofProgV Tryz.prog V0 none) m37 :=
  Ev.Note.ok (gok_V0 hm hix) (M := [m36]) (by simp only [List.forall_mem_cons, List.not_mem_nil, false_implies, implies_true, and_true]; exact k36 hm hix) m37_says
theorem k38 (hm : Tryz.prog.follows .mixedOrders = true) (hix : Ev.IxOK Tryz.prog V0 none) : Ev.NoteOK Tryz.prog (Ev.ofProgV Tryz.prog V0 none) m38 :=
  Ev.Note.ok (gok_V0 hm hix) (M := [m37]) (by simp only [List.forall_mem_cons, List.not_mem_nil, false_implies, implies_true, and_true]; exact k37 hm hix) m38_says
theorem k39 (hm : Tryz.prog.follows .mixedOrders = true) (hix : Ev.IxOK Tryz.prog V0 none) : Ev.NoteOK Tryz.prog (Ev.ofProgV Tryz.prog V0 none) m39 :=
  Ev.Note.ok (gok_V0 hm hix) (M := []) (fun _ h => by cases h) m39_says
theorem k40 (hm : Tryz.prog.follows .mixedOrders = true) (hix : Ev.IxOK Tryz.prog V0 none) : Ev.NoteOK Tryz.prog (Ev.ofProgV Tryz.prog V0 none) m40 :=
  Ev.Note.ok (gok_V0 hm hix) (M := []) (fun _ h => by cases h) m40_says
theorem k41 (hm : Tryz.prog.follows .mixedOrders = true) (hix : Ev.IxOK Tryz.prog V0 none) : Ev.NoteOK Tryz.prog (Ev.ofProgV Tryz.prog V0 none) m41 :=
  Ev.Note.ok (gok_V0 hm hix) (M := [m40]) (by simp only [List.forall_mem_cons, List.not_mem_nil, false_implies, implies_true, and_true]; exact k40 hm hix) m41_says
theorem k42 (hm : Tryz.prog.follows .mixedOrders = true) (hix : Ev.IxOK Tryz.prog V0 none) : Ev.NoteOK Tryz.prog (Ev.ofProgV Tryz.prog V0 none) m42 :=
  Ev.Note.ok (gok_V0 hm hix) (M := [m41]) (by simp only [List.forall_mem_cons, List.not_mem_nil, false_implies, implies_true, and_true]; exact k41 hm hix) m42_says
theorem k43 (hm : Tryz.prog.follows .mixedOrders = true) (hix : Ev.IxOK Tryz.prog V0 none) : Ev.NoteOK Tryz.prog (Ev.ofProgV Tryz.prog V0 none) m43 :=
  Ev.Note.ok (gok_V0 hm hix) (M := [m42]) (by simp only [List.forall_mem_cons, List.not_mem_nil, false_implies, implies_true, and_true]; exact k42 hm hix) m43_says
theorem k44 (hm : Tryz.prog.follows .mixedOrders = true) (hix : Ev.IxOK Tryz.prog V0 none) : Ev.NoteOK Tryz.prog (Ev.ofProgV Tryz.prog V0 none) m44 :=
  Ev.Note.ok (gok_V0 hm hix) (M := []) (fun _ h => by cases h) m44_says
theorem k45 (hm : Tryz.prog.follows .mixedOrders = true) (hix : Ev.IxOK Tryz.prog V0 none) : Ev.NoteOK Tryz.prog (Ev.ofProgV Tryz.prog V0 none) m45 :=
  Ev.Note.ok (gok_V0 hm hix) (M := []) (fun _ h => by cases h) m45_says
theorem k46 (hm : Tryz.prog.follows .mixedOrders = true) (hix : Ev.IxOK Tryz.prog V0 none) : Ev.NoteOK Tryz.prog (Ev.ofProgV Tryz.prog V0 none) m46 :=
  Ev.Note.ok (gok_V0 hm hix) (M := [m45]) (by simp only [List.forall_mem_cons, List.not_mem_nil, false_implies, implies_true, and_true]; exact k45 hm hix) m46_says
theorem k47 (hm : Tryz.prog.follows .mixedOrders = true) (hix : Ev.IxOK Tryz.prog V0 none) : Ev.NoteOK Tryz.prog (Ev.ofProgV Tryz.prog V0 none) m47 :=
  Ev.Note.ok (gok_V0 hm hix) (M := [m46]) (by simp only [List.forall_mem_cons, List.not_mem_nil, false_implies, implies_true, and_true]; exact k46 hm hix) m47_says
theorem k48 (hm : Tryz.prog.follows .mixedOrders = true) (hix : Ev.IxOK Tryz.prog V0 none) : Ev.NoteOK Tryz.prog (Ev.ofProgV Tryz.prog V0 none) m48 :=
  Ev.Note.ok (gok_V0 hm hix) (M := [m47]) (by simp only [List.forall_mem_cons, List.not_mem_nil, false_implies, implies_true, and_true]; exact k47 hm hix) m48_says
theorem k49 (hm : Tryz.prog.follows .mixedOrders = true) (hix : Ev.IxOK Tryz.prog V0 none) : Ev.NoteOK Tryz.prog (Ev.ofProgV Tryz.prog V0 none) m49 :=
  Ev.Note.ok (gok_V0 hm hix) (M := []) (fun _ h => by cases h) m49_says
theorem k50 (hm : Tryz.prog.follows .mixedOrders = true) (hix : Ev.IxOK Tryz.prog V0 none) : Ev.NoteOK Tryz.prog (Ev.ofProgV Tryz.prog V0 none) m50 :=
  Ev.Note.ok (gok_V0 hm hix) (M := [m34, m38, m39, m43, m44, m48, m49]) (by simp only [List.forall_mem_cons, List.not_mem_nil, false_implies, implies_true, and_true]; exact ⟨k34 hm hix, k38 hm hix, k39 hm hix, k43 hm hix, k44 hm hix, k48 hm hix, k49 hm hix⟩) m50_says
theorem k51 (hm : Tryz.prog.follows .mixedOrders = true) (hix : Ev.IxOK Tryz.prog V0 none) : Ev.NoteOK Tryz.prog (Ev.ofProgV Tryz.prog V0 none) m51 :=
  Ev.Note.ok (gok_V0 hm hix) (M := [m32, m33, m50]) (by simp only [List.forall_mem_cons, List.not_mem_nil, false_implies, implies_true, and_true]; exact ⟨k32 hm hix, k33 hm hix, k50 hm hix⟩) m51_says
theorem k52 (hm : Tryz.prog.follows .mixedOrders = true) (hix : Ev.IxOK Tryz.prog V0 none) : Ev.NoteOK Tryz.prog (Ev.ofProgV Tryz.prog V0 none) m52 :=
  Ev.Note.ok (gok_V0 hm hix) (M := []) (fun _ h => by cases h) m52_says
theorem k53 (hm : Tryz.prog.follows .mixedOrders = true) (hix : Ev.IxOK Tryz.prog V0 none) : Ev.NoteOK Tryz.prog (Ev.ofProgV Tryz.prog V0 none) m53 :=
  Ev.Note.ok (gok_V0 hm hix) (M := []) (fun _ h => by cases h) m53_says
theorem k54 (hm : Tryz.prog.follows .mixedOrders = true) (hix : Ev.IxOK Tryz.prog V0 none) : Ev.NoteOK Tryz.prog (Ev.ofProgV Tryz.prog V0 none) m54 :=
  Ev.Note.ok (gok_V0 hm hix) (M := [m53]) (by simp only [List.forall_mem_cons, List.not_mem_nil, false_implies, implies_true, and_true]; exact k53 hm hix) m54_says
theorem k55 (hm : Tryz.prog.follows .mixedOrders = true) (hix : Ev.IxOK Tryz.prog V0 none) : Ev.NoteOK Tryz.prog (Ev.ofProgV Tryz.prog V0 none) m55 :=
  Ev.Note.ok (gok_V0 hm hix) (M := [m52, m54]) (by simp only [List.forall_mem_cons, List.not_mem_nil, false_implies, implies_true, and_true]; exact ⟨k52 hm hix, k54 hm hix⟩) m55_says
theorem k56 (hm : Tryz.prog.follows .mixedOrders = true) (hix : Ev.IxOK Tryz.prog V0 none) : Ev.NoteOK Tryz.prog (Ev.ofProgV Tryz.prog V0 none) m56 :=
  Ev.Note.ok (gok_V0 hm hix) (M := []) (fun _ h => by cases h) m56_says
theorem k57 (hm : Tryz.prog.follows .mixedOrders = true) (hix : Ev.IxOK Tryz.prog V0 none) : Ev.NoteOK Tryz.prog (Ev.ofProgV Tryz.prog V0 none) m57 :=
  Ev.Note.ok (gok_V0 hm hix) (M := []) (fun _ h => by cases h) m57_says
theorem k58 (hm : Tryz.prog.follows .mixedOrders = true) (hix : Ev.IxOK Tryz.prog V0 none) : Ev.NoteOK Tryz.prog (Ev.ofProgV Tryz.prog V0 none) m58 :=
  Ev.Note.ok (gok_V0 hm hix) (M := [m57]) (by simp only [List.forall_mem_cons, List.not_mem_nil, false_implies, implies_true, and_true]; exact k57 hm hix) m58_says
theorem k59 (hm : Tryz.prog.follows .mixedOrders = true) (hix : Ev.IxOK Tryz.prog V0 none) : Ev.NoteOK Tryz.prog (Ev.ofProgV Tryz.prog V0 none) m59 :=
  Ev.Note.ok (gok_V0 hm hix) (M := [m56, m58]) (by simp only [List.forall_mem_cons, List.not_mem_nil, false_implies, implies_true, and_true]; exact ⟨k56 hm hix, k58 hm hix⟩) m59_says
theorem k60 (hm : Tryz.prog.follows .mixedOrders = true) (hix : Ev.IxOK Tryz.prog V0 none) : Ev.NoteOK Tryz.prog (Ev.ofProgV Tryz.prog V0 none) m60 :=
  Ev.Note.ok (gok_V0 hm hix) (M := [m59]) (by simp only [List.forall_mem_cons, List.not_mem_nil, false_implies, implies_true, and_true]; exact k59 hm hix) m60_says
theorem k61 (hm : Tryz.prog.follows .mixedOrders = true) (hix : Ev.IxOK Tryz.prog V0 none) : Ev.NoteOK Tryz.prog (Ev.ofProgV Tryz.prog V0 none) m61 :=
  Ev.Note.ok (gok_V0 hm hix) (M := [m55, m60]) (by simp only [List.forall_mem_cons, List.not_mem_nil, false_implies, implies_true, and_true]; exact ⟨k55 hm hix, k60 hm hix⟩) m61_says
theorem k62 (hm : Tryz.prog.follows .mixedOrders = true) (hix : Ev.IxOK Tryz.prog V0 none) : Ev.NoteOK Tryz.prog (Ev.ofProgV Tryz.prog V0 none) m62 :=
  Ev.Note.ok (gok_V0 hm hix) (M := []) (fun _ h => by cases h) m62_says
theorem k63 (hm : Tryz.prog.follows .mixedOrders = true) (hix : Ev.IxOK Tryz.prog V0 none) : Ev.NoteOK Tryz.prog (Ev.ofProgV Tryz.prog V0 none) m63 :=
  Ev.Note.ok (gok_V0 hm hix) (M := []) (fun _ h => by cases h) m63_says
theorem k64 (hm : Tryz.prog.follows .mixedOrders = true) (hix : Ev.IxOK Tryz.prog V0 none) : Ev.NoteOK Tryz.prog (Ev.ofProgV Tryz.prog V0 none) m64 :=
  Ev.Note.ok (gok_V0 hm hix) (M := []) (fun _ h => by cases h) m64_says
theorem k65 (hm : Tryz.prog.follows .mixedOrders = true) (hix : Ev.IxOK Tryz.prog V0 none) : Ev.NoteOK Tryz.prog (Ev.ofProgV Tryz.prog V0 none) m65 :=
  Ev.Note.ok (gok_V0 hm hix) (M := []) (fun _ h => by cases h) m65_says
theorem k66 (hm : Tryz.prog.follows .mixedOrders = true) (hix : Ev.IxOK Tryz.prog V0 none) : Ev.NoteOK Tryz.prog (Ev.ofProgV Tryz.prog V0 none) m66 :=
  Ev.Note.ok (gok_V0 hm hix) (M := [m65]) (by simp only [List.forall_mem_cons, List.not_mem_nil, false_implies, implies_true, and_true]; exact k65 hm hix) m66_says
theorem k67 (hm : Tryz.prog.follows .mixedOrders = true) (hix : Ev.IxOK Tryz.prog V0 none) : Ev.NoteOK Tryz.prog (Ev.ofProgV Tryz.prog V0 none) m67 :=
  Ev.Note.ok (gok_V0 hm hix) (M := [m64, m66]) (by simp only [List.forall_mem_cons, List.not_mem_nil, false_implies, implies_true, and_true]; exact ⟨k64 hm hix, k66 hm hix⟩) m67_says
theorem k68 (hm : Tryz.prog.follows .mixedOrders = true) (hix : Ev.IxOK Tryz.prog V0 none) : Ev.NoteOK Tryz.prog (Ev.ofProgV Tryz.prog V0 none) m68 :=
  Ev.Note.ok (gok_V0 hm hix) (M := []) (fun _ h => by cases h) m68_says
theorem k69 (hm : Tryz.prog.follows .mixedOrders = true) (hix : Ev.IxOK Tryz.prog V0 none) : Ev.NoteOK Tryz.prog (Ev.ofProgV Tryz.prog V0 none) m69 :=
  Ev.Note.ok (gok_V0 hm hix) (M := []) (fun _ h => by cases h) m69_says
theorem k70 (hm : Tryz.prog.follows .mixedOrders = true) (hix : Ev.IxOK Tryz.prog V0 none) : Ev.NoteOK Tryz.prog (Ev.ofProgV Tryz.prog V0 none) m70 :=
  Ev.Note.ok (gok_V0 hm hix) (M := [m69]) (by simp only [List.forall_mem_cons, List.not_mem_nil, false_implies, implies_true, and_true]; exact k69 hm hix) m70_says
theorem k71 (hm : Tryz.prog.follows .mixedOrders = true) (hix : Ev.IxOK Tryz.prog V0 none) : Ev.NoteOK Tryz.prog (Ev.ofProgV Tryz.prog V0 none) m71 :=
  Ev.Note.ok (gok_V0 hm hix) (M := [m68, m70]) (by simp only [List.forall_mem_cons, List.not_mem_nil, false_implies, implies_true, and_true]; exact ⟨k68 hm hix, k70 hm hix⟩) m71_says
theorem k72 (hm : Tryz.prog.follows .mixedOrders = true) (hix : Ev.IxOK Tryz.prog V0 none) : Ev.NoteOK Tryz.prog (Ev.ofProgV Tryz.prog V0 none) m72 :=
  Ev.Note.ok (gok_V0 hm hix) (M := [m71]) (by simp only [List.forall_mem_cons, List.not_mem_nil, false_implies, implies_true, and_true]; exact k71 hm hix) m72_says
theorem k73 (hm : Tryz.prog.follows .mixedOrders = true) (hix : Ev.IxOK Tryz.prog V0 none) : Ev.NoteOK Tryz.prog (Ev.ofProgV Tryz.prog V0 none) m73 :=
  Ev.Note.ok (gok_V0 hm hix) (M := [m67, m72]) (by simp only [List.forall_mem_cons, List.not_mem_nil, false_implies, implies_true, and_true]; exact ⟨k67 hm hix, k72 hm hix⟩) m73_says
theorem k74 (hm : Tryz.prog.follows .mixedOrders = true) (hix : Ev.IxOK Tryz.prog V0 none) : Ev.NoteOK Tryz.prog (Ev.ofProgV Tryz.prog V0 none) m74 :=
  Ev.Note.ok (gok_V0 hm hix) (M := [m73]) (by simp only [List.forall_mem_cons, List.not_mem_nil, false_implies, implies_true, and_true]; exact k73 hm hix) m74_says
theorem k75 (hm : Tryz.prog.follows .mixedOrders = true) (hix : Ev.IxOK Tryz.prog V0 none) : Ev.NoteOK Tryz.prog (Ev.ofProgV Tryz.prog V0 none) m75 :=
  Ev.Note.ok (gok_V0 hm hix) (M := []) (fun _ h => by cases h) m75_says
theorem k76 (hm : Tryz.prog.follows .mixedOrders = true) (hix : Ev.IxOK Tryz.prog V0 none) : Ev.NoteOK Tryz.prog (Ev.ofProgV Tryz.prog V0 none) m76 :=
  Ev.Note.okN (gok_V0 hm hix) (M := []) (fun _ h => by cases h) m76_says
theorem k77 (hm : Tryz.prog.follows .mixedOrders = true) (hix : Ev.IxOK Tryz.prog V0 none) : Ev.NoteOK Tryz.prog (Ev.ofProgV Tryz.prog V0 none) m77 :=
  Ev.Note.ok (gok_V0 hm hix) (M := [m76]) (by simp only [List.forall_mem_cons, List.not_mem_nil, false_implies, implies_true, and_true]; exact k76 hm hix) m77_says
theorem k78 (hm : Tryz.prog.follows .mixedOrders = true) (hix : Ev.IxOK Tryz.prog V0 none) : Ev.NoteOK Tryz.prog (Ev.ofProgV Tryz.prog V0 none) m78 :=
  Ev.Note.ok (gok_V0 hm hix) (M := []) (fun _ h => by cases h) m78_says
theorem k79 (hm : Tryz.prog.follows .mixedOrders = true) (hix : Ev.IxOK Tryz.prog V0 none) : Ev.NoteOK Tryz.prog (Ev.ofProgV Tryz.prog V0 none) m79 :=
  Ev.Note.ok (gok_V0 hm hix) (M := []) (fun _ h => by cases h) m79_says
theorem k80 (hm : Tryz.prog.follows .mixedOrders = true) (hix : Ev.IxOK Tryz.prog V0 none) : Ev.NoteOK Tryz.prog (Ev.ofProgV Tryz.prog V0 none) m80 :=
  Ev.Note.okN (gok_V0 hm hix) (M := []) (fun _ h => by cases h) m80_says
theorem k81 (hm : Tryz.prog.follows .mixedOrders = true) (hix : Ev.IxOK Tryz.prog V0 none) : Ev.NoteOK Tryz.prog (Ev.ofProgV Tryz.prog V0 none) m81 :=
  Ev.Note.ok (gok_V0 hm hix) (M := [m80]) (by simp only [List.forall_mem_cons, List.not_mem_nil, false_implies, implies_true, and_true]; exact k80 hm hix) m81_says
theorem k82 (hm : Tryz.prog.follows .mixedOrders = true) (hix : Ev.IxOK Tryz.prog V0 none) : Ev.NoteOK Tryz.prog (Ev.ofProgV Tryz.prog V0 none) m82 :=
  Ev.Note.ok (gok_V0 hm hix) (M := []) (fun _ h => by cases h) m82_says
theorem k83 (hm : Tryz.prog.follows .mixedOrders = true) (hix : Ev.IxOK Tryz.prog V0 none) : Ev.NoteOK Tryz.prog (Ev.ofProgV Tryz.prog V0 none) m83 :=
  Ev.Note.ok (gok_V0 hm hix) (M := []) (fun _ h => by cases h) m83_says
theorem k84 (hm : Tryz.prog.follows .mixedOrders = true) (hix : Ev.IxOK Tryz.prog V0 none) : Ev.NoteOK Tryz.prog (Ev.ofProgV Tryz.prog V0 none) m84 :=
  Ev.Note.ok (gok_V0 hm hix) (M := [m83]) (by simp only [List.forall_mem_cons, List.not_mem_nil, false_implies, implies_true, and_true]; exact k83 hm hix) m84_says
theorem k85 (hm : Tryz.prog.follows .mixedOrders = true) (hix : Ev.IxOK Tryz.prog V0 none) : Ev.NoteOK Tryz.prog (Ev.ofProgV Tryz.prog V0 none) m85 :=
  Ev.Note.ok (gok_V0 hm hix) (M := [m84]) (by simp only [List.forall_mem_cons, List.not_mem_nil, false_implies, implies_true, and_true]; exact k84 hm hix) m85_says
theorem k86 (hm : Tryz.prog.follows .mixedOrders = true) (hix : Ev.IxOK Tryz.prog V0 none) : Ev.NoteOK Tryz.prog (Ev.ofProgV Tryz.prog V0 none) m86 :=
  Ev.Note.ok (gok_V0 hm hix) (M := []) (fun _ h => by cases h) m86_says
theorem k87 (hm : Tryz.prog.follows .mixedOrders = true) (hix : Ev.IxOK Tryz.prog V0 none) : Ev.NoteOK Tryz.prog (Ev.ofProgV Tryz.prog V0 none) m87 :=
  Ev.Note.ok (gok_V0 hm hix) (M := []) (fun _ h => by cases h) m87_says
theorem k88 (hm : Tryz.prog.follows .mixedOrders = true) (hix : Ev.IxOK Tryz.prog V0 none) : Ev.NoteOK Tryz.prog (Ev.ofProgV Tryz.prog V0 none) m88 :=
  Ev.Note.ok (gok_V0 hm hix) (M := []) (fun _ h => by cases h) m88_says
theorem k89 (hm : Tryz.prog.follows .mixedOrders = true) (hix : Ev.IxOK Tryz.prog V0 none) : Ev.NoteOK Tryz.prog (Ev.ofProgV Tryz.prog V0 none) m89 :=
  Ev.Note.ok (gok_V0 hm hix) (M := []) (fun _ h => by cases h) m89_says
theorem k90 (hm : Tryz.prog.follows .mixedOrders = true) (hix : Ev.IxOK Tryz.prog V0 none) : Ev.NoteOK Tryz.prog (Ev.ofProgV Tryz.prog V0 none) m90 :=
  Ev.Note.ok (gok_V0 hm hix) (M := []) (fun _ h => by cases h) m90_says
theorem k91 (hm : Tryz.prog.follows .mixedOrders = true) (hix : Ev.IxOK Tryz.prog V0 none) : Ev.NoteOK Tryz.prog (Ev.ofProgV Tryz.prog V0 none) m91 :=
  Ev.Note.ok (gok_V0 hm hix) (M := [m90]) (by simp only [List.forall_mem_cons, List.not_mem_nil, false_implies, implies_true, and_true]; exact k90 hm hix) m91_says
theorem k92 (hm : Tryz.prog.follows .mixedOrders = true) (hix : Ev.IxOK Tryz.prog V0 none) : Ev.NoteOK Tryz.prog (Ev.ofProgV Tryz.prog V0 none) m92 :=
  Ev.Note.ok (gok_V0 hm hix) (M := [m91]) (by simp only [List.forall_mem_cons, List.not_mem_nil, false_implies, implies_true, and_true]; exact k91 hm hix) m92_says
theorem k93 (hm : Tryz.prog.follows .mixedOrders = true) (hix : Ev.IxOK Tryz.prog V0 none) : Ev.NoteOK Tryz.prog (Ev.ofProgV Tryz.prog V0 none) m93 :=
  Ev.Note.ok (gok_V0 hm hix) (M := []) (fun _ h => by cases h) m93_says
theorem k94 (hm : Tryz.prog.follows .mixedOrders = true) (hix : Ev.IxOK Tryz.prog V0 none) : Ev.NoteOK Tryz.prog (Ev.ofProgV Tryz.prog V0 none) m94 :=
  Ev.Note.ok (gok_V0 hm hix) (M := []) (fun _ h => by cases h) m94_says
theorem k95 (hm : Tryz.prog.follows .mixedOrders = true) (hix : Ev.IxOK Tryz.prog V0 none) : Ev.NoteOK Tryz.prog (Ev.ofProgV Tryz.prog V0 none) m95 :=
  Ev.Note.okN (gok_V0 hm hix) (M := []) (fun _ h => by cases h) m95_says
theorem k96 (hm : Tryz.prog.follows .mixedOrders = true) (hix : Ev.IxOK Tryz.prog V0 none) : Ev.NoteOK Tryz.prog (Ev.ofProgV Tryz.prog V0 none) m96 :=
  Ev.Note.okN (gok_V0 hm hix) (M := []) (fun _ h => by cases h) m96_says
theorem k97 (hm : Tryz.prog.follows .mixedOrders = true) (hix : Ev.IxOK Tryz.prog V0 none) : Ev.NoteOK Tryz.prog (Ev.ofProgV Tryz.prog V0 none) m97 :=
  Ev.Note.ok (gok_V0 hm hix) (M := [m95, m96]) (by simp only [List.forall_mem_cons, List.not_mem_nil, false_implies, implies_true, and_true]; exact ⟨k95 hm hix, k96 hm hix⟩) m97_says
theorem k98 (hm : Tryz.prog.follows .mixedOrders = true) (hix : Ev.IxOK Tryz.prog V0 none) : Ev.NoteOK Tryz.prog (Ev.ofProgV Tryz.prog V0 none) m98 :=
  Ev.Note.ok (gok_V0 hm hix) (M := [m97]) (by simp only [List.forall_mem_cons, List.not_mem_nil, false_implies, implies_true, and_true]; exact k97 hm hix) m98_says
theorem k99 (hm : Tryz.prog.follows .mixedOrders = true) (hix : Ev.IxOK Tryz.prog V0 none) : Ev.NoteOK Tryz.prog (Ev.ofProgV Tryz.prog V0 none) m99 :=
  Ev.Note.ok (gok_V0 hm hix) (M := [m98]) (by simp only [List.forall_mem_cons, List.not_mem_nil, false_implies, implies_true, and_true]; exact k98 hm hix) m99_says
theorem k100 (hm : Tryz.prog.follows .mixedOrders = true) (hix : Ev.IxOK Tryz.prog V0 none) : Ev.NoteOK Tryz.prog (Ev.ofProgV Tryz.prog V0 none) m100 :=
  Ev.Note.ok (gok_V0 hm hix) (M := []) (fun _ h => by cases h) m100_says
theorem k101 (hm : Tryz.prog.follows .mixedOrders = true) (hix : Ev.IxOK Tryz.prog V0 none) : Ev.NoteOK Tryz.prog (Ev.ofProgV Tryz.prog V0 none) m101 :=
  Ev.Note.ok (gok_V0 hm hix) (M := []) (fun _ h => by cases h) m101_says
theorem k102 (hm : Tryz.prog.follows .mixedOrders = true) (hix : Ev.IxOK Tryz.prog V0 none) : Ev.NoteOK Tryz.prog (Ev.ofProgV Tryz.prog V0 none) m102 :=
  Ev.Note.ok (gok_V0 hm hix) (M := []) (fun _ h => by cases h) m102_says
theorem k103 (hm : Tryz.prog.follows .mixedOrders = true) (hix : Ev.IxOK Tryz.prog V0 none) : Ev.NoteOK Tryz.prog (Ev.ofProgV Tryz.prog V0 none) m103 :=
  Ev.Note.ok (gok_V0 hm hix) (M := []) (fun _ h => by cases h) m103_says
theorem k104 (hm : Tryz.prog.follows .mixedOrders = true) (hix : Ev.IxOK Tryz.prog V0 none) : Ev.NoteOK Tryz.prog (Ev.ofProgV Tryz.prog V0 none) m104 :=
  Ev.Note.ok (gok_V0 hm hix) (M := []) (fun _ h => by cases h) m104_says
theorem k105 (hm : Tryz.prog.follows .mixedOrders = true) (hix : Ev.IxOK Tryz.prog V0 none) : Ev.NoteOK Tryz.prog (Ev.ofProgV Tryz.prog V0 none) m105 :=
  Ev.Note.ok (gok_V0 hm hix) (M := []) (fun _ h => by cases h) m105_says
theorem k106 (hm : Tryz.prog.follows .mixedOrders = true) (hix : Ev.IxOK Tryz.prog V0 none) : Ev.NoteOK Tryz.prog (Ev.ofProgV Tryz.prog V0 none) m106 :=
  Ev.Note.ok (gok_V0 hm hix) (M := [m105]) (by simp only [List.forall_mem_cons, List.not_mem_nil, false_implies, implies_true, and_true]; exact k105 hm hix) m106_says
theorem k107 (hm : Tryz.prog.follows .mixedOrders = true) (hix : Ev.IxOK Tryz.prog V0 none) : Ev.NoteOK Tryz.prog (Ev.ofProgV Tryz.prog V0 none) m107 :=
  Ev.Note.ok (gok_V0 hm hix) (M := []) (fun _ h => by cases h) m107_says
theorem k108 (hm : Tryz.prog.follows .mixedOrders = true) (hix : Ev.IxOK Tryz.prog V0 none) : Ev.NoteOK Tryz.prog (Ev.ofProgV Tryz.prog V0 none) m108 :=
  Ev.Note.ok (gok_V0 hm hix) (M := [m61, m62, m63, m74, m75, m77, m78, m79, m81, m82, m85, m86, m87, m88, m89, m92, m93, m94, m99, m100, m101, m102, m103, m104, m106, m107]) (by simp only [List.forall_mem_cons, List.not_mem_nil, false_implies, implies_true, and_true]; exact ⟨k61 hm hix, k62 hm hix, k63 hm hix, k74 hm hix, k75 hm hix, k77 hm hix, k78 hm hix, k79 hm hix, k81 hm hix, k82 hm hix, k85 hm hix, k86 hm hix, k87 hm hix, k88 hm hix, k89 hm hix, k92 hm hix, k93 hm hix, k94 hm hix, k99 hm hix, k100 hm hix, k101 hm hix, k102 hm hix, k103 hm hix, k104 hm hix, k106 hm hix, k107 hm hix⟩) m108_says
theorem k109 (hm : Tryz.prog.follows .mixedOrders = true) (hix : Ev.IxOK Tryz.prog V0 none) : Ev.NoteOK Tryz.prog (Ev.ofProgV Tryz.prog V0 none) m109 :=
  Ev.Note.ok (gok_V0 hm hix) (M := []) (fun _ h => by cases h) m109_says
theorem k110 (hm : Tryz.prog.follows .mixedOrders = true) (hix : Ev.IxOK Tryz.prog V0 none) : Ev.NoteOK Tryz.prog (Ev.ofProgV Tryz.prog V0 none) m110 :=
  Ev.Note.ok (gok_V0 hm hix) (M := []) (fun _ h => by cases h) m110_says
theorem k111 (hm : Tryz.prog.follows .mixedOrders = true) (hix : Ev.IxOK Tryz.prog V0 none) : Ev.NoteOK Tryz.prog (Ev.ofProgV Tryz.prog V0 none) m111 :=
  Ev.Note.ok (gok_V0 hm hix) (M := []) (fun _ h => by cases h) m111_says
theorem k112 (hm : Tryz.prog.follows .mixedOrders = true) (hix : Ev.IxOK Tryz.prog V0 none) : Ev.NoteOK Tryz.prog (Ev.ofProgV Tryz.prog V0 none) m112 :=
  Ev.Note.ok (gok_V0 hm hix) (M := []) (fun _ h => by cases h) m112_says
theorem k113 (hm : Tryz.prog.follows .mixedOrders = true) (hix : Ev.IxOK Tryz.prog V0 none) : Ev.NoteOK Tryz.prog (Ev.ofProgV Tryz.prog V0 none) m113 :=
  Ev.Note.ok (gok_V0 hm hix) (M := []) (fun _ h => by cases h) m113_says
theorem k114 (hm : Tryz.prog.follows .mixedOrders = true) (hix : Ev.IxOK Tryz.prog V0 none) : Ev.NoteOK Tryz.prog (Ev.ofProgV Tryz.prog V0 none) m114 :=
  Ev.Note.ok (gok_V0 hm hix) (M := []) (fun _ h => by cases h) m114_says
theorem k115 (hm : Tryz.prog.follows .mixedOrders = true) (hix : Ev.IxOK Tryz.prog V0 none) : Ev.NoteOK Tryz.prog (Ev.ofProgV Tryz.prog V0 none) m115 :=
  Ev.Note.ok (gok_V0 hm hix) (M := []) (fun _ h => by cases h) m115_says
theorem k116 (hm : Tryz.prog.follows .mixedOrders = true) (hix : Ev.IxOK Tryz.prog V0 none) : Ev.NoteOK Tryz.prog (Ev.ofProgV Tryz.prog V0 none) m116 :=
  Ev.Note.okN (gok_V0 hm hix) (M := []) (fun _ h => by cases h) m116_says
theorem k117 (hm : Tryz.prog.follows .mixedOrders = true) (hix : Ev.IxOK Tryz.prog V0 none) : Ev.NoteOK Tryz.prog (Ev.ofProgV Tryz.prog V0 none) m117 :=
  Ev.Note.ok (gok_V0 hm hix) (M := [m116]) (by simp only [List.forall_mem_cons, List.not_mem_nil, false_implies, implies_true, and_true]; exact k116 hm hix) m117_says
theorem k118 (hm : Tryz.prog.follows .mixedOrders = true) (hix : Ev.IxOK Tryz.prog V0 none) : Ev.NoteOK Tryz.prog (Ev.ofProgV Tryz.prog V0 none) m118 :=
  Ev.Note.ok (gok_V0 hm hix) (M := [m117]) (by simp only [List.forall_mem_cons, List.not_mem_nil, false_implies, implies_true, and_true]; exact k117 hm hix) m118_says
theorem k119 (hm : Tryz.prog.follows .mixedOrders = true) (hix : Ev.IxOK Tryz.prog V0 none) : Ev.NoteOK Tryz.prog (Ev.ofProgV Tryz.prog V0 none) m119 :=
  Ev.Note.ok (gok_V0 hm hix) (M := [m110, m111, m112, m113, m114, m115, m118]) (by simp only [List.forall_mem_cons, List.not_mem_nil, false_implies, implies_true, and_true]; exact ⟨k110 hm hix, k111 hm hix, k112 hm hix, k113 hm hix, k114 hm hix, k115 hm hix, k118 hm hix⟩) m119_says
theorem k120 (hm : Tryz.prog.follows .mixedOrders = true) (hix : Ev.IxOK Tryz.prog V0 none) : Ev.NoteOK Tryz.prog (Ev.ofProgV Tryz.prog V0 none) m120 :=
  Ev.Note.okN (gok_V0 hm hix) (M := []) (fun _ h => by cases h) m120_says
theorem k121 (hm : Tryz.prog.follows .mixedOrders = true) (hix : Ev.IxOK Tryz.prog V0 none) : Ev.NoteOK Tryz.prog (Ev.ofProgV Tryz.prog V0 none) m121 :=
  Ev.Note.ok (gok_V0 hm hix) (M := [m120]) (by simp only [List.forall_mem_cons, List.not_mem_nil, false_implies, implies_true, and_true]; exact k120 hm hix) m121_says
theorem memos_ok (hm : Tryz.prog.follows .mixedOrders = true) (hix : Ev.IxOK Tryz.prog V0 none) : ∀ m ∈ [m27, m28, m29, m51, m108, m109, m119, m121], Ev.NoteOK Tryz.prog (Ev.ofProgV Tryz.prog V0 none) m := by
  simp only [List.forall_mem_cons, List.not_mem_nil, false_implies, implies_true, and_true]
  exact ⟨k27 hm hix, k28 hm hix, k29 hm hix, k51 hm hix, k108 hm hix, k109 hm hix, k119 hm hix, k121 hm hix⟩
theorem ix_V0 : Ev.IxOK Tryz.prog V0 none := fun f h => by cases h

theorem f4_any (hm : Tryz.prog.follows .mixedOrders = true) (w : World) (hw : ∀ (j x : Nat) (o : Ev.AO), V0[j]? = some (x, o) → ∃ i : Ev.Info, i.blk = x ∧ i.off = 0 ∧ ∀ β, Ev.OR β i w o) :
    Calls Tryz.prog 4 #[] w fun e w' => e = .returned (.bool true) ∧ Below w.heap.size w w' :=
  Ev.callsW_true hm ix_V0 (memos_ok hm ix_V0) (fuel := 5000) (d := 60) (by kernel_rfl) w hw
end Go.Proofs.YtgfbjbdfckgdjaaGreatDoor

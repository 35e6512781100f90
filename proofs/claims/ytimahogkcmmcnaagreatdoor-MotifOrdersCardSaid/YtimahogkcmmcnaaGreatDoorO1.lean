/-
  MotifOrders's example, part 1: it proves what calls within it come to, each evaluated by itself. No conditions.
-/
import Derived.Test.YtimahogkcmmcnaaGreatDoorProg
import Derived.Test.YtimahogkcmmcnaaGreatDoorV3
set_option linter.unusedSimpArgs false
set_option linter.unusedVariables false
namespace Go.Proofs.YtimahogkcmmcnaaGreatDoor
open Go.RowKit
set_option maxHeartbeats 1000000
set_option maxRecDepth 100000

def m1 : Ev.Memo where
  f := 100
  args := [(.slice (some (0, 0)) 1 1), (.agg [(.slice (some (1, 0)) 2 2), (.int .i64 10), (.int .i64 0)])]
  n := 17
  old := [(0, .row [(.str [118]), (.int .i64 1)] 71 false 1), (1, .row [(.str [97]), (.str [118, 32, 62, 32, 53]), (.int .i64 1), (.str []), (.str [98]), (.str [118, 32, 62, 32, 97, 46, 118]), (.int .i64 1), (.str [])] 73 false 1)]
  v := (.bool true)
  m := 308
  new := []

theorem m1_says : m1.says (Ev.ofProg Tryz.prog) [] 5000 60 = true := by kernel_rfl

def m2 : Ev.Memo where
  f := 358
  args := [(.slice (some (0, 0)) 1 1), (.str [118, 32, 62, 32, 53]), (.slice (some (4, 0)) 1 1), (.slice (some (393, 0)) 0 0), (.slice none 0 0), (.slice none 0 0)]
  n := 395
  old := [(0, .row [(.str [118]), (.int .i64 1)] 71 false 1), (4, .row [(.int .i64 1), (.int .i64 6), (.str [])] 78 false 1), (393, .row [] 23 false 1)]
  v := (.tuple [(.agg [(.int .i64 1), (.int .i64 1), (.str [])]), (.int .i64 0)])
  m := 585
  new := []

theorem m2_says : m2.says (Ev.ofProg Tryz.prog) [m1] 5000 60 = true := by kernel_rfl

def m3 : Ev.Memo where
  f := 358
  args := [(.slice (some (0, 0)) 1 1), (.str [118, 32, 62, 32, 97, 46, 118]), (.slice (some (7, 0)) 1 1), (.slice (some (598, 0)) 1 1), (.slice (some (602, 0)) 1 1), (.slice (some (596, 0)) 1 1)]
  n := 603
  old := [(0, .row [(.str [118]), (.int .i64 1)] 71 false 1), (7, .row [(.int .i64 1), (.int .i64 3), (.str [])] 78 false 1), (598, .row [(.slice (some (0, 0)) 1 1)] 23 false 1), (602, .row [(.str [97])] 9 true 1), (596, .row [(.slice (some (4, 0)) 1 1)] 28 true 1), (4, .row [(.int .i64 1), (.int .i64 6), (.str [])] 78 false 1)]
  v := (.tuple [(.agg [(.int .i64 1), (.int .i64 0), (.str [])]), (.int .i64 0)])
  m := 822
  new := []

theorem m3_says : m3.says (Ev.ofProg Tryz.prog) [m1, m2] 5000 60 = true := by kernel_rfl

def m4 : Ev.Memo where
  f := 358
  args := [(.slice (some (0, 0)) 1 1), (.str [118, 32, 62, 32, 53]), (.slice (some (7, 0)) 1 1), (.slice (some (824, 0)) 0 0), (.slice none 0 0), (.slice none 0 0)]
  n := 826
  old := [(0, .row [(.str [118]), (.int .i64 1)] 71 false 1), (7, .row [(.int .i64 1), (.int .i64 3), (.str [])] 78 false 1), (824, .row [] 23 false 1)]
  v := (.tuple [(.agg [(.int .i64 1), (.int .i64 0), (.str [])]), (.int .i64 0)])
  m := 1016
  new := []

theorem m4_says : m4.says (Ev.ofProg Tryz.prog) [m1, m2, m3] 5000 60 = true := by kernel_rfl

def m5 : Ev.Memo where
  f := 358
  args := [(.slice (some (0, 0)) 1 1), (.str [118, 32, 62, 32, 53]), (.slice (some (10, 0)) 1 1), (.slice (some (1018, 0)) 0 0), (.slice none 0 0), (.slice none 0 0)]
  n := 1020
  old := [(0, .row [(.str [118]), (.int .i64 1)] 71 false 1), (10, .row [(.int .i64 1), (.int .i64 8), (.str [])] 78 false 1), (1018, .row [] 23 false 1)]
  v := (.tuple [(.agg [(.int .i64 1), (.int .i64 1), (.str [])]), (.int .i64 0)])
  m := 1210
  new := []

theorem m5_says : m5.says (Ev.ofProg Tryz.prog) [m1, m2, m3, m4] 5000 60 = true := by kernel_rfl

def m6 : Ev.Memo where
  f := 358
  args := [(.slice (some (0, 0)) 1 1), (.str [118, 32, 62, 32, 97, 46, 118]), (.slice (some (13, 0)) 1 1), (.slice (some (1223, 0)) 1 1), (.slice (some (1227, 0)) 1 1), (.slice (some (1221, 0)) 1 1)]
  n := 1228
  old := [(0, .row [(.str [118]), (.int .i64 1)] 71 false 1), (13, .row [(.int .i64 1), (.int .i64 9), (.str [])] 78 false 1), (1223, .row [(.slice (some (0, 0)) 1 1)] 23 false 1), (1227, .row [(.str [97])] 9 true 1), (1221, .row [(.slice (some (10, 0)) 1 1)] 28 true 1), (10, .row [(.int .i64 1), (.int .i64 8), (.str [])] 78 false 1)]
  v := (.tuple [(.agg [(.int .i64 1), (.int .i64 1), (.str [])]), (.int .i64 0)])
  m := 1447
  new := []

theorem m6_says : m6.says (Ev.ofProg Tryz.prog) [m1, m2, m3, m4, m5] 5000 60 = true := by kernel_rfl

def m7 : Ev.Memo where
  f := 358
  args := [(.slice (some (0, 0)) 1 1), (.str [118, 32, 62, 32, 53]), (.slice (some (13, 0)) 1 1), (.slice (some (1457, 0)) 0 0), (.slice none 0 0), (.slice none 0 0)]
  n := 1459
  old := [(0, .row [(.str [118]), (.int .i64 1)] 71 false 1), (13, .row [(.int .i64 1), (.int .i64 9), (.str [])] 78 false 1), (1457, .row [] 23 false 1)]
  v := (.tuple [(.agg [(.int .i64 1), (.int .i64 1), (.str [])]), (.int .i64 0)])
  m := 1649
  new := []

theorem m7_says : m7.says (Ev.ofProg Tryz.prog) [m1, m2, m3, m4, m5, m6] 5000 60 = true := by kernel_rfl

/-- They are right. -/
theorem memos_ok (hm : Tryz.prog.follows .mixedOrders = true) : ∀ m ∈ [m1, m2, m3, m4, m5, m6, m7], Ev.MemoOK Tryz.prog (Ev.ofProg Tryz.prog) m := by
  have hg := Ev.gok_ofProg hm
  have k1 : Ev.MemoOK Tryz.prog (Ev.ofProg Tryz.prog) m1 := Ev.Memo.ok hg (M := []) (fun _ h => by cases h) m1_says
  have k2 : Ev.MemoOK Tryz.prog (Ev.ofProg Tryz.prog) m2 := Ev.Memo.ok hg (M := [m1]) (by simp only [List.forall_mem_cons, List.not_mem_nil, false_implies, implies_true, and_true]; exact k1) m2_says
  have k3 : Ev.MemoOK Tryz.prog (Ev.ofProg Tryz.prog) m3 := Ev.Memo.ok hg (M := [m1, m2]) (by simp only [List.forall_mem_cons, List.not_mem_nil, false_implies, implies_true, and_true]; exact ⟨k1, k2⟩) m3_says
  have k4 : Ev.MemoOK Tryz.prog (Ev.ofProg Tryz.prog) m4 := Ev.Memo.ok hg (M := [m1, m2, m3]) (by simp only [List.forall_mem_cons, List.not_mem_nil, false_implies, implies_true, and_true]; exact ⟨k1, k2, k3⟩) m4_says
  have k5 : Ev.MemoOK Tryz.prog (Ev.ofProg Tryz.prog) m5 := Ev.Memo.ok hg (M := [m1, m2, m3, m4]) (by simp only [List.forall_mem_cons, List.not_mem_nil, false_implies, implies_true, and_true]; exact ⟨k1, k2, k3, k4⟩) m5_says
  have k6 : Ev.MemoOK Tryz.prog (Ev.ofProg Tryz.prog) m6 := Ev.Memo.ok hg (M := [m1, m2, m3, m4, m5]) (by simp only [List.forall_mem_cons, List.not_mem_nil, false_implies, implies_true, and_true]; exact ⟨k1, k2, k3, k4, k5⟩) m6_says
  have k7 : Ev.MemoOK Tryz.prog (Ev.ofProg Tryz.prog) m7 := Ev.Memo.ok hg (M := [m1, m2, m3, m4, m5, m6]) (by simp only [List.forall_mem_cons, List.not_mem_nil, false_implies, implies_true, and_true]; exact ⟨k1, k2, k3, k4, k5, k6⟩) m7_says
  simp only [List.forall_mem_cons, List.not_mem_nil, false_implies, implies_true, and_true]
  exact ⟨k1, k2, k3, k4, k5, k6, k7⟩
end Go.Proofs.YtimahogkcmmcnaaGreatDoor

/-
  NodeNil's example, part 1: it proves what calls within it come to, each evaluated by itself. No conditions.
-/
import Derived.Test.YtjmiegmeekpdcaaGreatDoorProg
import Derived.Test.YtjmiegmeekpdcaaGreatDoorV3
set_option linter.unusedSimpArgs false
set_option linter.unusedVariables false
namespace Go.Proofs.YtjmiegmeekpdcaaGreatDoor
open Go.RowKit
set_option maxHeartbeats 1000000
set_option maxRecDepth 100000

def m1 : Ev.Memo where
  f := 35
  args := [(.slice (some (6, 0)) 3 3), (.int .i64 1), (.int .i64 8), (.int .i64 0), (.int .i64 8)]
  n := 7
  old := [(6, .row [(.int .i64 1), (.str [115]), (.slice none 0 0), (.slice (some (0, 0)) 2 2), (.int .i64 5), (.str []), (.slice none 0 0), (.slice none 0 0), (.slice none 0 0), (.int .i64 0), (.int .i64 0), (.int .i64 0), (.int .i64 0), (.int .i64 0), (.slice none 0 0), (.slice none 0 0), (.int .i64 0), (.int .i64 0), (.slice none 0 0), (.bool false), (.int .i64 0), (.int .i64 0), (.slice none 0 0), (.int .i64 0), (.int .i64 0), (.int .i64 5), (.str [103]), (.slice (some (1, 0)) 1 1), (.slice none 0 0), (.int .i64 0), (.str []), (.slice none 0 0), (.slice (some (2, 0)) 1 1), (.slice none 0 0), (.int .i64 1), (.int .i64 10), (.int .i64 0), (.int .i64 0), (.int .i64 0), (.slice (some (3, 0)) 1 1), (.slice (some (4, 0)) 1 1), (.int .i64 0), (.int .i64 0), (.slice none 0 0), (.bool false), (.int .i64 0), (.int .i64 0), (.slice none 0 0), (.int .i64 0), (.int .i64 0), (.int .i64 9), (.str [111, 117, 116]), (.slice (some (5, 0)) 1 1), (.slice none 0 0), (.int .i64 0), (.str []), (.slice none 0 0), (.slice none 0 0), (.slice none 0 0), (.int .i64 0), (.int .i64 0), (.int .i64 0), (.int .i64 0), (.int .i64 0), (.slice none 0 0), (.slice none 0 0), (.int .i64 0), (.int .i64 0), (.slice none 0 0), (.bool false), (.int .i64 0), (.int .i64 1), (.slice none 0 0), (.int .i64 0), (.int .i64 0)] 63 false 1), (0, .row [(.str [107]), (.int .i64 2), (.str [118]), (.int .i64 1)] 99 false 1), (1, .row [(.int .i64 0)] 3 false 1), (2, .row [(.int .i64 0)] 3 false 1), (3, .row [(.int .i64 3), (.int .i64 1)] 101 false 1), (4, .row [(.str [116, 111, 116, 97, 108])] 9 false 1), (5, .row [(.int .i64 1)] 3 false 1)]
  v := (.int .i64 0)
  m := 92
  new := []

theorem m1_says : m1.says (Ev.ofProg Tryz.prog) [] 5000 60 = true := by kernel_rfl

def m2 : Ev.Memo where
  f := 66
  args := [(.slice (some (6, 0)) 3 3)]
  n := 93
  old := [(6, .row [(.int .i64 1), (.str [115]), (.slice none 0 0), (.slice (some (0, 0)) 2 2), (.int .i64 5), (.str []), (.slice none 0 0), (.slice none 0 0), (.slice none 0 0), (.int .i64 0), (.int .i64 0), (.int .i64 0), (.int .i64 0), (.int .i64 0), (.slice none 0 0), (.slice none 0 0), (.int .i64 0), (.int .i64 0), (.slice none 0 0), (.bool false), (.int .i64 0), (.int .i64 0), (.slice none 0 0), (.int .i64 0), (.int .i64 0), (.int .i64 5), (.str [103]), (.slice (some (1, 0)) 1 1), (.slice none 0 0), (.int .i64 0), (.str []), (.slice none 0 0), (.slice (some (2, 0)) 1 1), (.slice none 0 0), (.int .i64 1), (.int .i64 10), (.int .i64 0), (.int .i64 0), (.int .i64 0), (.slice (some (3, 0)) 1 1), (.slice (some (4, 0)) 1 1), (.int .i64 0), (.int .i64 0), (.slice none 0 0), (.bool false), (.int .i64 0), (.int .i64 0), (.slice none 0 0), (.int .i64 0), (.int .i64 0), (.int .i64 9), (.str [111, 117, 116]), (.slice (some (5, 0)) 1 1), (.slice none 0 0), (.int .i64 0), (.str []), (.slice none 0 0), (.slice none 0 0), (.slice none 0 0), (.int .i64 0), (.int .i64 0), (.int .i64 0), (.int .i64 0), (.int .i64 0), (.slice none 0 0), (.slice none 0 0), (.int .i64 0), (.int .i64 0), (.slice none 0 0), (.bool false), (.int .i64 0), (.int .i64 1), (.slice none 0 0), (.int .i64 0), (.int .i64 0)] 63 false 1), (0, .row [(.str [107]), (.int .i64 2), (.str [118]), (.int .i64 1)] 99 false 1), (1, .row [(.int .i64 0)] 3 false 1), (2, .row [(.int .i64 0)] 3 false 1), (3, .row [(.int .i64 3), (.int .i64 1)] 101 false 1), (4, .row [(.str [116, 111, 116, 97, 108])] 9 false 1), (5, .row [(.int .i64 1)] 3 false 1)]
  v := (.tuple [(.slice (some (165, 0)) 3 3), (.int .i64 0)])
  m := 166
  new := [(165, .row [(.slice (some (107, 0)) 2 2), (.slice (some (139, 0)) 4 4), (.slice (some (163, 0)) 4 4)] 54 true 1), (107, .row [(.str [107]), (.int .i64 2), (.str [118]), (.int .i64 1)] 99 true 2), (139, .row [(.str [107]), (.int .i64 2), (.str [98, 101, 103, 105, 110]), (.int .i64 1), (.str [101, 110, 100]), (.int .i64 1), (.str [116, 111, 116, 97, 108]), (.int .i64 1)] 99 true 2), (163, .row [(.str [107]), (.int .i64 2), (.str [98, 101, 103, 105, 110]), (.int .i64 1), (.str [101, 110, 100]), (.int .i64 1), (.str [116, 111, 116, 97, 108]), (.int .i64 1)] 99 true 2)]

theorem m2_says : m2.says (Ev.ofProg Tryz.prog) [m1] 5000 60 = true := by kernel_rfl

def m3 : Ev.Memo where
  f := 67
  args := [(.slice (some (6, 0)) 3 3)]
  n := 166
  old := [(6, .row [(.int .i64 1), (.str [115]), (.slice none 0 0), (.slice (some (0, 0)) 2 2), (.int .i64 5), (.str []), (.slice none 0 0), (.slice none 0 0), (.slice none 0 0), (.int .i64 0), (.int .i64 0), (.int .i64 0), (.int .i64 0), (.int .i64 0), (.slice none 0 0), (.slice none 0 0), (.int .i64 0), (.int .i64 0), (.slice none 0 0), (.bool false), (.int .i64 0), (.int .i64 0), (.slice none 0 0), (.int .i64 0), (.int .i64 0), (.int .i64 5), (.str [103]), (.slice (some (1, 0)) 1 1), (.slice none 0 0), (.int .i64 0), (.str []), (.slice none 0 0), (.slice (some (2, 0)) 1 1), (.slice none 0 0), (.int .i64 1), (.int .i64 10), (.int .i64 0), (.int .i64 0), (.int .i64 0), (.slice (some (3, 0)) 1 1), (.slice (some (4, 0)) 1 1), (.int .i64 0), (.int .i64 0), (.slice none 0 0), (.bool false), (.int .i64 0), (.int .i64 0), (.slice none 0 0), (.int .i64 0), (.int .i64 0), (.int .i64 9), (.str [111, 117, 116]), (.slice (some (5, 0)) 1 1), (.slice none 0 0), (.int .i64 0), (.str []), (.slice none 0 0), (.slice none 0 0), (.slice none 0 0), (.int .i64 0), (.int .i64 0), (.int .i64 0), (.int .i64 0), (.int .i64 0), (.slice none 0 0), (.slice none 0 0), (.int .i64 0), (.int .i64 0), (.slice none 0 0), (.bool false), (.int .i64 0), (.int .i64 1), (.slice none 0 0), (.int .i64 0), (.int .i64 0)] 63 false 1), (0, .row [(.str [107]), (.int .i64 2), (.str [118]), (.int .i64 1)] 99 false 1), (1, .row [(.int .i64 0)] 3 false 1), (2, .row [(.int .i64 0)] 3 false 1), (3, .row [(.int .i64 3), (.int .i64 1)] 101 false 1), (4, .row [(.str [116, 111, 116, 97, 108])] 9 false 1), (5, .row [(.int .i64 1)] 3 false 1)]
  v := (.tuple [(.slice (some (239, 0)) 3 3), (.int .i64 0)])
  m := 244
  new := [(239, .row [(.bool true), (.bool true), (.bool true)] 4 false 1)]

theorem m3_says : m3.says (Ev.ofProg Tryz.prog) [m1, m2] 5000 60 = true := by kernel_rfl

def m4 : Ev.Memo where
  f := 68
  args := [(.slice (some (6, 0)) 3 3), (.int .i64 1)]
  n := 244
  old := [(6, .row [(.int .i64 1), (.str [115]), (.slice none 0 0), (.slice (some (0, 0)) 2 2), (.int .i64 5), (.str []), (.slice none 0 0), (.slice none 0 0), (.slice none 0 0), (.int .i64 0), (.int .i64 0), (.int .i64 0), (.int .i64 0), (.int .i64 0), (.slice none 0 0), (.slice none 0 0), (.int .i64 0), (.int .i64 0), (.slice none 0 0), (.bool false), (.int .i64 0), (.int .i64 0), (.slice none 0 0), (.int .i64 0), (.int .i64 0), (.int .i64 5), (.str [103]), (.slice (some (1, 0)) 1 1), (.slice none 0 0), (.int .i64 0), (.str []), (.slice none 0 0), (.slice (some (2, 0)) 1 1), (.slice none 0 0), (.int .i64 1), (.int .i64 10), (.int .i64 0), (.int .i64 0), (.int .i64 0), (.slice (some (3, 0)) 1 1), (.slice (some (4, 0)) 1 1), (.int .i64 0), (.int .i64 0), (.slice none 0 0), (.bool false), (.int .i64 0), (.int .i64 0), (.slice none 0 0), (.int .i64 0), (.int .i64 0), (.int .i64 9), (.str [111, 117, 116]), (.slice (some (5, 0)) 1 1), (.slice none 0 0), (.int .i64 0), (.str []), (.slice none 0 0), (.slice none 0 0), (.slice none 0 0), (.int .i64 0), (.int .i64 0), (.int .i64 0), (.int .i64 0), (.int .i64 0), (.slice none 0 0), (.slice none 0 0), (.int .i64 0), (.int .i64 0), (.slice none 0 0), (.bool false), (.int .i64 0), (.int .i64 1), (.slice none 0 0), (.int .i64 0), (.int .i64 0)] 63 false 1), (0, .row [(.str [107]), (.int .i64 2), (.str [118]), (.int .i64 1)] 99 false 1), (1, .row [(.int .i64 0)] 3 false 1), (2, .row [(.int .i64 0)] 3 false 1), (3, .row [(.int .i64 3), (.int .i64 1)] 101 false 1), (4, .row [(.str [116, 111, 116, 97, 108])] 9 false 1), (5, .row [(.int .i64 1)] 3 false 1)]
  v := (.tuple [(.slice (some (319, 0)) 1 1), (.bool true), (.int .i64 0)])
  m := 320
  new := [(319, .row [(.int .i64 0)] 3 true 1)]

theorem m4_says : m4.says (Ev.ofProg Tryz.prog) [m1, m2, m3] 5000 60 = true := by kernel_rfl

def m5 : Ev.Memo where
  f := 20
  args := [(.agg [(.slice (some (321, 0)) 3 3), (.int .i64 1), (.int .i64 5), (.str [103]), (.slice (some (325, 0)) 1 1), (.slice none 0 0), (.int .i64 0), (.str []), (.slice none 0 0), (.slice (some (327, 0)) 1 1), (.slice none 0 0), (.int .i64 1), (.int .i64 10), (.int .i64 0), (.int .i64 0), (.int .i64 0), (.slice (some (329, 0)) 1 1), (.slice (some (331, 0)) 1 1), (.int .i64 0), (.int .i64 0), (.slice none 0 0), (.bool false), (.int .i64 0), (.int .i64 0), (.slice none 0 0), (.int .i64 0), (.int .i64 0), (.slice (some (336, 0)) 1 1), (.bool true), (.slice (some (338, 0)) 1 1), (.bool true), (.int .i64 8), (.int .i64 0), (.int .i64 8)]), (.int .i64 0), (.slice (some (347, 0)) 2 2)]
  n := 363
  old := [(321, .row [(.int .i64 1), (.str [115]), (.slice none 0 0), (.slice (some (323, 0)) 2 2), (.int .i64 5), (.str []), (.slice none 0 0), (.slice none 0 0), (.slice none 0 0), (.int .i64 0), (.int .i64 0), (.int .i64 0), (.int .i64 0), (.int .i64 0), (.slice none 0 0), (.slice none 0 0), (.int .i64 0), (.int .i64 0), (.slice none 0 0), (.bool false), (.int .i64 0), (.int .i64 0), (.slice none 0 0), (.int .i64 0), (.int .i64 0), (.int .i64 5), (.str [103]), (.slice (some (325, 0)) 1 1), (.slice none 0 0), (.int .i64 0), (.str []), (.slice none 0 0), (.slice (some (327, 0)) 1 1), (.slice none 0 0), (.int .i64 1), (.int .i64 10), (.int .i64 0), (.int .i64 0), (.int .i64 0), (.slice (some (329, 0)) 1 1), (.slice (some (331, 0)) 1 1), (.int .i64 0), (.int .i64 0), (.slice none 0 0), (.bool false), (.int .i64 0), (.int .i64 0), (.slice none 0 0), (.int .i64 0), (.int .i64 0), (.int .i64 9), (.str [111, 117, 116]), (.slice (some (333, 0)) 1 1), (.slice none 0 0), (.int .i64 0), (.str []), (.slice none 0 0), (.slice none 0 0), (.slice none 0 0), (.int .i64 0), (.int .i64 0), (.int .i64 0), (.int .i64 0), (.int .i64 0), (.slice none 0 0), (.slice none 0 0), (.int .i64 0), (.int .i64 0), (.slice none 0 0), (.bool false), (.int .i64 0), (.int .i64 1), (.slice none 0 0), (.int .i64 0), (.int .i64 0)] 63 true 25), (323, .row [(.str [107]), (.int .i64 2), (.str [118]), (.int .i64 1)] 99 true 2), (325, .row [(.int .i64 0)] 3 true 1), (327, .row [(.int .i64 0)] 3 true 1), (329, .row [(.int .i64 3), (.int .i64 1)] 101 true 2), (331, .row [(.str [116, 111, 116, 97, 108])] 9 true 1), (333, .row [(.int .i64 1)] 3 true 1), (336, .row [(.slice (some (107, 0)) 2 2)] 54 true 1), (107, .row [(.str [107]), (.int .i64 2), (.str [118]), (.int .i64 1)] 99 true 2), (338, .row [(.bool true)] 4 true 1), (347, .row [(.int .i64 2), (.int .i64 0), (.str [97]), (.int .i64 1), (.int .i64 5), (.str [])] 45 false 1)]
  v := (.int .i64 2)
  m := 461
  new := []

theorem m5_says : m5.says (Ev.ofProg Tryz.prog) [m1, m2, m3, m4] 5000 60 = true := by kernel_rfl

def m6 : Ev.Memo where
  f := 23
  args := [(.agg [(.slice (some (321, 0)) 3 3), (.int .i64 1), (.int .i64 5), (.str [103]), (.slice (some (325, 0)) 1 1), (.slice none 0 0), (.int .i64 0), (.str []), (.slice none 0 0), (.slice (some (327, 0)) 1 1), (.slice none 0 0), (.int .i64 1), (.int .i64 10), (.int .i64 0), (.int .i64 0), (.int .i64 0), (.slice (some (329, 0)) 1 1), (.slice (some (331, 0)) 1 1), (.int .i64 0), (.int .i64 0), (.slice none 0 0), (.bool false), (.int .i64 0), (.int .i64 0), (.slice none 0 0), (.int .i64 0), (.int .i64 0), (.slice (some (336, 0)) 1 1), (.bool true), (.slice (some (338, 0)) 1 1), (.bool true), (.int .i64 8), (.int .i64 0), (.int .i64 8)]), (.int .i64 0), (.slice (some (467, 0)) 2 2)]
  n := 468
  old := [(321, .row [(.int .i64 1), (.str [115]), (.slice none 0 0), (.slice (some (323, 0)) 2 2), (.int .i64 5), (.str []), (.slice none 0 0), (.slice none 0 0), (.slice none 0 0), (.int .i64 0), (.int .i64 0), (.int .i64 0), (.int .i64 0), (.int .i64 0), (.slice none 0 0), (.slice none 0 0), (.int .i64 0), (.int .i64 0), (.slice none 0 0), (.bool false), (.int .i64 0), (.int .i64 0), (.slice none 0 0), (.int .i64 0), (.int .i64 0), (.int .i64 5), (.str [103]), (.slice (some (325, 0)) 1 1), (.slice none 0 0), (.int .i64 0), (.str []), (.slice none 0 0), (.slice (some (327, 0)) 1 1), (.slice none 0 0), (.int .i64 1), (.int .i64 10), (.int .i64 0), (.int .i64 0), (.int .i64 0), (.slice (some (329, 0)) 1 1), (.slice (some (331, 0)) 1 1), (.int .i64 0), (.int .i64 0), (.slice none 0 0), (.bool false), (.int .i64 0), (.int .i64 0), (.slice none 0 0), (.int .i64 0), (.int .i64 0), (.int .i64 9), (.str [111, 117, 116]), (.slice (some (333, 0)) 1 1), (.slice none 0 0), (.int .i64 0), (.str []), (.slice none 0 0), (.slice none 0 0), (.slice none 0 0), (.int .i64 0), (.int .i64 0), (.int .i64 0), (.int .i64 0), (.int .i64 0), (.slice none 0 0), (.slice none 0 0), (.int .i64 0), (.int .i64 0), (.slice none 0 0), (.bool false), (.int .i64 0), (.int .i64 1), (.slice none 0 0), (.int .i64 0), (.int .i64 0)] 63 true 25), (323, .row [(.str [107]), (.int .i64 2), (.str [118]), (.int .i64 1)] 99 true 2), (325, .row [(.int .i64 0)] 3 true 1), (327, .row [(.int .i64 0)] 3 true 1), (329, .row [(.int .i64 3), (.int .i64 1)] 101 true 2), (331, .row [(.str [116, 111, 116, 97, 108])] 9 true 1), (333, .row [(.int .i64 1)] 3 true 1), (336, .row [(.slice (some (107, 0)) 2 2)] 54 true 1), (107, .row [(.str [107]), (.int .i64 2), (.str [118]), (.int .i64 1)] 99 true 2), (338, .row [(.bool true)] 4 true 1), (467, .row [(.int .i64 2), (.int .i64 0), (.str [97]), (.int .i64 1), (.int .i64 5), (.str [])] 45 true 3)]
  v := (.str [34, 97, 34])
  m := 565
  new := []

theorem m6_says : m6.says (Ev.ofProg Tryz.prog) [m1, m2, m3, m4, m5] 5000 60 = true := by kernel_rfl

/-- They are right. -/
theorem memos_ok (hm : Tryz.prog.follows .mixedOrders = true) : ∀ m ∈ [m1, m2, m3, m4, m5, m6], Ev.MemoOK Tryz.prog (Ev.ofProg Tryz.prog) m := by
  have hg := Ev.gok_ofProg hm
  have k1 : Ev.MemoOK Tryz.prog (Ev.ofProg Tryz.prog) m1 := Ev.Memo.ok hg (M := []) (fun _ h => by cases h) m1_says
  have k2 : Ev.MemoOK Tryz.prog (Ev.ofProg Tryz.prog) m2 := Ev.Memo.ok hg (M := [m1]) (by simp only [List.forall_mem_cons, List.not_mem_nil, false_implies, implies_true, and_true]; exact k1) m2_says
  have k3 : Ev.MemoOK Tryz.prog (Ev.ofProg Tryz.prog) m3 := Ev.Memo.ok hg (M := [m1, m2]) (by simp only [List.forall_mem_cons, List.not_mem_nil, false_implies, implies_true, and_true]; exact ⟨k1, k2⟩) m3_says
  have k4 : Ev.MemoOK Tryz.prog (Ev.ofProg Tryz.prog) m4 := Ev.Memo.ok hg (M := [m1, m2, m3]) (by simp only [List.forall_mem_cons, List.not_mem_nil, false_implies, implies_true, and_true]; exact ⟨k1, k2, k3⟩) m4_says
  have k5 : Ev.MemoOK Tryz.prog (Ev.ofProg Tryz.prog) m5 := Ev.Memo.ok hg (M := [m1, m2, m3, m4]) (by simp only [List.forall_mem_cons, List.not_mem_nil, false_implies, implies_true, and_true]; exact ⟨k1, k2, k3, k4⟩) m5_says
  have k6 : Ev.MemoOK Tryz.prog (Ev.ofProg Tryz.prog) m6 := Ev.Memo.ok hg (M := [m1, m2, m3, m4, m5]) (by simp only [List.forall_mem_cons, List.not_mem_nil, false_implies, implies_true, and_true]; exact ⟨k1, k2, k3, k4, k5⟩) m6_says
  simp only [List.forall_mem_cons, List.not_mem_nil, false_implies, implies_true, and_true]
  exact ⟨k1, k2, k3, k4, k5, k6⟩
end Go.Proofs.YtjmiegmeekpdcaaGreatDoor

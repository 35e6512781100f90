/-
  QuerySame's example, part D: it proves that the call of awake returns true. No conditions.
-/
import Derived.Test.YtimahogkcmmcnaaGreatDoorXC
set_option linter.unusedSimpArgs false
set_option linter.unusedVariables false
namespace Go.Proofs.YtimahogkcmmcnaaGreatDoor
open Go.RowKit
set_option maxHeartbeats 1000000
set_option maxRecDepth 100000
/-- They are right. -/
theorem qmemos_ok (hm : Tryz.prog.follows .mixedOrders = true) : ∀ m ∈ [q1, q2, q3, q4, q5, q6], Ev.MemoOK Tryz.prog (Ev.ofProgX Tryz.prog 1 258) m := by
  have hg := Ev.gok_ofProgX hm search_any
  have k1 : Ev.MemoOK Tryz.prog (Ev.ofProgX Tryz.prog 1 258) q1 := Ev.Memo.ok hg (M := []) (fun _ h => by cases h) q1_says
  have k2 : Ev.MemoOK Tryz.prog (Ev.ofProgX Tryz.prog 1 258) q2 := Ev.Memo.ok hg (M := [q1]) (by simp only [List.forall_mem_cons, List.not_mem_nil, false_implies, implies_true, and_true]; exact k1) q2_says
  have k3 : Ev.MemoOK Tryz.prog (Ev.ofProgX Tryz.prog 1 258) q3 := Ev.Memo.ok hg (M := [q1, q2]) (by simp only [List.forall_mem_cons, List.not_mem_nil, false_implies, implies_true, and_true]; exact ⟨k1, k2⟩) q3_says
  have k4 : Ev.MemoOK Tryz.prog (Ev.ofProgX Tryz.prog 1 258) q4 := Ev.Memo.ok hg (M := [q1, q2, q3]) (by simp only [List.forall_mem_cons, List.not_mem_nil, false_implies, implies_true, and_true]; exact ⟨k1, k2, k3⟩) q4_says
  have k5 : Ev.MemoOK Tryz.prog (Ev.ofProgX Tryz.prog 1 258) q5 := Ev.Memo.ok hg (M := [q1, q2, q3, q4]) (by simp only [List.forall_mem_cons, List.not_mem_nil, false_implies, implies_true, and_true]; exact ⟨k1, k2, k3, k4⟩) q5_says
  have k6 : Ev.MemoOK Tryz.prog (Ev.ofProgX Tryz.prog 1 258) q6 := Ev.Memo.ok hg (M := [q1, q2, q3, q4, q5]) (by simp only [List.forall_mem_cons, List.not_mem_nil, false_implies, implies_true, and_true]; exact ⟨k1, k2, k3, k4, k5⟩) q6_says
  simp only [List.forall_mem_cons, List.not_mem_nil, false_implies, implies_true, and_true]
  exact ⟨k1, k2, k3, k4, k5, k6⟩

theorem f30_any (hm : Tryz.prog.follows .mixedOrders = true) (w : World) {m : Int} {e f1 f2 : Nat} (hw : w.heap[1]? = some (.cells #[.int .i64 m] e (f1, f2))) :
    Calls Tryz.prog 30 #[] w fun e w' => e = .returned (.bool true) ∧ Below w.heap.size w w' :=
  Ev.callsX_true hm search_any (qmemos_ok hm) (fuel := 5000) (d := 60) (by kernel_rfl) w hw
end Go.Proofs.YtimahogkcmmcnaaGreatDoor

import Derived.Test.YtdnkfgnjeibjeaaA2
import Derived.Lib.QuietBelow
namespace Go.Proofs.Ytdnkfgnjeibjeaa
open Go.RowKit

def cls (k : Int) : Int := if k == 1 || k == 2 then k else 0

theorem cls_vals (k : Int) : cls k = 0 ∨ cls k = 1 ∨ cls k = 2 := by
  unfold cls; by_cases h1 : k = 1
  · simp [h1]
  · by_cases h2 : k = 2 <;> simp [h1, h2]

def lessS (a b : ByteArray) : Bool := Op.bytesLess a.toList b.toList

def cmpVal (a b : Val) : Int :=
  if cls a.k != cls b.k then (if cls a.k < cls b.k then -1 else 1)
  else if cls a.k == 1 then (if a.n < b.n then -1 else if b.n < a.n then 1 else 0)
  else if cls a.k == 2 then (if Op.bytesLess a.s.toList b.s.toList then -1 else if (!Op.bytesLess a.s.toList b.s.toList && !(a.s.toList == b.s.toList)) then 1 else 0)
  else 0

section leaves
set_option maxHeartbeats 400000

theorem f89_any (v : Val) (w : World) :
    Calls Try.prog 89 #[v.v] w fun e w' => e = .returned (.int .i64 (cls v.k)) ∧ Below w.heap.size w w' := by
  go_enter Try.func89, Try.ntmps89
  go_wp2
  all_goals go_ret
  all_goals (exact ⟨ret_int (by simp_all [cls]), (Below.refl _ _).alloc (Nat.le_refl _) _⟩)

/-- What the two class regions leave. -/
theorem below_of_class {w w' : World} (h : ∃ p : Regrown, w' = Sort.grow (redrawn w p.d) p.os) : Below w.heap.size w w' := by
  obtain ⟨p, rfl⟩ := h
  exact below_regrown _ _ _

theorem f69_ne (a b : Val) (w : World) (hne : (cls a.k != cls b.k) = true) :
    Calls Try.prog 69 #[a.v, b.v] w fun e w' => e = .returned (.int .i64 (cmpVal a b)) ∧ Below w.heap.size w w' := by
  have hA := fun (W : World) d os => Calls.regrown_of (f89_any a (Sort.grow (redrawn W d) os))
  have hB := fun (W : World) d os => Calls.regrown_of (f89_any b (Sort.grow (redrawn W d) os))
  have HA := Lib.hid hA
  have HB := Lib.hid hB
  clear hA hB
  go_enter Try.func69, Try.ntmps69
  go_wp2_with fail
  have hcl := fun d os b' o' h => (below_regrown ((w.alloc (Obj.cells #[Value.int IntKind.i64 a.k, Value.int IntKind.i64 a.n, Value.string a.s] 112)).alloc (Obj.cells #[Value.int IntKind.i64 b.k, Value.int IntKind.i64 b.n, Value.string b.s] 112)) d os).cell (p := ⟨b', o', none⟩) h
  refine wp_region_quiet_below (by kernel_rfl) (by kernel_rfl) ?_
  repeat (quiet_step (first | with_reducible exact HA.out _ _ _ | with_reducible exact HB.out _ _ _))
  refine wpQuiet_nil ?_
  intro wq hw'
  have hq := below_of_class hw'
  clear hw' hcl
  obtain ⟨hc, hf⟩ := bcell hq
  go_wp2_with fail
  have hcl := fun d os b' o' h => (below_regrown wq d os).cell (p := ⟨b', o', none⟩) h
  have hz : w.heap.size + 1 < wq.heap.size := by have := hq.size; simp at this; omega
  have hz0 : w.heap.size < wq.heap.size := by omega
  refine wp_region_quiet_below (by kernel_rfl) (by kernel_rfl) ?_
  repeat (quiet_step (first | with_reducible exact HA.out _ _ _ | with_reducible exact HB.out _ _ _))
  refine wpQuiet_nil ?_
  intro wr hw'
  have hr := below_of_class hw'
  have hbb := below_then (below_box2 hq) hr
  clear hw' hcl hc hf hz hq hr
  go_wp2_with fail
  all_goals go_ret
  · rename_i h
    exact ⟨ret_int (by simp [cmpVal, hne, h]), hbb⟩
  · rename_i h
    exact ⟨ret_int (by simp [cmpVal, hne]; omega), hbb⟩

theorem f69_eq (a b : Val) (w : World) (hne : (cls a.k != cls b.k) = false) :
    Calls Try.prog 69 #[a.v, b.v] w fun e w' => e = .returned (.int .i64 (cmpVal a b)) ∧ Below w.heap.size w w' := by
  have hA := fun (W : World) d os => Calls.regrown_of (f89_any a (Sort.grow (redrawn W d) os))
  have hB := fun (W : World) d os => Calls.regrown_of (f89_any b (Sort.grow (redrawn W d) os))
  have HA := Lib.hid hA
  have HB := Lib.hid hB
  clear hA hB
  go_enter Try.func69, Try.ntmps69
  go_wp2_with fail
  have hcl := fun d os b' o' h => (below_regrown ((w.alloc (Obj.cells #[Value.int IntKind.i64 a.k, Value.int IntKind.i64 a.n, Value.string a.s] 112)).alloc (Obj.cells #[Value.int IntKind.i64 b.k, Value.int IntKind.i64 b.n, Value.string b.s] 112)) d os).cell (p := ⟨b', o', none⟩) h
  refine wp_region_quiet_below (by kernel_rfl) (by kernel_rfl) ?_
  repeat (quiet_step (first | with_reducible exact HA.out _ _ _ | with_reducible exact HB.out _ _ _))
  refine wpQuiet_nil ?_
  intro wq hw'
  have hq := below_of_class hw'
  clear hw' hcl
  obtain ⟨hc, hf⟩ := bcell hq
  have HQ := Lib.hid hq
  clear hq
  rcases cls_vals a.k with h | h | h
  · have h1 : (cls a.k == 1) = false := by simp [h]
    have h2 : (cls a.k == 2) = false := by simp [h]
    clear h
    go_wp2_with (go_at_call 89; refine (f89_any a _).mono ?_; rintro e w' ⟨rfl, hb⟩; have HQ := Lib.hid (below_then HQ.out hb); obtain ⟨hc, hf⟩ := bcell HQ.out; clear hb)
    go_ret
    exact ⟨ret_int (by simp [cmpVal, hne, h1, h2]), below_box2 HQ.out⟩
  · have h1 : (cls a.k == 1) = true := by simp [h]
    have h2 : (cls a.k == 2) = false := by simp [h]
    clear h
    go_wp2_with (go_at_call 89; refine (f89_any a _).mono ?_; rintro e w' ⟨rfl, hb⟩; have HQ := Lib.hid (below_then HQ.out hb); obtain ⟨hc, hf⟩ := bcell HQ.out; clear hb)
    all_goals go_ret
    all_goals (exact ⟨ret_int (by simp only [cmpVal, hne, h1]; simp only [Bool.false_eq_true, if_false, if_true]; (repeat' split) <;> omega), below_box2 HQ.out⟩)
  · have h1 : (cls a.k == 1) = false := by simp [h]
    have h2 : (cls a.k == 2) = true := by simp [h]
    clear h
    go_wp2_with (go_at_call 89; refine (f89_any a _).mono ?_; rintro e w' ⟨rfl, hb⟩; have HQ := Lib.hid (below_then HQ.out hb); obtain ⟨hc, hf⟩ := bcell HQ.out; clear hb)
    all_goals go_ret
    all_goals (exact ⟨ret_int (by simp_all [cmpVal]), below_box2 HQ.out⟩)

theorem f69_any (a b : Val) (w : World) :
    Calls Try.prog 69 #[a.v, b.v] w fun e w' => e = .returned (.int .i64 (cmpVal a b)) ∧ Below w.heap.size w w' := by
  cases h : (cls a.k != cls b.k)
  · exact f69_eq a b w h
  · exact f69_ne a b w h

end leaves
end Go.Proofs.Ytdnkfgnjeibjeaa

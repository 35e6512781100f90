import Derived.Test.YtdnkfgnjeibjeaaA1
import Derived.Deep.RegionHeld3
import Derived.Deep.QuietTactic
import Derived.BigQuiet
import Derived.Deep.DeepCutAuto
namespace Go.Proofs.Ytdnkfgnjeibjeaa
open Go.RowKit

section leaves
set_option maxHeartbeats 400000

theorem f67_any (e : Elem) (r : Value) (w : World) (D : Nat → Prop) (hr : RowAt w D r e.row) :
    Calls Try.prog 67 #[.agg #[.int .i64 e.t, r, .int .i64 e.c]] w fun x w' => x = .returned (.bool (validChange e)) ∧ Below w.heap.size w w' := by
  have hR := fun (W : World) (h : Below w.heap.size w W) => f87_any W r e.row D (RowAt.below hr h)
  obtain ⟨a, cap, rfl, hl, hx⟩ := hr
  clear hx
  go_enter Try.func67, Try.ntmps67
  go_wp2_with (first | (go_at_call 86; refine (f86_any _ _ _ _).mono ?_; rintro e w' ⟨rfl, rfl⟩) | (go_at_call 87; refine (hR _ ((Below.refl _ _).alloc (Nat.le_refl _) _)).mono ?_; rintro e w' ⟨rfl, hb⟩; obtain ⟨hc, hf⟩ := bcell hb) | (go_at_call 88; refine (f88_any _ _).mono ?_; rintro e w' ⟨rfl, rfl⟩))
  all_goals go_ret
  all_goals (exact ⟨ret_bool (by simp [validChange, *]), (by first | exact below_box hb | exact (Below.refl _ _).alloc (Nat.le_refl _) _)⟩)

theorem f40_any (e : Elem) (r : Value) (w : World) (D : Nat → Prop) (hr : RowAt w D r e.row) :
    Calls Try.prog 40 #[ev e r] w fun x w' => x = .returned (.bool (validElem e)) ∧ Below w.heap.size w w' := by
  have hR := fun (W : World) (h : Below w.heap.size w W) => f67_any e r W D (RowAt.below hr h)
  obtain ⟨a, cap, rfl, hl, hx⟩ := hr
  clear hx
  have HR := Lib.hid hR
  clear hR
  go_enter Try.func40, Try.ntmps40
  go_upto_region 2 with (fail)
  go_cut [4] (fun s4 wx => s4 = .bool (bareElem e) ∧ wx = ((w.alloc (.cells #[.int .i64 e.k, .int .i64 e.n, .int .i64 e.t, .slice a e.row.length cap, .int .i64 e.c] 34)).alloc (.cells #[.int .i64 e.t, .slice a e.row.length cap, .int .i64 e.c] 32)))
  case first =>
    cases h0 : (e.t == 0)
    · go_wp2
      go_meet
      exact ⟨by simp [bareElem, h0], rfl⟩
    · cases h1 : (e.row.length == 0)
      · have h1' : ((e.row.length : Int) == 0) = false := by simpa using h1
        go_wp2
        go_meet
        exact ⟨by simp [bareElem, h0, h1], rfl⟩
      · have h1' : ((e.row.length : Int) == 0) = true := by simpa using h1
        go_wp2
        go_meet
        exact ⟨by simp [bareElem, h0, h1], rfl⟩
  case rest =>
    obtain ⟨rfl, rfl⟩ := hcut
    go_wp2_with (go_at_call 67; refine (HR.out _ (((Below.refl _ _).alloc (Nat.le_refl _) _).alloc (by simp) _)).mono ?_; rintro e w' ⟨rfl, hb⟩; obtain ⟨hc, hf⟩ := bcell hb)
    all_goals go_ret
    all_goals (exact ⟨ret_bool (by simp [validElem, withinB, *] <;> omega), (by first | exact below_box2 hb | exact ((Below.refl _ _).alloc (Nat.le_refl _) _).alloc (by simp) _)⟩)
end leaves
end Go.Proofs.Ytdnkfgnjeibjeaa

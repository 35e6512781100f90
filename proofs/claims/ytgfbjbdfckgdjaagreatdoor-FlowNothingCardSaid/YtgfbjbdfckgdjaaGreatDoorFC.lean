/-
  The walks of FlowNothing, part 3: the act, and more methods of a nil job. No conditions.
-/
import Derived.Test.YtgfbjbdfckgdjaaGreatDoorFB
set_option linter.unusedSimpArgs false
set_option linter.unusedVariables false
namespace Go.Proofs.YtgfbjbdfckgdjaaGreatDoor
open Go.RowKit

section walks
set_option maxHeartbeats 1000000
set_option maxRecDepth 100000

theorem f61_nil (w : World) (n : Int) (u v : Value) : Calls Tryz.prog 61 #[.pointer none, .int .i64 n, u, v] w fun e w' => e = .returned (.tuple #[.int .i64 0, .int .i64 1]) ∧ w' = w := by
  go_enter Tryz.func61, Tryz.ntmps61
  go_wp2
  exact bodyPost_ret (v := .tuple #[.int .i64 0, .int .i64 1]) (by kernel_rfl) rfl ⟨rfl, rfl⟩

theorem f23_nil (w : World) (n : Int) : Calls Tryz.prog 23 #[.pointer none, .int .i64 n] w fun e w' => e = .returned (.tuple #[.int .i64 0, .int .i64 1]) ∧ w' = w := by
  go_enter Tryz.func23, Tryz.ntmps23
  go_wp2_with (go_at_call 61; refine (f61_nil _ _ _ _).mono ?_; rintro e w7 ⟨rfl, rfl⟩)
  exact bodyPost_ret (v := .tuple #[.int .i64 0, .int .i64 1]) (by kernel_rfl) rfl ⟨rfl, rfl⟩

theorem f24_nil (w : World) (n : Int) : Calls Tryz.prog 24 #[.pointer none, .int .i64 n] w fun e w' => e = .returned (.tuple #[.int .i64 0, .int .i64 1]) ∧ w' = w := by
  go_enter Tryz.func24, Tryz.ntmps24
  go_wp2_with (go_at_call 61; refine (f61_nil _ _ _ _).mono ?_; rintro e w7 ⟨rfl, rfl⟩)
  exact bodyPost_ret (v := .tuple #[.int .i64 0, .int .i64 1]) (by kernel_rfl) rfl ⟨rfl, rfl⟩

theorem f27_nil (w : World) (s t : ByteArray) (a : Option Addr) (n c : Nat) : Calls Tryz.prog 27 #[.pointer none, .agg #[.string s, .string t, .slice a n c]] w fun e w' => e = .returned (.int .i64 1) ∧ Below w.heap.size w w' := by
  have hb0 := (Below.refl w.heap.size w).alloc (Nat.le_refl _) (Obj.cells #[.string s, .string t, .slice a n c] 64)
  have HB := Lib.hid hb0
  clear hb0
  go_enter Tryz.func27, Tryz.ntmps27
  go_wp2
  go_ret
  exact ⟨rfl, HB.out⟩

/-- An act's box. -/
def ActB (w : World) (b : Nat) (k : Int) (n m : Int) (a s : ByteArray) (na : Option Addr) (nn nc : Nat) (ea : Option Addr) (en ec : Nat) : Prop :=
  ∃ t, w.heap[b]? = some (.cells #[.int .u8 k, .int .i64 n, .int .i64 m, .string a, .string s, .slice na nn nc, .slice ea en ec] t (0, 0))

theorem ActB.cells {w : World} {b : Nat} {k n m : Int} {a s : ByteArray} {na : Option Addr} {nn nc : Nat} {ea : Option Addr} {en ec : Nat} (h : ActB w b k n m a s na nn nc ea en ec) :
    w.cell? ⟨b, 0, none⟩ = some (.int .u8 k) ∧ w.cell? ⟨b, 1, none⟩ = some (.int .i64 n) ∧ w.cell? ⟨b, 2, none⟩ = some (.int .i64 m) ∧ w.cell? ⟨b, 3, none⟩ = some (.string a) ∧ w.cell? ⟨b, 4, none⟩ = some (.string s) ∧
    w.cell? ⟨b, 5, none⟩ = some (.slice na nn nc) ∧ w.cell? ⟨b, 6, none⟩ = some (.slice ea en ec) := by
  obtain ⟨t, h⟩ := h
  refine ⟨?_, ?_, ?_, ?_, ?_, ?_, ?_⟩ <;> rw [cell_of_row w b _ _ t (0, 0) h] <;> rfl

theorem f6_nil (w : World) (k n m : Int) (a s : ByteArray) (na : Option Addr) (nn nc : Nat) (ea : Option Addr) (en ec : Nat) :
    Calls Tryz.prog 6 #[.pointer none, .slice none 0 0, .agg #[.int .u8 k, .int .i64 n, .int .i64 m, .string a, .string s, .slice na nn nc, .slice ea en ec]] w fun e w' => e = .returned (.tuple #[.slice none 0 0, .int .i64 1]) ∧ Below w.heap.size w w' := by
  have hb0 : Below w.heap.size w (w.alloc (Obj.cells #[.int .u8 k, .int .i64 n, .int .i64 m, .string a, .string s, .slice na nn nc, .slice ea en ec] 25)) := (Below.refl w.heap.size w).alloc (Nat.le_refl _) _
  have HB := Lib.hid hb0
  clear hb0
  go_enter Tryz.func6, Tryz.ntmps6
  by_cases k4 : k.tmod 15 = 4
  · go_wp2_with (go_at_call 21; refine (f21_nil _ _).mono ?_; rintro e w7 ⟨rfl, rfl⟩)
    exact bodyPost_ret (v := .tuple #[.slice none 0 0, .int .i64 1]) (by kernel_rfl) rfl ⟨rfl, HB.out⟩
  by_cases k5 : k.tmod 15 = 5
  · go_wp2_with (go_at_call 21; refine (f21_nil _ _).mono ?_; rintro e w7 ⟨rfl, rfl⟩)
    exact bodyPost_ret (v := .tuple #[.slice none 0 0, .int .i64 1]) (by kernel_rfl) rfl ⟨rfl, HB.out⟩
  by_cases k6 : k.tmod 15 = 6
  · go_wp2_with (go_at_call 22; refine (f22_nil _).mono ?_; rintro e w7 ⟨rfl, rfl⟩)
    exact bodyPost_ret (v := .tuple #[.slice none 0 0, .int .i64 1]) (by kernel_rfl) rfl ⟨rfl, HB.out⟩
  by_cases k7 : k.tmod 15 = 7
  · go_wp2_with (go_at_call 19; refine (f19_nil _ _).mono ?_; rintro e w7 ⟨rfl, rfl⟩)
    exact bodyPost_ret (v := .tuple #[.slice none 0 0, .int .i64 1]) (by kernel_rfl) rfl ⟨rfl, HB.out⟩
  by_cases k8 : k.tmod 15 = 8
  · go_wp2_with (go_at_call 23; refine (f23_nil _ _).mono ?_; rintro e w7 ⟨rfl, rfl⟩)
    exact bodyPost_ret (v := .tuple #[.slice none 0 0, .int .i64 1]) (by kernel_rfl) rfl ⟨rfl, HB.out⟩
  by_cases k9 : k.tmod 15 = 9
  · go_wp2_with (go_at_call 24; refine (f24_nil _ _).mono ?_; rintro e w7 ⟨rfl, rfl⟩)
    exact bodyPost_ret (v := .tuple #[.slice none 0 0, .int .i64 1]) (by kernel_rfl) rfl ⟨rfl, HB.out⟩
  by_cases k10 : k.tmod 15 = 10
  · go_wp2_with (go_at_call 25; refine (f25_nil _ _ _).mono ?_; rintro e w7 ⟨rfl, rfl⟩)
    exact bodyPost_ret (v := .tuple #[.slice none 0 0, .int .i64 1]) (by kernel_rfl) rfl ⟨rfl, HB.out⟩
  by_cases k11 : k.tmod 15 = 11
  · go_wp2_with (go_at_call 26; refine (f26_nil _ _ _ _).mono ?_; rintro e w7 ⟨rfl, rfl⟩)
    exact bodyPost_ret (v := .tuple #[.slice none 0 0, .int .i64 1]) (by kernel_rfl) rfl ⟨rfl, HB.out⟩
  by_cases k12 : k.tmod 15 = 12
  · go_wp2_with (go_at_call 27; refine (f27_nil _ _ _ _ _ _).mono ?_; rintro e w7 ⟨rfl, hb7⟩; have HB7 := Lib.hid hb7; clear hb7)
    have HB8 := HB.out.alloc HB.out.size (Obj.cells #[.string s, .string a, .slice ea en ec] 64)
    exact bodyPost_ret (v := .tuple #[.slice none 0 0, .int .i64 1]) (by kernel_rfl) rfl ⟨rfl, HB8.trans (HB7.out.mono HB8.size)⟩
  by_cases k13 : k.tmod 15 = 13
  · go_wp2_with (go_at_call 28; refine (f28_nil _ _ _ _ _ _).mono ?_; rintro e w7 ⟨rfl, hb7⟩; have HB7 := Lib.hid hb7; clear hb7)
    exact bodyPost_ret (v := .tuple #[.slice none 0 0, .int .i64 1]) (by kernel_rfl) rfl ⟨rfl, HB.out.trans (HB7.out.mono HB.out.size)⟩
  by_cases k14 : k.tmod 15 = 14
  · go_wp2_with (go_at_call 29; refine (f29_nil _ _ _).mono ?_; rintro e w7 ⟨rfl, rfl⟩)
    exact bodyPost_ret (v := .tuple #[.slice none 0 0, .int .i64 1]) (by kernel_rfl) rfl ⟨rfl, HB.out⟩
  go_wp2_with (go_at_call 30; refine (f30_nil _ _ _ _).mono ?_; rintro e w7 ⟨rfl, rfl⟩)
  exact bodyPost_ret (v := .tuple #[.slice none 0 0, .int .i64 1]) (by kernel_rfl) rfl ⟨rfl, HB.out⟩
end walks
end Go.Proofs.YtgfbjbdfckgdjaaGreatDoor

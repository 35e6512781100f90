/-
  The walks of FlowNothing, part 5: at every act the law returns true and leaves what there was; conditions: that its example returns true.
-/
import Derived.Test.YtgfbjbdfckgdjaaGreatDoorFD
set_option linter.unusedSimpArgs false
set_option linter.unusedVariables false
namespace Go.Proofs.YtgfbjbdfckgdjaaGreatDoor
open Go.RowKit

section walks
set_option maxHeartbeats 4000000
set_option maxRecDepth 100000

theorem ActB.below {w w' : World} {b : Nat} {k n m : Int} {a s : ByteArray} {na : Option Addr} {nn nc : Nat} {ea : Option Addr} {en ec : Nat} (h : ActB w b k n m a s na nn nc ea en ec) (hb : Below w.heap.size w w') : ActB w' b k n m a s na nn nc ea en ec := by
  obtain ⟨t, h⟩ := h
  exact ⟨t, (hb.block b (Array.getElem?_eq_some_iff.1 h).1).trans h⟩

/-- What the walk of the law bears: what there was stands, the act's box too. -/
structure FA3 (w W : World) (k n m : Int) (a s : ByteArray) (na : Option Addr) (nn nc : Nat) (ea : Option Addr) (en ec : Nat) : Prop where
  below : Below w.heap.size w W
  box : ActB W w.heap.size k n m a s na nn nc ea en ec

theorem FA3.next {w W W' : World} {k n m : Int} {a s : ByteArray} {na : Option Addr} {nn nc : Nat} {ea : Option Addr} {en ec : Nat} (h : FA3 w W k n m a s na nn nc ea en ec) (hb : Below W.heap.size W W') : FA3 w W' k n m a s na nn nc ea en ec :=
  ⟨h.below.trans (hb.mono h.below.size), h.box.below hb⟩

theorem f3_any (w : World) (hAw : ∀ W, Below w.heap.size w W → Calls Tryz.prog 4 #[] W fun e w' => e = .returned (.bool true) ∧ Below W.heap.size W w') (k n m : Int) (a s : ByteArray) (na : Option Addr) (nn nc : Nat) (ea : Option Addr) (en ec : Nat)
    (ha : a.size ≤ 9223372036854775807) (hs : s.size ≤ 9223372036854775807) (hn : nn ≤ 9223372036854775807) (he : EvsIn w ea en) :
    Calls Tryz.prog 3 #[.agg #[.int .u8 k, .int .i64 n, .int .i64 m, .string a, .string s, .slice na nn nc, .slice ea en ec]] w fun e w' => e = .returned (.bool true) ∧ Below w.heap.size w w' := by
  have hb0 : FA3 w (w.alloc (Obj.cells #[.int .u8 k, .int .i64 n, .int .i64 m, .string a, .string s, .slice na nn nc, .slice ea en ec] 25)) k n m a s na nn nc ea en ec := ⟨(Below.refl _ _).alloc (Nat.le_refl _) _, _, World.alloc_heap_new _ _⟩
  have HE := Lib.hid he
  have HAw := Lib.hid hAw
  have HB := Lib.hid hb0
  clear hb0 hAw he
  go_enter Tryz.func3, Tryz.ntmps3
  go_wp2_with (first
    | (go_at_call 4; refine (HAw.out _ HB.out.below).mono ?_; rintro e w1 ⟨rfl, hb1⟩; have HB1 := Lib.hid (HB.out.next hb1); clear hb1
       obtain ⟨c0, c1, c2, c3, c4, c5, c6⟩ := HB1.out.box.cells)
    | (go_at_call 5; refine (f5_any _ _ k n m a s na nn nc ea en ec ⟨_, World.alloc_heap_new _ _⟩ ha hs hn (HE.out.below (HB1.out.below.alloc HB1.out.below.size _))).mono ?_; rintro e w2 ⟨⟨bb, rfl⟩, rfl⟩; have HB2 := Lib.hid (HB1.out.next ((Below.refl _ _).alloc (Nat.le_refl _) (Obj.cells #[.int .u8 k, .int .i64 n, .int .i64 m, .string a, .string s, .slice na nn nc, .slice ea en ec] 25))); clear c0 c1 c2 c3 c4 c5 c6
       obtain ⟨c0, c1, c2, c3, c4, c5, c6⟩ := HB2.out.box.cells
       cases bb)
    | (go_at_call 6; refine (f6_nil _ _ _ _ _ _ _ _ _ _ _ _).mono ?_; rintro e w3 ⟨rfl, hb3⟩; have HB3 := Lib.hid (HB2.out.next hb3); clear hb3 c0 c1 c2 c3 c4 c5 c6
       obtain ⟨c0, c1, c2, c3, c4, c5, c6⟩ := HB3.out.box.cells)
    | (go_at_call 7; refine (f7_nil _).mono ?_; rintro e w7 ⟨rfl, rfl⟩)
    | (go_at_call 8; refine (f8_nil _ _).mono ?_; rintro e w7 ⟨rfl, rfl⟩)
    | (go_at_call 9; refine (f9_nil _ _).mono ?_; rintro e w7 ⟨rfl, rfl⟩)
    | (go_at_call 10; refine (f10_nil _ _).mono ?_; rintro e w10 ⟨rfl, hb10⟩; have HB10 := Lib.hid (HB3.out.next hb10); clear hb10)
    | (go_at_call 11; refine (f11_nil _).mono ?_; rintro e w7 ⟨rfl, rfl⟩)
    | (go_at_call 12; refine (f12_nil _).mono ?_; rintro e w7 ⟨rfl, rfl⟩)
    | (go_at_call 13; refine (f13_nil _).mono ?_; rintro e w7 ⟨rfl, rfl⟩)
    | (go_at_call 14; refine (f14_nil _).mono ?_; rintro e w7 ⟨rfl, rfl⟩)
    | (go_at_call 15; refine (f15_nil _).mono ?_; rintro e w7 ⟨rfl, rfl⟩)
    | (go_at_call 16; refine (f16_nil _).mono ?_; rintro e w7 ⟨rfl, rfl⟩))
  · go_ret
    exact ⟨rfl, HB10.out.below⟩
  · go_ret
    exact ⟨rfl, HB2.out.below⟩
end walks
end Go.Proofs.YtgfbjbdfckgdjaaGreatDoor

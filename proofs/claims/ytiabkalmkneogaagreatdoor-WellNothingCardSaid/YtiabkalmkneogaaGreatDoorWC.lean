/-
  The walks of WellNothing, part 3: Read of a nil well, and the law. No conditions.
-/
import Derived.Test.YtiabkalmkneogaaGreatDoorWB
import Derived.Laws.ResultCell
import Derived.RangeFuncRecord
namespace Go.Proofs.YtiabkalmkneogaaGreatDoor
open Go.RowKit

section walks
set_option maxHeartbeats 1000000
set_option maxRecDepth 100000

/-- What Read of a nil well gives. -/
abbrev noRead : Value := .agg #[.int .i64 0, .string ByteArray.empty, .int .i64 0, .slice none 0 0, .bool false, .int .i64 0]

theorem f19_nil (w : World) (i : Int) : Calls Tryz.prog 19 #[.pointer none, .int .i64 i] w fun e w' => e = .returned (.tuple #[noRead, .int .i64 1]) ∧ Below w.heap.size w w' := by
  go_enter Tryz.func19, Tryz.ntmps19
  go_wp2
  refine bodyPost_ret (v := .tuple #[noRead, .int .i64 1]) ?_ rfl ⟨rfl, (Below.refl _ _).alloc (Nat.le_refl _) _⟩
  rw [results_cell_tmp (p := 4) (u := 5) (ty := 58) (by kernel_rfl)]
  have hl := run_loadVar_row (P := Tryz.prog) (w.alloc (Obj.cells #[.int .i64 0, .string ⟨#[]⟩, .int .i64 0, .slice none 0 0, .bool false, .int .i64 0] 58)) w.heap.size 58 58 _ _ _ (World.alloc_heap_new w _) Tryz.underlying58 rfl (by kernel_rfl)
  have ha : (asAddr (.pointer (some ⟨w.heap.size, 0, none⟩))).run Tryz.prog (w.alloc (Obj.cells #[.int .i64 0, .string ⟨#[]⟩, .int .i64 0, .slice none 0 0, .bool false, .int .i64 0] 58)) = .ok ⟨w.heap.size, 0, none⟩ (w.alloc (Obj.cells #[.int .i64 0, .string ⟨#[]⟩, .int .i64 0, .slice none 0 0, .bool false, .int .i64 0] 58)) := rfl
  refine (congrArg (fun r => Result.andThen r _) ha).trans ?_
  simp only [Result.andThen_ok]
  refine (congrArg (fun r => Result.andThen r _) hl).trans ?_
  rfl

/-- The argument's box. -/
structure BF (w W : World) (cs : Array Value) (t : TypeId) : Prop where
  below : Below w.heap.size w W
  box : W.heap[w.heap.size]? = some (.cells cs t (0, 0))

theorem heap_lt {w : World} {g : Nat} {o : Obj} (h : w.heap[g]? = some o) : g < w.heap.size := by
  rcases Nat.lt_or_ge g w.heap.size with hlt | hge
  · exact hlt
  · rw [Array.getElem?_eq_none hge] at h; cases h

theorem BF.next {w W W' : World} {cs : Array Value} {t : TypeId} (h : BF w W cs t) (hb : Below W.heap.size W W') : BF w W' cs t :=
  ⟨h.below.trans (hb.mono h.below.size), (hb.block _ (heap_lt h.box)).trans h.box⟩

theorem blk4 {W : World} {b : Nat} {v0 v1 v2 v3 : Value} {t : TypeId} (h : W.heap[b]? = some (.cells #[v0, v1, v2, v3] t (0, 0))) :
    W.cell? ⟨b, 0, none⟩ = some v0 ∧ W.cell? ⟨b, 1, none⟩ = some v1 ∧ W.cell? ⟨b, 2, none⟩ = some v2 ∧ W.cell? ⟨b, 3, none⟩ = some v3 := by
  refine ⟨?_, ?_, ?_, ?_⟩ <;> rw [cell_of_row W b _ _ t (0, 0) h] <;> rfl

theorem f4_any (w : World) (kd r : Int) (nm : ByteArray) (ea : Option Addr) (en ec : Nat) (he : EvtsAt w ea en) :
    Calls Tryz.prog 4 #[.agg #[.int .u8 kd, .int .i64 r, .string nm, .slice ea en ec]] w fun e w' => e = .returned (.bool true) ∧ Below w.heap.size w w' := by
  have hb0 : BF w (w.alloc (Obj.cells #[.int .u8 kd, .int .i64 r, .string nm, .slice ea en ec] 41)) #[.int .u8 kd, .int .i64 r, .string nm, .slice ea en ec] 41 := ⟨(Below.refl _ _).alloc (Nat.le_refl _) _, World.alloc_heap_new _ _⟩
  have HB := Lib.hid hb0
  have HE := Lib.hid he
  clear hb0 he
  go_enter Tryz.func4, Tryz.ntmps4
  go_wp2_with (first
    | (go_at_call 7; refine (f7_any _).mono ?_; rintro e w1 ⟨rfl, hb1⟩; have HB1 := Lib.hid (HB.out.next hb1); clear hb1; obtain ⟨b0, b1, b2, b3⟩ := blk4 HB1.out.box))
  go_at_call 9
  refine (f9_one _ _ kd r nm ea en ec (World.alloc_heap_new _ _) (HE.out.below (HB1.out.below.alloc HB1.out.below.size _))).mono ?_
  rintro e w2 ⟨⟨bb, rfl⟩, rfl⟩
  have HB2 := Lib.hid (HB1.out.next ((Below.refl _ _).alloc (Nat.le_refl _) (Obj.cells #[.int .u8 kd, .int .i64 r, .string nm, .slice ea en ec] 41)))
  clear b0 b1 b2 b3
  cases bb
  · obtain ⟨b0, b1, b2, b3⟩ := blk4 HB2.out.box
    go_wp2_with (first
      | (go_at_call 18; refine (f18_nil _ _ _ _ _ _).mono ?_; rintro e w3 ⟨rfl, hb3⟩; have HB3 := Lib.hid (HB2.out.next hb3); clear hb3; obtain ⟨c0, c1, c2, c3⟩ := blk4 HB3.out.box)
      | (go_at_call 19; refine (f19_nil _ _).mono ?_; rintro e w4 ⟨rfl, hb4⟩; have HB4 := Lib.hid (HB3.out.next hb4); clear hb4; have hl4 := heap_lt HB4.out.box; obtain ⟨d0, d1, d2, d3⟩ := blk4 HB4.out.box)
      | (go_at_call 20; refine (f20_nil _ _).mono ?_; rintro e w5 ⟨rfl, hb5⟩; have HB5 := Lib.hid ((HB4.out.next ((Below.refl _ _).alloc (Nat.le_refl _) _)).next hb5); clear hb5 hl4; obtain ⟨e0, e1, e2, e3⟩ := blk4 HB5.out.box)
      | (go_at_call 21; refine (f21_nil _).mono ?_; rintro e w6 ⟨rfl, hb6⟩; have HB6 := Lib.hid (HB5.out.next hb6); clear hb6; obtain ⟨g0, g1, g2, g3⟩ := blk4 HB6.out.box)
      | (go_at_call 17; refine (f17_nil _).mono ?_; rintro e w7 ⟨rfl, rfl⟩)
      | (go_at_call 22; refine (f22_nil _ _ _ _ _).mono ?_; rintro e w7 ⟨rfl, rfl⟩)
      | (go_at_call 23; refine (f23_nil _ _).mono ?_; rintro e w7 ⟨rfl, rfl⟩)
      | (go_at_call 24; refine (f24_nil _).mono ?_; rintro e w7 ⟨rfl, rfl⟩)
      | (go_at_call 25; refine (f25_nil _).mono ?_; rintro e w7 ⟨rfl, rfl⟩)
      | (go_at_call 16; refine (f16_nil _ _).mono ?_; rintro e w7 ⟨rfl, rfl⟩)
      | (go_at_call 26; refine (f26_nil _ _).mono ?_; rintro e w7 ⟨rfl, rfl⟩))
    go_ret
    exact ⟨rfl, HB6.out.below⟩
  · go_wp2
    go_ret
    exact ⟨rfl, HB2.out.below⟩
end walks
end Go.Proofs.YtiabkalmkneogaaGreatDoor

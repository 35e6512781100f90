import Derived.Test.YtdnkfgnjeibjeaaG19
namespace Go.Proofs.Ytdnkfgnjeibjeaa
open Go.RowKit Go.Shelf

section walks
set_option maxHeartbeats 1000000
set_option maxRecDepth 100000

theorem f13_nil (w : World) (i : Int) (x : Elem) (r : Value) : Calls Try.prog 13 #[.pointer none, .int .i64 i, ev x r] w fun e w' => e = .returned (.tuple #[.slice none 0 0, .int .i64 1]) ∧ Below w.heap.size w w' := by
  go_enter Try.func13, Try.ntmps13
  go_wp2
  exact bodyPost_ret (v := .tuple #[.slice none 0 0, .int .i64 1]) (by kernel_rfl) rfl ⟨rfl, (Below.refl _ _).alloc (Nat.le_refl _) _⟩

theorem f29_nil (w : World) (i : Int) : Calls Try.prog 29 #[.pointer none, .int .i64 i] w fun e w' => e = .returned (.tuple #[.slice none 0 0, .int .i64 1]) ∧ Below w.heap.size w w' := by
  go_enter Try.func29, Try.ntmps29
  go_wp2
  exact bodyPost_ret (v := .tuple #[.slice none 0 0, .int .i64 1]) (by kernel_rfl) rfl ⟨rfl, Below.refl _ _⟩

theorem f18_nil (w : World) (i : Int) : Calls Try.prog 18 #[.pointer none, .int .i64 i] w fun e w' => e = .returned (.tuple #[.slice none 0 0, .bool false, .int .i64 1]) ∧ Below w.heap.size w w' := by
  go_enter Try.func18, Try.ntmps18
  go_wp2
  exact bodyPost_ret (v := .tuple #[.slice none 0 0, .bool false, .int .i64 1]) (by kernel_rfl) rfl ⟨rfl, Below.refl _ _⟩

theorem f30_nil (w : World) : Calls Try.prog 30 #[.pointer none] w fun e w' => e = .returned (.tuple #[.slice none 0 0, .int .i64 1]) ∧ Below w.heap.size w w' := by
  go_enter Try.func30, Try.ntmps30
  go_wp2
  exact bodyPost_ret (v := .tuple #[.slice none 0 0, .int .i64 1]) (by kernel_rfl) rfl ⟨rfl, Below.refl _ _⟩

theorem f24_nil (w : World) : Calls Try.prog 24 #[.pointer none] w fun e w' => e = .returned (.slice none 0 0) ∧ w' = w := by
  go_enter Try.func24, Try.ntmps24
  go_wp2
  go_ret
  exact ⟨rfl, rfl⟩

theorem f31_nil (w : World) : Calls Try.prog 31 #[.pointer none] w fun e w' => e = .returned (.slice none 0 0) ∧ w' = w := by
  go_enter Try.func31, Try.ntmps31
  go_wp2
  go_ret
  exact ⟨rfl, rfl⟩

theorem f32_nil (w : World) (i : Int) : Calls Try.prog 32 #[.pointer none, .int .i64 i] w fun e w' => e = .returned (.int .i64 0) ∧ w' = w := by
  go_enter Try.func32, Try.ntmps32
  go_wp2
  go_ret
  exact ⟨rfl, rfl⟩

theorem f23_nil (w : World) : Calls Try.prog 23 #[.pointer none] w fun e w' => e = .returned (.int .i64 0) ∧ w' = w := by
  go_enter Try.func23, Try.ntmps23
  go_wp2
  go_ret
  exact ⟨rfl, rfl⟩

theorem f33_nil (w : World) : Calls Try.prog 33 #[.pointer none] w fun e w' => e = .returned (.bool false) ∧ w' = w := by
  go_enter Try.func33, Try.ntmps33
  go_wp2
  go_ret
  exact ⟨rfl, rfl⟩

/-- The argument's box. -/
structure BF (w W : World) (cs : Array Value) (t : TypeId) : Prop where
  below : Below w.heap.size w W
  box : W.heap[w.heap.size]? = some (.cells cs t (0, 0))

theorem BF.next {w W W' : World} {cs : Array Value} {t : TypeId} (h : BF w W cs t) (hb : Below W.heap.size W W') : BF w W' cs t :=
  ⟨h.below.trans (hb.mono h.below.size), (hb.block _ (heap_lt h.box)).trans h.box⟩

theorem blk7 {W : World} {b : Nat} {v0 v1 v2 v3 v4 v5 v6 : Value} {t : TypeId} (h : W.heap[b]? = some (.cells #[v0, v1, v2, v3, v4, v5, v6] t (0, 0))) :
    W.cell? ⟨b, 0, none⟩ = some v0 ∧ W.cell? ⟨b, 1, none⟩ = some v1 ∧ W.cell? ⟨b, 2, none⟩ = some v2 ∧ W.cell? ⟨b, 3, none⟩ = some v3 ∧ W.cell? ⟨b, 4, none⟩ = some v4 ∧ W.cell? ⟨b, 5, none⟩ = some v5 ∧ W.cell? ⟨b, 6, none⟩ = some v6 := by
  refine ⟨?_, ?_, ?_, ?_, ?_, ?_, ?_⟩ <;> rw [cell_of_row W b _ _ t (0, 0) h] <;> rfl

theorem f7_any (w : World) (kd i : Int) (x : Elem) (r : Value) (D : Nat → Prop) (hr : RowAt w D r x.row) :
    Calls Try.prog 7 #[.agg #[.int .u8 kd, .int .i64 i, .int .i64 x.k, .int .i64 x.n, .int .i64 x.t, r, .int .i64 x.c]] w fun e w' => e = .returned (.bool true) ∧ Below w.heap.size w w' := by
  have hg := fun (W : World) (h : Below w.heap.size w W) => f28_any x r W D (hr.below h)
  have HR := Lib.hid hg
  obtain ⟨ra, rc, rfl, _, _⟩ := hr
  have hb0 : BF w (w.alloc (Obj.cells #[.int .u8 kd, .int .i64 i, .int .i64 x.k, .int .i64 x.n, .int .i64 x.t, .slice ra x.row.length rc, .int .i64 x.c] 36)) #[.int .u8 kd, .int .i64 i, .int .i64 x.k, .int .i64 x.n, .int .i64 x.t, .slice ra x.row.length rc, .int .i64 x.c] 36 :=
    ⟨(Below.refl _ _).alloc (Nat.le_refl _) _, World.alloc_heap_new _ _⟩
  have HB := Lib.hid hb0
  clear hb0 hg
  have h24 := fun (W : World) d os => Calls.regrown_of ((f24_nil (Sort.grow (redrawn W d) os)).mono fun e w' h => ⟨h.1, by rw [h.2]; exact Below.refl _ _⟩)
  have h31 := fun (W : World) d os => Calls.regrown_of ((f31_nil (Sort.grow (redrawn W d) os)).mono fun e w' h => ⟨h.1, by rw [h.2]; exact Below.refl _ _⟩)
  have h32 := fun (W : World) d os => Calls.regrown_of ((f32_nil (Sort.grow (redrawn W d) os) i).mono fun e w' h => ⟨h.1, by rw [h.2]; exact Below.refl _ _⟩)
  have h23 := fun (W : World) d os => Calls.regrown_of ((f23_nil (Sort.grow (redrawn W d) os)).mono fun e w' h => ⟨h.1, by rw [h.2]; exact Below.refl _ _⟩)
  have h33 := fun (W : World) d os => Calls.regrown_of ((f33_nil (Sort.grow (redrawn W d) os)).mono fun e w' h => ⟨h.1, by rw [h.2]; exact Below.refl _ _⟩)
  have H24 := Lib.hid h24
  have H31 := Lib.hid h31
  have H32 := Lib.hid h32
  have H23 := Lib.hid h23
  have H33 := Lib.hid h33
  clear h24 h31 h32 h23 h33
  go_enter Try.func7, Try.ntmps7
  cases hgr : greatE x
  · rw [hgr] at HR
    go_wp2_with (first
      | (go_at_call 10; refine (f10_any _).mono ?_; rintro e w1 ⟨rfl, hb1⟩; have HB1 := Lib.hid (HB.out.next hb1); clear hb1; obtain ⟨b0, b1, b2, b3, b4, b5, b6⟩ := blk7 HB1.out.box)
      | (go_at_call 28; refine (HR.out _ HB1.out.below).mono ?_; rintro e w2 ⟨rfl, hb2⟩; have HB2 := Lib.hid (HB1.out.next hb2); clear hb2; obtain ⟨c0, c1, c2, c3, c4, c5, c6⟩ := blk7 HB2.out.box)
      | (go_at_call 13; refine (f13_nil _ _ x _).mono ?_; rintro e w3 ⟨rfl, hb3⟩; have HB3 := Lib.hid (HB2.out.next hb3); clear hb3; obtain ⟨_, d1, _, _, _, _, _⟩ := blk7 HB3.out.box)
      | (go_at_call 29; refine (f29_nil _ _).mono ?_; rintro e w4 ⟨rfl, hb4⟩; have HB4 := Lib.hid (HB3.out.next hb4); clear hb4; obtain ⟨_, e1, _, _, _, _, _⟩ := blk7 HB4.out.box)
      | (go_at_call 18; refine (f18_nil _ _).mono ?_; rintro e w5 ⟨rfl, hb5⟩; have HB5 := Lib.hid (HB4.out.next hb5); clear hb5)
      | (go_at_call 30; refine (f30_nil _).mono ?_; rintro e w6 ⟨rfl, hb6⟩; have HB6 := Lib.hid (HB5.out.next hb6); clear hb6; obtain ⟨_, g1, _, _, _, _, _⟩ := blk7 HB6.out.box))
    have q1 := fun d os => cell_regrown g1 d os
    refine wp_region_quiet_below (by kernel_rfl) (by kernel_rfl) ?_
    repeat (first | go_big_quiet_skip | quiet_step (first | with_reducible exact H24.out _ _ _ | with_reducible exact H31.out _ _ _ | with_reducible exact H32.out _ _ _ | with_reducible exact H23.out _ _ _ | with_reducible exact H33.out _ _ _))
    refine wpQuiet_nil ?_
    intro wq hw'
    have hq := HB6.out.next (below_of_class hw')
    clear hw' q1
    have HQ := Lib.hid hq.below
    clear hq
    go_wp2_with fail
    go_ret
    exact ⟨rfl, HQ.out⟩
  · rw [hgr] at HR
    go_wp2_with (first
      | (go_at_call 10; refine (f10_any _).mono ?_; rintro e w1 ⟨rfl, hb1⟩; have HB1 := Lib.hid (HB.out.next hb1); clear hb1; obtain ⟨b0, b1, b2, b3, b4, b5, b6⟩ := blk7 HB1.out.box)
      | (go_at_call 28; refine (HR.out _ HB1.out.below).mono ?_; rintro e w2 ⟨rfl, hb2⟩; have HB2 := Lib.hid (HB1.out.next hb2); clear hb2))
    go_ret
    exact ⟨rfl, HB2.out.below⟩
end walks
end Go.Proofs.Ytdnkfgnjeibjeaa

import Derived.Test.YtdnkfgnjeibjeaaN1
namespace Go.Proofs.Ytdnkfgnjeibjeaa
open Go.RowKit Go.Shelf

section walks
set_option maxHeartbeats 1000000
set_option maxRecDepth 100000

theorem f13_inv (w : World) (D0 : Nat → Prop) (G : Addr) (i : Int) (x : Elem) (r : Value) (hr : RowAt w D0 r x.row) (hv : validElem x = false) :
    Calls Try.prog 13 #[.pointer (some G), .int .i64 i, ev x r] w fun e w' => e = .returned (.tuple #[.slice none 0 0, .int .i64 1]) ∧ Below w.heap.size w w' := by
  have hV := fun (W : World) (hb : Below w.heap.size w W) => f40_any x r W D0 (hr.below hb)
  obtain ⟨ra, rc, rfl, _, _⟩ := hr
  rw [hv] at hV
  have HV := Lib.hid hV
  have hb0 : Below w.heap.size w (w.alloc (Obj.cells #[Value.int IntKind.i64 x.k, Value.int IntKind.i64 x.n, Value.int IntKind.i64 x.t, Value.slice ra x.row.length rc, Value.int IntKind.i64 x.c] 34)) := (Below.refl _ _).alloc (Nat.le_refl _) _
  have HB := Lib.hid hb0
  clear hV hb0
  go_enter Try.func13, Try.ntmps13
  go_wp2_with (go_at_call 40; refine (HV.out _ HB.out).mono ?_; rintro e w1 ⟨rfl, hb1⟩; have HB1 := Lib.hid (HB.out.trans (hb1.mono HB.out.size)); clear hb1)
  exact bodyPost_ret (v := .tuple #[.slice none 0 0, .int .i64 1]) (by kernel_rfl) rfl ⟨rfl, HB1.out⟩

theorem f13_rng (w : World) {D : Nat → Prop} (D0 : Nat → Prop) (gs : GS) (m : Gm) (h : GateAt w D gs m) (i : Int) (x : Elem) (r : Value) (hr : RowAt w D0 r x.row) (hv : validElem x = true) (hi : i < 0 ∨ (m.n : Int) ≤ i) :
    Calls Try.prog 13 #[.pointer (some ⟨gs.G, 0, none⟩), .int .i64 i, ev x r] w fun e w' => e = .returned (.tuple #[.slice none 0 0, .int .i64 7]) ∧ Below w.heap.size w w' := by
  have hV := fun (W : World) (hb : Below w.heap.size w W) => f40_any x r W D0 (hr.below hb)
  obtain ⟨ra, rc, rfl, _, _⟩ := hr
  rw [hv] at hV
  have HV := Lib.hid hV
  have H := Lib.hid h
  have hb0 : Below w.heap.size w (w.alloc (Obj.cells #[Value.int IntKind.i64 x.k, Value.int IntKind.i64 x.n, Value.int IntKind.i64 x.t, Value.slice ra x.row.length rc, Value.int IntKind.i64 x.c] 34)) := (Below.refl _ _).alloc (Nat.le_refl _) _
  have HB := Lib.hid hb0
  clear hV hb0 h
  rcases Int.lt_or_le i 0 with h0 | h0
  · go_enter Try.func13, Try.ntmps13
    go_wp2_with (go_at_call 40; refine (HV.out _ HB.out).mono ?_; rintro e w1 ⟨rfl, hb1⟩; have HB1 := Lib.hid (HB.out.trans (hb1.mono HB.out.size)); clear hb1; obtain ⟨g0, g1, g2, g3, g4, gf⟩ := (H.out.below HB1.out).cells)
    exact bodyPost_ret (v := .tuple #[.slice none 0 0, .int .i64 7]) (by kernel_rfl) rfl ⟨rfl, HB1.out⟩
  · have h1 : (m.n : Int) ≤ i := by omega
    have h2 : ¬ i < 0 := by omega
    go_enter Try.func13, Try.ntmps13
    go_wp2_with (go_at_call 40; refine (HV.out _ HB.out).mono ?_; rintro e w1 ⟨rfl, hb1⟩; have HB1 := Lib.hid (HB.out.trans (hb1.mono HB.out.size)); clear hb1; obtain ⟨g0, g1, g2, g3, g4, gf⟩ := (H.out.below HB1.out).cells)
    exact bodyPost_ret (v := .tuple #[.slice none 0 0, .int .i64 7]) (by kernel_rfl) rfl ⟨rfl, HB1.out⟩

end walks
end Go.Proofs.Ytdnkfgnjeibjeaa

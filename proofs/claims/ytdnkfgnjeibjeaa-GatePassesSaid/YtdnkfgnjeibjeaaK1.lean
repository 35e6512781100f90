import Derived.Test.YtdnkfgnjeibjeaaHA
namespace Go.Proofs.Ytdnkfgnjeibjeaa
open Go.RowKit Go.Shelf

def Inp.shut (x : Inp) : Inp := { x with closed := true }

theorem GateAt.shutAt {w : World} {D : Nat → Prop} {gs : GS} {m : Gm} (h : GateAt w D gs m) {i : Nat} (hi : i < m.n) : GateAt (w.setCell ⟨gs.ib i, 1, none⟩ (.bool true)) D gs (m.upd i (m.inp i).shut) := by
  refine h.setI hi (m.inp i).shut rfl ?_ (fun b hne => heap_set_ne _ hne)
  have hh := heap_set (j := 1) (h.hib i hi) (.bool true)
  simpa [Inp.shut] using hh

section walks
set_option maxHeartbeats 1000000
set_option maxRecDepth 100000

theorem f29_rng (w : World) (D : Nat → Prop) (gs : GS) (m : Gm) (h : GateAt w D gs m) (i : Int) (hi : i < 0 ∨ (m.n : Int) ≤ i) :
    Calls Try.prog 29 #[.pointer (some ⟨gs.G, 0, none⟩), .int .i64 i] w fun e w' => e = .returned (.tuple #[.slice none 0 0, .int .i64 7]) ∧ w' = w := by
  obtain ⟨g0, g1, g2, g3, g4, gf⟩ := h.cells
  clear h
  rcases Int.lt_or_le i 0 with h0 | h0
  · go_enter Try.func29, Try.ntmps29
    go_wp2_with fail
    exact bodyPost_ret (v := .tuple #[.slice none 0 0, .int .i64 7]) (by kernel_rfl) rfl ⟨rfl, rfl⟩
  · have h1 : (m.n : Int) ≤ i := by omega
    have h2 : ¬ i < 0 := by omega
    go_enter Try.func29, Try.ntmps29
    go_wp2_with fail
    exact bodyPost_ret (v := .tuple #[.slice none 0 0, .int .i64 7]) (by kernel_rfl) rfl ⟨rfl, rfl⟩

theorem f29_closed (w : World) (D : Nat → Prop) (gs : GS) (m : Gm) (h : GateAt w D gs m) (i : Nat) (hi : i < m.n) (hcl : (m.inp i).closed = true) :
    Calls Try.prog 29 #[.pointer (some ⟨gs.G, 0, none⟩), .int .i64 i] w fun e w' => e = .returned (.tuple #[.slice none 0 0, .int .i64 10]) ∧ w' = w := by
  obtain ⟨g0, g1, g2, g3, g4, gf⟩ := h.cells
  obtain ⟨ia, x0, x1, x2, x3, x4, xf⟩ := h.icells hi
  rw [hcl] at x1
  clear h
  have j1 : (0 : Int) ≤ (i : Int) := by omega
  have j2 : (i : Int) < (m.n : Int) := by omega
  go_enter Try.func29, Try.ntmps29
  go_wp2_with fail
  exact bodyPost_ret (v := .tuple #[.slice none 0 0, .int .i64 10]) (by kernel_rfl) rfl ⟨rfl, rfl⟩

theorem f29_ok (w : World) (D : Nat → Prop) (gs : GS) (m m' : Gm) (o : List OV) (h : GateAt w D gs m) (hD : ∀ b, D b → b < w.heap.size) (i : Nat) (hi : i < m.n) (hcl : (m.inp i).closed = false) (hw : WholeTo D i (m.upd i (m.inp i).shut) m' o) :
    Calls Try.prog 29 #[.pointer (some ⟨gs.G, 0, none⟩), .int .i64 i] w fun e w' => ∃ v, e = .returned (.tuple #[v, .int .i64 0]) ∧ Gives w D gs m.n m' o (.returned v) w' := by
  obtain ⟨g0, g1, g2, g3, g4, gf⟩ := h.cells
  obtain ⟨ia, x0, x1, x2, x3, x4, xf⟩ := h.icells hi
  rw [hcl] at x1
  have hg2 := h.shutAt hi
  have ho2 : Only (gs.own m.n) w (w.setCell ⟨gs.ib i, 1, none⟩ (.bool true)) := (Only.refl _ _).setCell (fun _ => own_ib gs hi) _
  have hc := hw gs _ hg2 (fun b hb => by simpa [World.setCell] using hD b hb)
  have HC := Lib.hid hc
  have HO := Lib.hid ho2
  clear h hg2 ho2 hc hD hw
  have j1 : (0 : Int) ≤ (i : Int) := by omega
  have j2 : (i : Int) < (m.n : Int) := by omega
  go_enter Try.func29, Try.ntmps29
  go_wp2_with (go_at_call 53; refine HC.out.mono ?_; rintro e w3 ⟨gs3, v3, bk3, rfl, hrest⟩)
  have hfin : Gives w D gs m.n m' o (.returned v3) w3 := Gives.from (W := w.setCell ⟨gs.ib i, 1, none⟩ (.bool true)) ⟨gs3, v3, bk3, rfl, hrest⟩ HO.out
  exact bodyPost_ret (v := .tuple #[v3, .int .i64 0]) (by kernel_rfl) rfl ⟨v3, rfl, hfin⟩

theorem f30_none (w : World) (D : Nat → Prop) (gs : GS) (m : Gm) (h : GateAt w D gs m) (hu : m.under = 0) :
    Calls Try.prog 30 #[.pointer (some ⟨gs.G, 0, none⟩)] w fun e w' => e = .returned (.tuple #[.slice none 0 0, .int .i64 8]) ∧ w' = w := by
  obtain ⟨g0, g1, g2, g3, g4, gf⟩ := h.cells
  rw [hu] at g2
  clear h
  go_enter Try.func30, Try.ntmps30
  go_wp2_with fail
  exact bodyPost_ret (v := .tuple #[.slice none 0 0, .int .i64 8]) (by kernel_rfl) rfl ⟨rfl, rfl⟩

theorem f30_ok (w : World) (D : Nat → Prop) (gs : GS) (m m' : Gm) (o : List OV) (h : GateAt w D gs m) (hD : ∀ b, D b → b < w.heap.size) (hal : m.al = true) (hu : m.under ≠ 0) (hgo : GoesTo D m.ends m' o) :
    Calls Try.prog 30 #[.pointer (some ⟨gs.G, 0, none⟩)] w fun e w' => ∃ v, e = .returned (.tuple #[v, .int .i64 0]) ∧ Gives w D gs m.n m' o (.returned v) w' := by
  obtain ⟨g0, g1, g2, g3, g4, gf⟩ := h.cells
  rw [hal] at g1
  simp only [howV, if_true] at g1
  have H := Lib.hid h
  have HD := Lib.hid hD
  have HG := Lib.hid hgo
  clear h hD hgo
  go_enter Try.func30, Try.ntmps30
  go_wp2_with (first
    | (go_at_call 128; refine (f128_any _ _).mono ?_; rintro e w1 ⟨rfl, hb1⟩
       have hc1 := f54_any w1 gs m (H.out.below hb1)
       have HC1 := Lib.hid hc1; have HB1 := Lib.hid hb1
       clear hb1 hc1)
    | (go_at_call 54; refine HC1.out.mono ?_; rintro e w2 ⟨rfl, hg2, ho2⟩
       have ho02 : Only (gs.own m.n) w w2 := (Only.of_below HB1.out).trans ho2 (fun _ _ h => h)
       have hc2 := HG.out gs w2 hg2 (fun b hb => Nat.lt_of_lt_of_le (HD.out b hb) ho02.size)
       have HC2 := Lib.hid hc2; have HO2 := Lib.hid ho02
       clear hg2 ho2 ho02 hc2)
    | (go_at_call 55; refine HC2.out.mono ?_; rintro e w3 ⟨gs3, v3, bk3, rfl, hrest⟩))
  have hfin : Gives w D gs m.n m' o (.returned v3) w3 := Gives.from (W := w2) ⟨gs3, v3, bk3, rfl, hrest⟩ HO2.out
  exact bodyPost_ret (v := .tuple #[v3, .int .i64 0]) (by kernel_rfl) rfl ⟨v3, rfl, hfin⟩

theorem f13_closed (w : World) (D D0 : Nat → Prop) (gs : GS) (m : Gm) (h : GateAt w D gs m) (i : Nat) (x : Elem) (r : Value) (hr : RowAt w D0 r x.row) (hv : validElem x = true) (hi : i < m.n) (hcl : (m.inp i).closed = true) :
    Calls Try.prog 13 #[.pointer (some ⟨gs.G, 0, none⟩), .int .i64 i, ev x r] w fun e w' => e = .returned (.tuple #[.slice none 0 0, .int .i64 10]) ∧ Below w.heap.size w w' := by
  have hV := fun (W : World) (hb : Below w.heap.size w W) => f40_any x r W D0 (hr.below hb)
  obtain ⟨ra, rc, rfl, _, _⟩ := hr
  rw [hv] at hV
  have HV := Lib.hid hV
  have H := Lib.hid h
  have hb0 : Below w.heap.size w (w.alloc (Obj.cells #[Value.int IntKind.i64 x.k, Value.int IntKind.i64 x.n, Value.int IntKind.i64 x.t, Value.slice ra x.row.length rc, Value.int IntKind.i64 x.c] 34)) := (Below.refl _ _).alloc (Nat.le_refl _) _
  have HB := Lib.hid hb0
  clear hV hb0 h
  have j1 : (0 : Int) ≤ (i : Int) := by omega
  have j2 : (i : Int) < (m.n : Int) := by omega
  go_enter Try.func13, Try.ntmps13
  go_wp2_with (go_at_call 40; refine (HV.out _ HB.out).mono ?_; rintro e w1 ⟨rfl, hb1⟩; have HB1 := Lib.hid (HB.out.trans (hb1.mono HB.out.size)); clear hb1; obtain ⟨g0, g1, g2, g3, g4, gf⟩ := (H.out.below HB1.out).cells; obtain ⟨ia, x0, x1, x2, x3, x4, xf⟩ := (H.out.below HB1.out).icells hi; rw [hcl] at x1)
  exact bodyPost_ret (v := .tuple #[.slice none 0 0, .int .i64 10]) (by kernel_rfl) rfl ⟨rfl, HB1.out⟩
end walks
end Go.Proofs.Ytdnkfgnjeibjeaa

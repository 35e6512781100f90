import Derived.Test.YtdnkfgnjeibjeaaG11
namespace Go.Proofs.Ytdnkfgnjeibjeaa
open Go.RowKit Go.Shelf

/-- 'looked' brings a gate there. -/
def LookTo (D : Nat → Prop) (i : Nat) (x : EV) (m m' : Gm) (outs : List OV) : Prop :=
  ∀ gs w, GateAt w D gs m → (∀ b, D b → b < w.heap.size) → RowAt w D x.2 x.1.row → Calls Try.prog 44 #[.pointer (some ⟨gs.G, 0, none⟩), .int .i64 i, ev x.1 x.2] w (Gives w D gs m.n m' outs)

def Inp.send (x : Inp) : Inp := { x with sent := true }

theorem GateAt.sendAt {w : World} {D : Nat → Prop} {gs : GS} {m : Gm} (h : GateAt w D gs m) {i : Nat} (hi : i < m.n) : GateAt (w.setCell ⟨gs.ib i, 3, none⟩ (.bool true)) D gs (m.upd i (m.inp i).send) := by
  refine h.setI hi (m.inp i).send rfl ?_ (fun b hne => heap_set_ne _ hne)
  have hh := heap_set (j := 3) (h.hib i hi) (.bool true)
  simpa [Inp.send] using hh

theorem GateAt.underAt {w : World} {D : Nat → Prop} {gs : GS} {m : Gm} (h : GateAt w D gs m) (u : Int) : GateAt (w.setCell ⟨gs.G, 2, none⟩ (.int .i64 u)) D gs { m with under := u } := by
  refine h.setG u m.done ?_ (fun b hne => heap_set_ne _ hne)
  have hh := heap_set (j := 2) h.hG (.int .i64 u)
  simpa using hh

section walks
set_option maxHeartbeats 1000000
set_option maxRecDepth 100000

theorem f44_pass (D : Nat → Prop) (i : Nat) (x : EV) (m : Gm) (hi : i < m.n) (hp : x.plain = true) : LookTo D i x m m [(i, x)] := by
  intro gs w h hD hr
  obtain ⟨e, r⟩ := x
  have hr' := hr
  obtain ⟨a, c, hv, _⟩ := hr
  dsimp only at hv
  subst hv
  refine (f44_plain w gs m i e a _ c h hi (by simpa [EV.plain] using hp)).mono ?_
  rintro e' w' ⟨v, blk, rfl, hs, hn, hb⟩
  exact ⟨gs, v, blk, rfl, rfl, hs, hn, h.below hb, GS.like.refl gs, fun o ho => by rw [List.mem_singleton] at ho; subst ho; exact hr'.below hb, Only.of_below hb⟩

theorem f44_drop (D : Nat → Prop) (i : Nat) (x : EV) (m : Gm) (hk : x.1.k = 3) (hd : x.1.n ≤ m.done ∨ (0 < m.under ∧ x.1.n < m.under)) : LookTo D i x m m [] := by
  intro gs w h hD hr
  obtain ⟨⟨k, kn, t, row, c⟩, r⟩ := x
  dsimp only at hk hd
  subst hk
  have hb0 : Below w.heap.size w (w.alloc (Obj.cells #[Value.int IntKind.i64 3, Value.int IntKind.i64 kn, Value.int IntKind.i64 t, r, Value.int IntKind.i64 c] 34)) := (Below.refl _ _).alloc (Nat.le_refl _) _
  obtain ⟨ra, rc, hv, _⟩ := hr
  dsimp only at hv
  subst hv
  have h0 := h.below hb0
  have H0 := Lib.hid h0
  have HB := Lib.hid hb0
  obtain ⟨g0, g1, g2, g3, g4, gf⟩ := h.cells
  have hG := h.lt (own_G gs m.n)
  clear h h0 hb0
  go_enter Try.func44, Try.ntmps44
  rcases Int.lt_or_le m.done kn with h1 | h1
  · obtain ⟨h2, h3⟩ := hd.resolve_left (by omega)
    go_wp2_with fail
    go_ret
    exact Gives.nil H0.out (Only.of_below HB.out)
  · go_wp2_with fail
    go_ret
    exact Gives.nil H0.out (Only.of_below HB.out)

/-- A barrier that is the one under way. -/
theorem f44_same (D : Nat → Prop) (i : Nat) (x : EV) (m m' : Gm) (outs : List OV) (hi : i < m.n) (hk : x.1.k = 3) (hd : m.done < x.1.n) (hu : x.1.n = m.under) (hu0 : 0 < m.under) (hw : WholeTo D i (m.upd i (m.inp i).send) m' outs) (hlen : outs.length ≤ 1000000) : LookTo D i x m m' outs := by
  intro gs w h hD hr
  obtain ⟨⟨k, kn, t, row, c⟩, r⟩ := x
  dsimp only at hk hd hu
  subst hk hu
  obtain ⟨ra, rc, hv, _⟩ := hr
  dsimp only at hv
  subst hv
  obtain ⟨i0, hi0, hz0, hz1, hz2⟩ := info_parts info44
  obtain ⟨g0, g1, g2, g3, g4, gf⟩ := h.cells
  obtain ⟨ia, x0, x1, x2, x3, x4, xf⟩ := h.icells hi
  have l1 := h.lt (own_G gs m.n)
  have l2 := h.lt (own_ib gs hi)
  have l3 : gs.arr < w.heap.size := h.lt (.inr (.inl rfl))
  have hhd : ∀ o : Obj, ∀ b, D b → b < ((w.setCell ⟨gs.ib i, 3, none⟩ (.bool true)).alloc o).heap.size := fun o b hb => by have := hD b hb; simp [World.setCell]; omega
  have hg3 : GateAt (w.setCell ⟨gs.ib i, 3, none⟩ (.bool true)) D gs (m.upd i (m.inp i).send) := h.sendAt hi
  have hg4 : ∀ o : Obj, GateAt ((w.setCell ⟨gs.ib i, 3, none⟩ (.bool true)).alloc o) D gs (m.upd i (m.inp i).send) := fun o => hg3.below ((Below.refl _ _).alloc (Nat.le_refl _) o)
  have hon : ∀ o : Obj, Only (gs.own m.n) w ((w.setCell ⟨gs.ib i, 3, none⟩ (.bool true)).alloc o) := fun o => ((Only.refl _ _).setCell (fun _ => own_ib gs hi) _).alloc o
  have hc := fun o => hw gs _ (hg4 o) (hhd o)
  have HC := Lib.hid hc
  have HO := Lib.hid hon
  have HH := Lib.hid h
  have HD := Lib.hid hD
  clear hc hhd hg3 hg4 hon h hD hw
  have j1 : (0 : Int) ≤ (i : Int) := by omega
  have j2 : (i : Int) < (m.n : Int) := by omega
  go_enter Try.func44, Try.ntmps44
  go_wp2_with (first
    | (go_at_call 53; refine (HC.out _).mono ?_; rintro e w3 ⟨gs3, v3, bk3, rfl, hn3, ho3, hbk3, hg3, hl3, hr3, hon3⟩)
    | (at_builtin; refine wpList_append_S rfl (.tmp 143) (.tmp 146) 37 rfl 44 i0 _ 6 64 Try.underlying37 hi0 hz0 hz1 hz2 rfl (by omega) (.slice none 0 0) 0 [] none rfl (SlOwn.nil _ _ _) v3 outs.length (outs.flatMap ocl) rfl ho3.src (okCells_of hr3) (by simp only [maxLen]; omega) (by omega) ?_; intro v4 w4 bk4 hown4 hgrow4 hat4))
  go_ret
  refine Gives.app (W := w3) (gs3 := gs3) (outs1 := []) (bk1 := none) (bk4 := bk4) HD.out hn3 (fun b hb => HH.out.lt hb) (fun g hg => by cases hg) hg3 hl3 (fun o ho => by cases ho) hr3 ?_ hgrow4 hown4 hat4
  exact (HO.out _).trans hon3 (fun _ _ h => h)

/-- The first of a barrier. -/
theorem f44_first (D : Nat → Prop) (i : Nat) (x : EV) (m m' : Gm) (outs : List OV) (hi : i < m.n) (hal : m.al = true) (hk : x.1.k = 3) (hd : m.done < x.1.n) (hu0 : m.under = 0)
    (hw : WholeTo D i (Gm.upd { m with under := x.1.n } i (m.inp i).send) m' outs) (hlen : outs.length ≤ 1000000) : LookTo D i x m m' outs := by
  intro gs w h hD hr
  obtain ⟨⟨k, kn, t, row, c⟩, r⟩ := x
  dsimp only at hk hd hw
  subst hk
  obtain ⟨ra, rc, hv, _⟩ := hr
  dsimp only at hv
  subst hv
  obtain ⟨i0, hi0, hz0, hz1, hz2⟩ := info_parts info44
  obtain ⟨g0, g1, g2, g3, g4, gf⟩ := h.cells
  rw [hal] at g1
  simp only [howV, if_true] at g1
  rw [hu0] at g2
  have l1 := h.lt (own_G gs m.n)
  have hh : ∀ o : Obj, GateAt ((w.setCell ⟨gs.G, 2, none⟩ (.int .i64 kn)).alloc o) D gs { m with under := kn } := fun o => (h.underAt kn).below ((Below.refl _ _).alloc (Nat.le_refl _) o)
  have hon : ∀ o : Obj, Only (gs.own m.n) w ((w.setCell ⟨gs.G, 2, none⟩ (.int .i64 kn)).alloc o) := fun o => ((Only.refl _ _).setCell (fun _ => own_G gs _) _).alloc o
  have HG := Lib.hid hh
  have HO := Lib.hid hon
  have HH := Lib.hid h
  have HD := Lib.hid hD
  clear hh hon h hD
  have j1 : (0 : Int) ≤ (i : Int) := by omega
  have j2 : (i : Int) < (m.n : Int) := by omega
  go_enter Try.func44, Try.ntmps44
  go_wp2_with (first
    | (go_at_call 125; refine (f125_any _ _ _ _).mono ?_; rintro e w1 ⟨rfl, hb1⟩
       have hg1 := (HG.out _).below hb1
       have hon1 := (HO.out _).trans (Only.of_below (S := fun _ => False) hb1) (fun _ _ h => h.elim)
       obtain ⟨g0', g1', g2', g3', g4', gf'⟩ := hg1.cells
       obtain ⟨ia, x0, x1, x2, x3, x4, xf⟩ := hg1.icells hi
       have hc := hw gs _ (hg1.sendAt hi) (fun b hb => by have h1 := HD.out b hb; have h2 := hon1.size; simp [World.setCell]; omega)
       have HC := Lib.hid hc
       have HON := Lib.hid hon1
       clear hg1 hon1 hc hb1)
    | (go_at_call 53; refine HC.out.mono ?_; rintro e w3 ⟨gs3, v3, bk3, rfl, hn3, ho3, hbk3, hg3, hl3, hr3, hon3⟩)
    | (at_builtin; refine wpList_append_S rfl (.tmp 143) (.tmp 146) 37 rfl 44 i0 _ 6 64 Try.underlying37 hi0 hz0 hz1 hz2 rfl (by omega) (.slice none 0 0) 0 [] none rfl (SlOwn.nil _ _ _) v3 outs.length (outs.flatMap ocl) rfl ho3.src (okCells_of hr3) (by simp only [maxLen]; omega) (by omega) ?_; intro v4 w4 bk4 hown4 hgrow4 hat4))
  go_ret
  refine Gives.app (W := w3) (gs3 := gs3) (outs1 := []) (bk1 := none) (bk4 := bk4) HD.out hn3 (fun b hb => HH.out.lt hb) (fun g hg => by cases hg) hg3 hl3 (fun o ho => by cases ho) hr3 ?_ hgrow4 hown4 hat4
  exact (HON.out.setCell (fun _ => own_ib gs hi) _).trans hon3 (fun _ _ h => h)

end walks
end Go.Proofs.Ytdnkfgnjeibjeaa

import Derived.Test.YtdnkfgnjeibjeaaG16
namespace Go.Proofs.Ytdnkfgnjeibjeaa
open Go.RowKit Go.Shelf

/-- The gate and the element's box, the gate turned. -/
structure AFo (w W : World) (D : Nat → Prop) (gs : GS) (n : Nat) (m : Gm) (x : Elem) (r : Value) : Prop where
  only : Only (gs.own n) w W
  gate : GateAt W D gs m
  box : W.heap[w.heap.size]? = some (.cells #[.int .i64 x.k, .int .i64 x.n, .int .i64 x.t, r, .int .i64 x.c] 34 (0, 0))

theorem AFo.next {w W W' : World} {D : Nat → Prop} {gs : GS} {n : Nat} {m : Gm} {x : Elem} {r : Value} (h : AFo w W D gs n m x r) (hb : Below W.heap.size W W') : AFo w W' D gs n m x r :=
  ⟨h.only.trans (Only.of_below (S := fun _ => False) hb) (fun _ _ h => h.elim), h.gate.below hb, (hb.block _ (heap_lt h.box)).trans h.box⟩

theorem AF.lasts {w W : World} {D : Nat → Prop} {gs : GS} {m : Gm} {x : Elem} {r : Value} (h : AF w W D gs m x r) {i : Nat} (hi : i < m.n) (k : Int) : AFo w (W.setCell ⟨gs.ib i, 0, none⟩ (.int .i64 k)) D gs m.n (m.upd i { m.inp i with last := k }) x r := by
  refine ⟨(Only.of_below h.below).setCell (fun _ => own_ib gs hi) _, h.gate.setI hi _ rfl ?_ (fun b hb => heap_set_ne _ hb), (heap_set_ne _ (ne_of_cells h.box (h.gate.hib i hi) (by decide))).trans h.box⟩
  have hh := heap_set (j := 0) (h.gate.hib i hi) (.int .i64 k)
  simpa using hh

theorem AFo.look {w W4 W5 : World} {D : Nat → Prop} {gs : GS} {n : Nat} {m2 : Gm} {x : Elem} {r r5 : Value} {i : Nat} {m' : Value → Gm} {outs : Value → List OV} (h4 : AFo w W4 D gs n m2 x r) (h5 : AFo w W5 D gs n m2 x r) {m : Gm} (hg : GateAt w D gs m) (hD : ∀ b, D b → b < w.heap.size)
    (hr5 : RowAt W5 (fun b => W4.heap.size ≤ b) r5 x.row) (hlook : ∀ D r, LookTo D i (x, r) m2 (m' r) (outs r)) (hn : m.n = n) (hn2 : m2.n = n) :
    Calls Try.prog 44 #[.pointer (some ⟨gs.G, 0, none⟩), .int .i64 i, ev x r5] W5 fun e w' => ∃ v, e = .returned v ∧ Arr w D gs n m' outs 0 (.returned (.tuple #[v, .int .i64 0])) w' := by
  have hs4 := h4.only.size
  have hs5 := h5.only.size
  have hD' : ∀ b, (D b ∨ (w.heap.size ≤ b ∧ b < W5.heap.size)) → b < W5.heap.size := fun b hb => by
    rcases hb with hb | hb
    · have := hD b hb; omega
    · exact hb.2
  refine (hlook (fun b => D b ∨ (w.heap.size ≤ b ∧ b < W5.heap.size)) r5 gs W5 (h5.gate.widen (fun b hb => .inl hb) (fun b hb ho => ?_)) hD' (hr5.imp fun b hb hle => .inr ⟨by omega, hb⟩)).mono ?_
  · rw [hn2, ← hn] at ho
    rcases hb with hb | hb
    · exact hg.hD b hb ho
    · have := hg.lt ho; omega
  · rintro e w' h
    rw [hn2] at h
    have h' := h.from h5.only
    obtain ⟨gs', v, blk, he, hn, hs, hb, hgg, hl, hrr, hon⟩ := h'
    refine ⟨v, he, _, r5, gs', v, blk, fun b hb => .inl hb, fun b hb => hb.imp id fun h => h.1, fun b hb => ?_, rfl, hn, hs, hb, hgg, hl.G, fun b hb => .inl ((like_own hl _ _).1 hb), hrr, hon⟩
    obtain ⟨_, _, _, _, _, _, _, _, _, _, hon2⟩ := h
    exact Nat.lt_of_lt_of_le (hD' b hb) hon2.size

section walks
set_option maxHeartbeats 1000000
set_option maxRecDepth 100000

theorem f13_bar (w : World) (D D0 : Nat → Prop) (gs : GS) (m : Gm) (i : Nat) (x : Elem) (r : Value) (m' : Value → Gm) (outs : Value → List OV) (h : GateAt w D gs m) (hD : ∀ b, D b → b < w.heap.size) (hr : RowAt w D0 r x.row) (hsm : x.row.length ≤ 1000000)
    (hv : validElem x = true) (hi : i < m.n) (hcl : (m.inp i).closed = false) (hk : x.k = 3) (hlast : (m.inp i).last < x.n) (hD0 : ∀ b, D0 b → ¬ gs.own m.n b) (hbl : m.blocked i = false) (hlook : ∀ D r, LookTo D i (x, r) (m.upd i { m.inp i with last := x.n }) (m' r) (outs r)) :
    Calls Try.prog 13 #[.pointer (some ⟨gs.G, 0, none⟩), .int .i64 i, ev x r] w (Arr w D gs m.n m' outs 0) := by
  obtain ⟨k, xn, xt, row, c⟩ := x
  dsimp only at hk hlast hsm hr
  subst hk
  have hV := fun (W : World) (hb : Below w.heap.size w W) => f40_any { k := 3, n := xn, t := xt, row := row, c := c } r W D0 (hr.below hb)
  have hO := fun (W : World) (hb : Only (gs.own m.n) w W) => f43_any W { k := 3, n := xn, t := xt, row := row, c := c } r D0 (hr.keep fun b hb' hlt => hb.block b hlt (hD0 b hb')) hsm
  obtain ⟨ra, rc, rfl, _, _⟩ := hr
  rw [hv] at hV
  have HV := Lib.hid hV
  have HO := Lib.hid hO
  have H := Lib.hid h
  have HD := Lib.hid hD
  have HL := Lib.hid hlook
  clear hV hO h hD hlook hsm
  have j1 : (0 : Int) ≤ (i : Int) := by omega
  have j2 : (i : Int) < (m.n : Int) := by omega
  have hl' : ¬ xn ≤ (m.inp i).last := by omega
  have ha0 : AF w (w.alloc (Obj.cells #[Value.int IntKind.i64 3, Value.int IntKind.i64 xn, Value.int IntKind.i64 xt, Value.slice ra row.length rc, Value.int IntKind.i64 c] 34)) D gs m { k := 3, n := xn, t := xt, row := row, c := c } (.slice ra row.length rc) :=
    ⟨(Below.refl _ _).alloc (Nat.le_refl _) _, H.out.below ((Below.refl _ _).alloc (Nat.le_refl _) _), World.alloc_heap_new _ _⟩
  have HA := Lib.hid ha0
  clear ha0
  have hpn : ∀ W : World, (binOp .neq 93 (.pointer none) (.pointer none)).run Try.prog W = .ok (.bool false) W := fun W => by kernel_rfl
  go_enter Try.func13, Try.ntmps13
  go_wp2_with (
    go_at_call 40; refine (HV.out _ HA.out.below).mono ?_; rintro e w1 ⟨rfl, hb1⟩
    have HA1 := Lib.hid (HA.out.next hb1)
    clear hb1
    obtain ⟨g0, g1, g2, g3, g4, gf⟩ := HA1.out.gate.cells
    obtain ⟨ia, x0, x1, x2, x3, x4, xf⟩ := HA1.out.gate.icells hi
    obtain ⟨b0, b1, b2, b3, b4, bf⟩ := blk5 HA1.out.box)
  have q0 := fun d os => cell_regrown b0 d os
  have q1 := fun d os => cell_regrown b1 d os
  have q2 := fun d os => cell_regrown g0 d os
  have q3 := fun d os => cell_regrown ia d os
  have q4 := fun d os => cell_regrown x0 d os
  refine wp_region_quiet_below (by kernel_rfl) (by kernel_rfl) ?_
  repeat (first | go_big_quiet_skip | quiet_step (fail))
  refine wpQuiet_nil ?_
  intro w2 hw'
  have HA2 := Lib.hid (HA1.out.next (below_of_class hw'))
  clear hw' q0 q1 q2 q3 q4 b0 b1 b2 b3 b4 bf g0 g1 g2 g3 g4 gf ia x0 x1 x2 x3 x4 xf
  obtain ⟨g0, g1, g2, g3, g4, gf⟩ := HA2.out.gate.cells
  obtain ⟨ia, x0, x1, x2, x3, x4, xf⟩ := HA2.out.gate.icells hi
  obtain ⟨b0, b1, b2, b3, b4, bf⟩ := blk5 HA2.out.box
  go_wp2_with fail
  have q2 := fun d os => cell_regrown g2 d os
  have q4 := fun d os => cell_regrown g4 d os
  have hlk := fun d os => lookup_empty (Sort.grow (redrawn w2 d) os) gs.map gs.clock m.under (((below_regrown w2 d os).block _ (heap_lt HA2.out.gate.hmap)).trans HA2.out.gate.hmap)
  refine wp_region_quiet_below (by kernel_rfl) (by kernel_rfl) ?_
  repeat (first | go_big_quiet_skip | quiet_step (fail))
  refine wpQuiet_nil ?_
  intro w3 hw'
  have HA3 := Lib.hid (HA2.out.next (below_of_class hw'))
  clear hw' q2 q4 hlk b0 b1 b2 b3 b4 bf g0 g1 g2 g3 g4 gf ia x0 x1 x2 x3 x4 xf
  obtain ⟨b0, b1, b2, b3, b4, bf⟩ := blk5 HA3.out.box
  have hc := fun W (h : AF w W D gs m { k := 3, n := xn, t := xt, row := row, c := c } (.slice ra row.length rc)) => f41_any W gs m i h.gate hi
  rw [hbl] at hc
  have HC := Lib.hid hc
  have hc2 := fun W (h : AFo w W D gs m.n (m.upd i { m.inp i with last := xn }) { k := 3, n := xn, t := xt, row := row, c := c } (.slice ra row.length rc)) => f41_any W gs _ i h.gate hi
  have hbl2 : (m.upd i { m.inp i with last := xn }).blocked i = false := by rw [← hbl]; simp [Gm.blocked, Gm.upd]
  rw [hbl2] at hc2
  have HC2 := Lib.hid hc2
  clear hc hc2 hbl2
  go_wp2_with (first
    | (go_at_call 41; refine (HC.out _ HA3.out).mono ?_; rintro e w4 ⟨rfl, hb4⟩
       have HA4 := Lib.hid (HA3.out.next hb4)
       clear hb4 b0 b1 b2 b3 b4 bf
       obtain ⟨b0, b1, b2, b3, b4, bf⟩ := blk5 HA4.out.box
       obtain ⟨ia, x0, x1, x2, x3, x4, xf⟩ := HA4.out.gate.icells hi
       have HA6 := Lib.hid (HA4.out.lasts hi xn))
    | (go_at_call 41; refine (HC2.out _ HA6.out).mono ?_; rintro e w5 ⟨rfl, hb5⟩
       have HA7 := Lib.hid (HA6.out.next hb5)
       clear hb5 b0 b1 b2 b3 b4 bf
       obtain ⟨b0, b1, b2, b3, b4, bf⟩ := blk5 HA7.out.box)
    | (go_at_call 43; refine (HO.out _ HA7.out.only).mono ?_; rintro e w6 ⟨r5, rfl, hr5, hb6⟩; have HA8 := Lib.hid (HA7.out.next hb6); have HR5 := Lib.hid hr5)
    | (go_at_call 44; refine (HA7.out.look HA8.out H.out HD.out HR5.out HL.out rfl rfl).mono ?_; rintro e w7 ⟨v7, rfl, hfin⟩))
  refine bodyPost_ret (v := .tuple #[v7, .int .i64 0]) (by kernel_rfl) rfl hfin
end walks
end Go.Proofs.Ytdnkfgnjeibjeaa

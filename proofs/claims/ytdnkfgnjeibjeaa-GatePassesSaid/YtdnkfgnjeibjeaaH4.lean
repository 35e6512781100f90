import Derived.Test.YtdnkfgnjeibjeaaH3
namespace Go.Proofs.Ytdnkfgnjeibjeaa
open Go.RowKit Go.Shelf

theorem below_setBoth {w W : World} (h : Below w.heap.size w W) (p : Addr) (v : Value) : Below (w.setCell p v).heap.size (w.setCell p v) (W.setCell p v) := by
  have hs : ∀ w : World, (w.setCell p v).heap.size = w.heap.size := fun w => by simp [World.setCell]
  refine ⟨h.os, h.tape, h.output, by rw [hs, hs]; exact h.size, fun k hk => ?_⟩
  rw [hs] at hk
  have := h.block k hk
  simp only [World.setCell, Array.getElem?_modify, this]

theorem AF.lasts2 {w W : World} {D : Nat → Prop} {gs : GS} {m : Gm} {x : Elem} {r : Value} (h : AF w W D gs m x r) {i : Nat} (hi : i < m.n) (k : Int) :
    AF (w.setCell ⟨gs.ib i, 0, none⟩ (.int .i64 k)) (W.setCell ⟨gs.ib i, 0, none⟩ (.int .i64 k)) D gs (m.upd i { m.inp i with last := k }) x r := by
  refine ⟨below_setBoth h.below _ _, h.gate.setI hi _ rfl ?_ (fun b hb => heap_set_ne _ hb), ?_⟩
  · have hh := heap_set (j := 0) (h.gate.hib i hi) (.int .i64 k)
    simpa using hh
  · rw [show (w.setCell ⟨gs.ib i, 0, none⟩ (.int .i64 k)).heap.size = w.heap.size by simp [World.setCell]]
    exact (heap_set_ne _ (ne_of_cells h.box (h.gate.hib i hi) (by decide))).trans h.box

/-- Arrive's answer, told from before the gate turned. -/
theorem Arr.from {w W w' : World} {D : Nat → Prop} {gs : GS} {n : Nat} {m' : Value → Gm} {outs : Value → List OV} {err : Int} {e : Ending} (h : Arr W D gs n m' outs err e w') (ho : Only (gs.own n) w W) : Arr w D gs n m' outs err e w' := by
  obtain ⟨D', r, gs', v, blk, h1, h2, h3, he, hn, hs, hb, hg, hG, hown, hr, hon⟩ := h
  exact ⟨D', r, gs', v, blk, h1, fun b hb => (h2 b hb).imp id fun h => Nat.le_trans ho.size h, h3, he, hn, hs, fun g hg => Nat.le_trans ho.size (hb g hg), hg, hG, fun b hb => (hown b hb).imp id fun h => Nat.le_trans ho.size h, hr, ho.trans hon (fun _ _ h => h)⟩

section walks
set_option maxHeartbeats 1000000
set_option maxRecDepth 100000

/-- A barrier that is not beyond the last one. -/
theorem f13_old (w : World) (D D0 : Nat → Prop) (gs : GS) (m : Gm) (i : Nat) (x : Elem) (r : Value) (h : GateAt w D gs m) (hr : RowAt w D0 r x.row)
    (hv : validElem x = true) (hi : i < m.n) (hcl : (m.inp i).closed = false) (hk : x.k = 3) (hlast : x.n ≤ (m.inp i).last) :
    Calls Try.prog 13 #[.pointer (some ⟨gs.G, 0, none⟩), .int .i64 i, ev x r] w fun e w' => e = .returned (.tuple #[.slice none 0 0, .int .i64 7]) ∧ Below w.heap.size w w' := by
  obtain ⟨k, xn, xt, row, c⟩ := x
  dsimp only at hk hlast hr
  subst hk
  have hV := fun (W : World) (hb : Below w.heap.size w W) => f40_any { k := 3, n := xn, t := xt, row := row, c := c } r W D0 (hr.below hb)
  obtain ⟨ra, rc, rfl, _, _⟩ := hr
  rw [hv] at hV
  have HV := Lib.hid hV
  have H := Lib.hid h
  clear hV h
  have j1 : (0 : Int) ≤ (i : Int) := by omega
  have j2 : (i : Int) < (m.n : Int) := by omega
  have ha0 : AF w (w.alloc (Obj.cells #[Value.int IntKind.i64 3, Value.int IntKind.i64 xn, Value.int IntKind.i64 xt, Value.slice ra row.length rc, Value.int IntKind.i64 c] 34)) D gs m { k := 3, n := xn, t := xt, row := row, c := c } (.slice ra row.length rc) :=
    ⟨(Below.refl _ _).alloc (Nat.le_refl _) _, H.out.below ((Below.refl _ _).alloc (Nat.le_refl _) _), World.alloc_heap_new _ _⟩
  have HA := Lib.hid ha0
  clear ha0
  go_enter Try.func13, Try.ntmps13
  go_wp2_with (
    go_at_call 40; refine (HV.out _ HA.out.below).mono ?_; rintro e w1 ⟨rfl, hb1⟩
    have HA1 := Lib.hid (HA.out.next hb1)
    clear hb1
    obtain ⟨g0, g1, g2, g3, g4, gf⟩ := HA1.out.gate.cells
    obtain ⟨ia, x0, x1, x2, x3, x4, xf⟩ := HA1.out.gate.icells hi
    obtain ⟨b0, b1, b2, b3, b4, bf⟩ := blk5 HA1.out.box)
  have q0 := fun d os => cell_regrown b0 d os
  have q1 := fun d os => cell_regrown b1 d os
  have q2 := fun d os => cell_regrown g0 d os
  have q3 := fun d os => cell_regrown ia d os
  have q4 := fun d os => cell_regrown x0 d os
  refine wp_region_quiet_below (by kernel_rfl) (by kernel_rfl) ?_
  repeat (first | go_big_quiet_skip | quiet_step (fail))
  refine wpQuiet_nil ?_
  intro w2 hw'
  have HA2 := Lib.hid (HA1.out.next (below_of_class hw'))
  clear hw' q0 q1 q2 q3 q4 b0 b1 b2 b3 b4 bf g0 g1 g2 g3 g4 gf ia x0 x1 x2 x3 x4 xf
  go_wp2_with fail
  exact bodyPost_ret (v := .tuple #[.slice none 0 0, .int .i64 7]) (by kernel_rfl) rfl ⟨rfl, HA2.out.below⟩

/-- A barrier that waits. -/
theorem f13_waitbar (w : World) (D D0 : Nat → Prop) (gs : GS) (m : Gm) (i : Nat) (x : Elem) (r : Value) (h : GateAt w D gs m) (hD : ∀ b, D b → b < w.heap.size) (hr : RowAt w D0 r x.row) (hsm : x.row.length ≤ 1000000)
    (hv : validElem x = true) (hi : i < m.n) (hcl : (m.inp i).closed = false) (hk : x.k = 3) (hlast : (m.inp i).last < x.n) (hD0 : ∀ b, D0 b → ¬ gs.own m.n b) (hbl : m.blocked i = true) (hq : qsum m m.n ≤ 1000000) (hcnt : qsum m m.n ≠ 4000) :
    Calls Try.prog 13 #[.pointer (some ⟨gs.G, 0, none⟩), .int .i64 i, ev x r] w (Arr w D gs m.n (fun r => m.upd i { m.inp i with last := x.n, queue := (m.inp i).queue ++ [(x, r)] }) (fun _ => []) 0) := by
  obtain ⟨k, xn, xt, row, c⟩ := x
  dsimp only at hk hlast hsm hr
  subst hk
  have hV := fun (W : World) (hb : Below w.heap.size w W) => f40_any { k := 3, n := xn, t := xt, row := row, c := c } r W D0 (hr.below hb)
  have hon : Only (gs.own m.n) w (w.setCell ⟨gs.ib i, 0, none⟩ (.int .i64 xn)) := Only.setCell (Only.refl _ _) (p := ⟨gs.ib i, 0, none⟩) (fun _ => own_ib gs hi) _
  have hr2 := hr.keep (w' := w.setCell ⟨gs.ib i, 0, none⟩ (.int .i64 xn)) fun b hb' hlt => hon.block b hlt (hD0 b hb')
  have hO := fun (W : World) (hb : Below (w.setCell ⟨gs.ib i, 0, none⟩ (.int .i64 xn)).heap.size (w.setCell ⟨gs.ib i, 0, none⟩ (.int .i64 xn)) W) => f43_any W { k := 3, n := xn, t := xt, row := row, c := c } r D0 (hr2.below hb) hsm
  have hg2 : GateAt (w.setCell ⟨gs.ib i, 0, none⟩ (.int .i64 xn)) D gs (m.upd i { m.inp i with last := xn }) := h.setI hi _ rfl (by have hh := heap_set (j := 0) (h.hib i hi) (.int .i64 xn); simpa using hh) (fun b hb => heap_set_ne _ hb)
  have hD2 : ∀ b, D b → b < (w.setCell ⟨gs.ib i, 0, none⟩ (.int .i64 xn)).heap.size := fun b hb => Nat.lt_of_lt_of_le (hD b hb) hon.size
  obtain ⟨ra, rc, rfl, _, _⟩ := hr
  rw [hv] at hV
  have HV := Lib.hid hV
  have HO := Lib.hid hO
  have H := Lib.hid h
  have HD := Lib.hid hD
  have HG2 := Lib.hid hg2
  have HD2 := Lib.hid hD2
  have HON := Lib.hid hon
  clear hV hO h hD hsm hg2 hD2 hon hr2
  have j1 : (0 : Int) ≤ (i : Int) := by omega
  have j2 : (i : Int) < (m.n : Int) := by omega
  have hl' : ¬ xn ≤ (m.inp i).last := by omega
  have ha0 : AF w (w.alloc (Obj.cells #[Value.int IntKind.i64 3, Value.int IntKind.i64 xn, Value.int IntKind.i64 xt, Value.slice ra row.length rc, Value.int IntKind.i64 c] 34)) D gs m { k := 3, n := xn, t := xt, row := row, c := c } (.slice ra row.length rc) :=
    ⟨(Below.refl _ _).alloc (Nat.le_refl _) _, H.out.below ((Below.refl _ _).alloc (Nat.le_refl _) _), World.alloc_heap_new _ _⟩
  have HA := Lib.hid ha0
  clear ha0
  have hpn : ∀ W : World, (binOp .neq 93 (.pointer none) (.pointer none)).run Try.prog W = .ok (.bool false) W := fun W => by kernel_rfl
  go_enter Try.func13, Try.ntmps13
  go_wp2_with (
    go_at_call 40; refine (HV.out _ HA.out.below).mono ?_; rintro e w1 ⟨rfl, hb1⟩
    have HA1 := Lib.hid (HA.out.next hb1)
    clear hb1
    obtain ⟨g0, g1, g2, g3, g4, gf⟩ := HA1.out.gate.cells
    obtain ⟨ia, x0, x1, x2, x3, x4, xf⟩ := HA1.out.gate.icells hi
    obtain ⟨b0, b1, b2, b3, b4, bf⟩ := blk5 HA1.out.box)
  have q0 := fun d os => cell_regrown b0 d os
  have q1 := fun d os => cell_regrown b1 d os
  have q2 := fun d os => cell_regrown g0 d os
  have q3 := fun d os => cell_regrown ia d os
  have q4 := fun d os => cell_regrown x0 d os
  refine wp_region_quiet_below (by kernel_rfl) (by kernel_rfl) ?_
  repeat (first | go_big_quiet_skip | quiet_step (fail))
  refine wpQuiet_nil ?_
  intro w2 hw'
  have HA2 := Lib.hid (HA1.out.next (below_of_class hw'))
  clear hw' q0 q1 q2 q3 q4 b0 b1 b2 b3 b4 bf g0 g1 g2 g3 g4 gf ia x0 x1 x2 x3 x4 xf
  obtain ⟨g0, g1, g2, g3, g4, gf⟩ := HA2.out.gate.cells
  obtain ⟨ia, x0, x1, x2, x3, x4, xf⟩ := HA2.out.gate.icells hi
  obtain ⟨b0, b1, b2, b3, b4, bf⟩ := blk5 HA2.out.box
  go_wp2_with fail
  have q2 := fun d os => cell_regrown g2 d os
  have q4 := fun d os => cell_regrown g4 d os
  have hlk := fun d os => lookup_empty (Sort.grow (redrawn w2 d) os) gs.map gs.clock m.under (((below_regrown w2 d os).block _ (heap_lt HA2.out.gate.hmap)).trans HA2.out.gate.hmap)
  refine wp_region_quiet_below (by kernel_rfl) (by kernel_rfl) ?_
  repeat (first | go_big_quiet_skip | quiet_step (fail))
  refine wpQuiet_nil ?_
  intro w3 hw'
  have HA3 := Lib.hid (HA2.out.next (below_of_class hw'))
  clear hw' q2 q4 hlk b0 b1 b2 b3 b4 bf g0 g1 g2 g3 g4 gf ia x0 x1 x2 x3 x4 xf
  obtain ⟨b0, b1, b2, b3, b4, bf⟩ := blk5 HA3.out.box
  have hc := fun W (h : AF w W D gs m { k := 3, n := xn, t := xt, row := row, c := c } (.slice ra row.length rc)) => f41_any W gs m i h.gate hi
  rw [hbl] at hc
  have HC := Lib.hid hc
  have hc3 := fun W (h : AF w W D gs m { k := 3, n := xn, t := xt, row := row, c := c } (.slice ra row.length rc)) => f42_any W gs m h.gate hq
  have HC3 := Lib.hid hc3
  have hc2 := fun W (h : AF (w.setCell ⟨gs.ib i, 0, none⟩ (.int .i64 xn)) W D gs (m.upd i { m.inp i with last := xn }) { k := 3, n := xn, t := xt, row := row, c := c } (.slice ra row.length rc)) => f41_any W gs _ i h.gate hi
  have hbl2 : (m.upd i { m.inp i with last := xn }).blocked i = true := by rw [← hbl]; simp [Gm.blocked, Gm.upd]
  rw [hbl2] at hc2
  have HC2 := Lib.hid hc2
  clear hc hc2 hbl2 hc3
  have hql : (m.inp i).queue.length ≤ 1000000 := by
    have h1 : qsum m (i + 1) ≤ qsum m m.n := qsum_mono m hi
    simp only [qsum] at h1; omega
  have hne : ((qsum m m.n : Int) == 4000) = false := by
    simp only [beq_eq_false_iff_ne, ne_eq]; omega
  go_wp2_with (first
    | (go_at_call 41; refine (HC.out _ HA3.out).mono ?_; rintro e w4 ⟨rfl, hb4⟩
       have HA4 := Lib.hid (HA3.out.next hb4)
       clear hb4 b0 b1 b2 b3 b4 bf)
    | (go_at_call 42; refine (HC3.out _ HA4.out).mono ?_; rintro e w4' ⟨rfl, hb4⟩
       have HA5 := Lib.hid (HA4.out.next hb4)
       clear hb4
       obtain ⟨b0, b1, b2, b3, b4, bf⟩ := blk5 HA5.out.box
       obtain ⟨ia, x0, x1, x2, x3, x4, xf⟩ := HA5.out.gate.icells hi
       have HA6 := Lib.hid (HA5.out.lasts2 hi xn))
    | (go_at_call 41; refine (HC2.out _ HA6.out).mono ?_; rintro e w5 ⟨rfl, hb5⟩
       have HA7 := Lib.hid (HA6.out.next hb5)
       clear hb5 b0 b1 b2 b3 b4 bf
       obtain ⟨b0, b1, b2, b3, b4, bf⟩ := blk5 HA7.out.box))
  have hgq := HA7.out.gate
  have hi2 : i < (m.upd i { m.inp i with last := xn }).n := hi
  have hs' : (w.setCell ⟨gs.ib i, 0, none⟩ (.int .i64 xn)).heap.size = w.heap.size := by simp [World.setCell]
  rw [hs'] at b0 b1 b2 b3 b4
  refine region16_ok (gs.ib i) (m.inp i).queue.length w.heap.size (gs.qv i) ((m.inp i).queue.flatMap ecl) (gs.qb i) { k := 3, n := xn, t := xt, row := row, c := c } (.slice ra row.length rc) _ w5 _ rfl rfl rfl ((m.upd i { m.inp i with last := xn }).inp i) (hgq.hib i hi2) (fun e => hgq.qb_ne hi2 e (hgq.hib i hi2) (by decide) rfl) b0 b1 b2 b3 b4 (by have := hgq.hq i hi2; simpa [Gm.upd] using this) hql (HO.out _ HA7.out.below.drew) ?_
  intro r5 x7 x8 w8 happ
  rw [fill11 _ _ _ (by simp)]
  have happ2 : App16 w5 w8 { k := 3, n := xn, t := xt, row := row, c := c } r5 x8 ((m.upd i { m.inp i with last := xn }).inp i).queue.length (((m.upd i { m.inp i with last := xn }).inp i).queue.flatMap ecl) (gs.qb i) := by simpa [Gm.upd] using happ
  have HP := Lib.hid happ2
  clear happ happ2 hgq
  dsimp only [val16, Nat.reduceAdd]
  go_wp2_with fail
  have hfin := (HA7.out.queue hi2 HG2.out HD2.out HP.out).from HON.out
  have he : (fun r : Value => (m.upd i { m.inp i with last := xn }).upd i { (m.upd i { m.inp i with last := xn }).inp i with queue := ((m.upd i { m.inp i with last := xn }).inp i).queue ++ [({ k := 3, n := xn, t := xt, row := row, c := c }, r)] }) =
      fun r => m.upd i { m.inp i with last := xn, closed := false, queue := (m.inp i).queue ++ [({ k := 3, n := xn, t := xt, row := row, c := c }, r)] } := by
    funext r
    simp only [Gm.upd, if_true, Gm.mk.injEq, true_and, and_true]
    funext j
    by_cases e : j = i <;> simp [e, hcl]
  rw [he] at hfin
  exact bodyPost_ret (v := .tuple #[.slice none 0 0, .int .i64 0]) (by kernel_rfl) rfl hfin
end walks
end Go.Proofs.Ytdnkfgnjeibjeaa

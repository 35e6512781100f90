import Derived.Test.YtdnkfgnjeibjeaaMD
import Derived.Laws.AppendOwn
import Derived.Carry

namespace Go.Proofs.Ytdnkfgnjeibjeaa
open Go.RowKit Go.Shelf

/-- The gate and the element's box, the gate turned. -/
structure AFo (w W : World) (D : Nat → Prop) (gs : GS) (n : Nat) (m : Gm) (x : Elem) (r : Value) : Prop where
  only : Only (gs.own n) w W
  gate : GateAt W D gs m
  box : W.heap[w.heap.size]? = some (.cells #[.int .i64 x.k, .int .i64 x.n, .int .i64 x.t, r, .int .i64 x.c] 34 (0, 0))

theorem AFo.next {w W W' : World} {D : Nat → Prop} {gs : GS} {n : Nat} {m : Gm} {x : Elem} {r : Value} (h : AFo w W D gs n m x r) (hb : Below W.heap.size W W') : AFo w W' D gs n m x r :=
  ⟨h.only.trans (Only.of_below (S := fun _ => False) hb) (fun _ _ h => h.elim), h.gate.below hb, (hb.block _ (heap_lt h.box)).trans h.box⟩

theorem AF.lasts {w W : World} {D : Nat → Prop} {gs : GS} {m : Gm} {x : Elem} {r : Value} (h : AF w W D gs m x r) {i : Nat} (hi : i < m.n) (k : Int) : AFo w (W.setCell ⟨gs.ib i, 0, none⟩ (.int .i64 k)) D gs m.n (m.upd i { m.inp i with last := k }) x r := by
  refine ⟨(Only.of_below h.below).setCell (fun _ => own_ib gs hi) _, h.gate.setI hi _ rfl ?_ (fun b hb => heap_set_ne _ hb), (heap_set_ne _ (ne_of_cells h.box (h.gate.hib i hi) (by decide))).trans h.box⟩
  have hh := heap_set (j := 0) (h.gate.hib i hi) (.int .i64 k)
  simpa using hh

theorem AFo.look {w W4 W5 : World} {D : Nat → Prop} {gs : GS} {n : Nat} {m2 : Gm} {x : Elem} {r r5 : Value} {i : Nat} {m' : Value → Gm} {outs : Value → List OV} (h4 : AFo w W4 D gs n m2 x r) (h5 : AFo w W5 D gs n m2 x r) {m : Gm} (hg : GateAt w D gs m) (hD : ∀ b, D b → b < w.heap.size)
    (hr5 : RowAt W5 (fun b => W4.heap.size ≤ b) r5 x.row) (hlook : ∀ D r, LookTo D i (x, r) m2 (m' r) (outs r)) (hn : m.n = n) (hn2 : m2.n = n) :
    Calls Try.prog 44 #[.pointer (some ⟨gs.G, 0, none⟩), .int .i64 i, ev x r5] W5 fun e w' => ∃ v, e = .returned v ∧ Arr w D gs n m' outs 0 (.returned (.tuple #[v, .int .i64 0])) w' := by
  have hs4 := h4.only.size
  have hs5 := h5.only.size
  have hD' : ∀ b, (D b ∨ (w.heap.size ≤ b ∧ b < W5.heap.size)) → b < W5.heap.size := fun b hb => by
    rcases hb with hb | hb
    · have := hD b hb; omega
    · exact hb.2
  refine (hlook (fun b => D b ∨ (w.heap.size ≤ b ∧ b < W5.heap.size)) r5 gs W5 (h5.gate.widen (fun b hb => .inl hb) (fun b hb ho => ?_)) hD' (hr5.imp fun b hb hle => .inr ⟨by omega, hb⟩)).mono ?_
  · rw [hn2, ← hn] at ho
    rcases hb with hb | hb
    · exact hg.hD b hb ho
    · have := hg.lt ho; omega
  · rintro e w' h
    rw [hn2] at h
    have h' := h.from h5.only
    obtain ⟨gs', v, blk, he, hn, hs, hb, hgg, hl, hrr, hon⟩ := h'
    refine ⟨v, he, _, r5, gs', v, blk, fun b hb => .inl hb, fun b hb => hb.imp id fun h => h.1, fun b hb => ?_, rfl, hn, hs, hb, hgg, hl.G, fun b hb => .inl ((like_own hl _ _).1 hb), hrr, hon⟩
    obtain ⟨_, _, _, _, _, _, _, _, _, _, hon2⟩ := h
    exact Nat.lt_of_lt_of_le (hD' b hb) hon2.size

section walks
set_option maxHeartbeats 1000000
set_option maxRecDepth 100000

theorem f13_bar (w : World) (D D0 : Nat → Prop) (gs : GS) (m : Gm) (i : Nat) (x : Elem) (r : Value) (m' : Value → Gm) (outs : Value → List OV) (h : GateAt w D gs m) (hD : ∀ b, D b → b < w.heap.size) (hr : RowAt w D0 r x.row) (hsm : x.row.length ≤ 1000000)
    (hv : validElem x = true) (hi : i < m.n) (hcl : (m.inp i).closed = false) (hk : x.k = 3) (hlast : (m.inp i).last < x.n) (hD0 : ∀ b, D0 b → ¬ gs.own m.n b) (hbl : m.blocked i = false) (hlook : ∀ D r, LookTo D i (x, r) (m.upd i { m.inp i with last := x.n }) (m' r) (outs r)) :
    Calls Try.prog 13 #[.pointer (some ⟨gs.G, 0, none⟩), .int .i64 i, ev x r] w (Arr w D gs m.n m' outs 0) := by
  obtain ⟨k, xn, xt, row, c⟩ := x
  dsimp only at hk hlast hsm hr
  subst hk
  have hV := fun (W : World) (hb : Below w.heap.size w W) => f40_any { k := 3, n := xn, t := xt, row := row, c := c } r W D0 (hr.below hb)
  have hO := fun (W : World) (hb : Only (gs.own m.n) w W) => f43_any W { k := 3, n := xn, t := xt, row := row, c := c } r D0 (hr.keep fun b hb' hlt => hb.block b hlt (hD0 b hb')) hsm
  obtain ⟨ra, rc, rfl, _, _⟩ := hr
  rw [hv] at hV
  have HV := Lib.hid hV
  have HO := Lib.hid hO
  have H := Lib.hid h
  have HD := Lib.hid hD
  have HL := Lib.hid hlook
  clear hV hO h hD hlook hsm
  have j1 : (0 : Int) ≤ (i : Int) := by omega
  have j2 : (i : Int) < (m.n : Int) := by omega
  have hl' : ¬ xn ≤ (m.inp i).last := by omega
  have ha0 : AF w (w.alloc (Obj.cells #[Value.int IntKind.i64 3, Value.int IntKind.i64 xn, Value.int IntKind.i64 xt, Value.slice ra row.length rc, Value.int IntKind.i64 c] 34)) D gs m { k := 3, n := xn, t := xt, row := row, c := c } (.slice ra row.length rc) :=
    ⟨(Below.refl _ _).alloc (Nat.le_refl _) _, H.out.below ((Below.refl _ _).alloc (Nat.le_refl _) _), World.alloc_heap_new _ _⟩
  have HA := Lib.hid ha0
  clear ha0
  have hpn : ∀ W : World, (binOp .neq 93 (.pointer none) (.pointer none)).run Try.prog W = .ok (.bool false) W := fun W => by kernel_rfl
  go_enter Try.func13, Try.ntmps13
  go_wp2_with (
    go_at_call 40; refine (HV.out _ HA.out.below).mono ?_; rintro e w1 ⟨rfl, hb1⟩
    have HA1 := Lib.hid (HA.out.next hb1)
    clear hb1
    obtain ⟨g0, g1, g2, g3, g4, gf⟩ := HA1.out.gate.cells
    obtain ⟨ia, x0, x1, x2, x3, x4, xf⟩ := HA1.out.gate.icells hi
    obtain ⟨b0, b1, b2, b3, b4, bf⟩ := blk5 HA1.out.box)
  have q0 := fun d os => cell_regrown b0 d os
  have q1 := fun d os => cell_regrown b1 d os
  have q2 := fun d os => cell_regrown g0 d os
  have q3 := fun d os => cell_regrown ia d os
  have q4 := fun d os => cell_regrown x0 d os
  refine wp_region_quiet_below (by kernel_rfl) (by kernel_rfl) ?_
  repeat (first | go_big_quiet_skip | quiet_step (fail))
  refine wpQuiet_nil ?_
  intro w2 hw'
  have HA2 := Lib.hid (HA1.out.next (below_of_class hw'))
  clear hw' q0 q1 q2 q3 q4 b0 b1 b2 b3 b4 bf g0 g1 g2 g3 g4 gf ia x0 x1 x2 x3 x4 xf
  obtain ⟨g0, g1, g2, g3, g4, gf⟩ := HA2.out.gate.cells
  obtain ⟨ia, x0, x1, x2, x3, x4, xf⟩ := HA2.out.gate.icells hi
  obtain ⟨b0, b1, b2, b3, b4, bf⟩ := blk5 HA2.out.box
  go_wp2_with fail
  have q2 := fun d os => cell_regrown g2 d os
  have q4 := fun d os => cell_regrown g4 d os
  have hlk := fun d os => lookup_empty (Sort.grow (redrawn w2 d) os) gs.map gs.clock m.under (((below_regrown w2 d os).block _ (heap_lt HA2.out.gate.hmap)).trans HA2.out.gate.hmap)
  refine wp_region_quiet_below (by kernel_rfl) (by kernel_rfl) ?_
  repeat (first | go_big_quiet_skip | quiet_step (fail))
  refine wpQuiet_nil ?_
  intro w3 hw'
  have HA3 := Lib.hid (HA2.out.next (below_of_class hw'))
  clear hw' q2 q4 hlk b0 b1 b2 b3 b4 bf g0 g1 g2 g3 g4 gf ia x0 x1 x2 x3 x4 xf
  obtain ⟨b0, b1, b2, b3, b4, bf⟩ := blk5 HA3.out.box
  have hc := fun W (h : AF w W D gs m { k := 3, n := xn, t := xt, row := row, c := c } (.slice ra row.length rc)) => f41_any W gs m i h.gate hi
  rw [hbl] at hc
  have HC := Lib.hid hc
  have hc2 := fun W (h : AFo w W D gs m.n (m.upd i { m.inp i with last := xn }) { k := 3, n := xn, t := xt, row := row, c := c } (.slice ra row.length rc)) => f41_any W gs _ i h.gate hi
  have hbl2 : (m.upd i { m.inp i with last := xn }).blocked i = false := by rw [← hbl]; simp [Gm.blocked, Gm.upd]
  rw [hbl2] at hc2
  have HC2 := Lib.hid hc2
  clear hc hc2 hbl2
  go_wp2_with (first
    | (go_at_call 41; refine (HC.out _ HA3.out).mono ?_; rintro e w4 ⟨rfl, hb4⟩
       have HA4 := Lib.hid (HA3.out.next hb4)
       clear hb4 b0 b1 b2 b3 b4 bf
       obtain ⟨b0, b1, b2, b3, b4, bf⟩ := blk5 HA4.out.box
       obtain ⟨ia, x0, x1, x2, x3, x4, xf⟩ := HA4.out.gate.icells hi
       have HA6 := Lib.hid (HA4.out.lasts hi xn))
    | (go_at_call 41; refine (HC2.out _ HA6.out).mono ?_; rintro e w5 ⟨rfl, hb5⟩
       have HA7 := Lib.hid (HA6.out.next hb5)
       clear hb5 b0 b1 b2 b3 b4 bf
       obtain ⟨b0, b1, b2, b3, b4, bf⟩ := blk5 HA7.out.box)
    | (go_at_call 43; refine (HO.out _ HA7.out.only).mono ?_; rintro e w6 ⟨r5, rfl, hr5, hb6⟩; have HA8 := Lib.hid (HA7.out.next hb6); have HR5 := Lib.hid hr5)
    | (go_at_call 44; refine (HA7.out.look HA8.out H.out HD.out HR5.out HL.out rfl rfl).mono ?_; rintro e w7 ⟨v7, rfl, hfin⟩))
  refine bodyPost_ret (v := .tuple #[v7, .int .i64 0]) (by kernel_rfl) rfl hfin
end walks
end Go.Proofs.Ytdnkfgnjeibjeaa

namespace Go.Proofs.Ytdnkfgnjeibjeaa
open Go.RowKit Go.Shelf

def Inp.zero : Inp := { last := 0, closed := false, queue := [], sent := false, holds := false }
def Gm.new (n : Nat) (al : Bool) : Gm := { n := n, al := al, inp := fun _ => Inp.zero, under := 0, done := 0 }

/-- A gate while its inputs are made: s is where the heap ended. -/
structure NewI (w wr : World) (al : Bool) (k : Nat) (v : Value) (ib : Nat → Nat) : Prop where
  below : Below w.heap.size w wr
  hG : wr.heap[w.heap.size + 1]? = some (.cells #[v, howV al, .int .i64 0, .int .i64 0, .map (some w.heap.size)] 88 (0, 0))
  hmap : wr.heap[w.heap.size]? = some (.map #[] 0)
  own : wr.ownsRow w.heap.size 90 1 v k ((List.range k).map fun j => .pointer (some ⟨ib j, 0, none⟩))
  hib : ∀ j, j < k → wr.heap[ib j]? = some (.cells (icl Inp.zero (.slice none 0 0)) 92 (0, 0))
  ge : ∀ j, j < k → w.heap.size ≤ ib j
  inj : ∀ i j, i < k → j < k → ib i = ib j → i = j

theorem NewI.gate {w wr : World} {al : Bool} {n : Nat} {v : Value} {ib : Nat → Nat} (h : NewI w wr al n v ib) (h1 : 1 ≤ n) (h2 : n ≤ 200) (D : Nat → Prop) (hD : ∀ b, D b → b < w.heap.size) :
    ∃ gs, gs.G = w.heap.size + 1 ∧ GateAt wr D gs (Gm.new n al) ∧ (∀ b, gs.own n b → w.heap.size ≤ b) := by
  obtain ⟨hl, hx⟩ := h.own
  rcases hx with ⟨_, h0⟩ | ⟨g, cap, cur, rfl, hb, hg, hnc, hcm, hcs, htk⟩
  · omega
  · have hown : ∀ b, GS.own { G := w.heap.size + 1, arr := g, cap := cap, map := w.heap.size, clock := 0, ib := ib, qv := fun _ => .slice none 0 0, qb := fun _ => none } n b → w.heap.size ≤ b := by
      rintro b (rfl | rfl | rfl | ⟨i, hi, rfl⟩ | ⟨i, hi, hq⟩)
      · exact Nat.le_succ _
      · exact hb
      · exact Nat.le_refl _
      · exact h.ge i hi
      · cases hq
    refine ⟨{ G := w.heap.size + 1, arr := g, cap := cap, map := w.heap.size, clock := 0, ib := ib, qv := fun _ => .slice none 0 0, qb := fun _ => none }, rfl, ⟨h1, h2, h.hG, ⟨cur, hg, fun i hi => ?_⟩, h.hib, h.inj, fun i hi => SlOwn.nil _ _ _, (fun i j g hi hj hq => by cases hq), (fun i hi p hp => by cases hp), fun b hb ho => ?_, h.hmap⟩, hown⟩
    · have hi' : i < n := hi
      have e : (cur.toList.take (n * 1))[i]? = some (.pointer (some ⟨ib i, 0, none⟩)) := by
        rw [htk, List.getElem?_map, List.getElem?_range hi']
        rfl
      rw [List.getElem?_take_of_lt (by omega)] at e
      simpa using e
    · have h3 := hown b ho
      have h4 := hD b hb
      omega

theorem NewI.keepG {w wr : World} {al : Bool} {k : Nat} {v : Value} {ib : Nat → Nat} (h : NewI w wr al k v ib) {w3 : World}
    (hgr : ((wr.alloc (Obj.cells (icl Inp.zero (.slice none 0 0)) 92)).alloc (Obj.cells #[.pointer (some ⟨wr.heap.size, 0, none⟩)] 90)).grownBy w3 v.ownBlock) :
    w3.heap[w.heap.size + 1]? = some (.cells #[v, howV al, .int .i64 0, .int .i64 0, .map (some w.heap.size)] 88 (0, 0)) := by
  have hb1 : Below wr.heap.size wr ((wr.alloc (Obj.cells (icl Inp.zero (.slice none 0 0)) 92)).alloc (Obj.cells #[.pointer (some ⟨wr.heap.size, 0, none⟩)] 90)) := ((Below.refl _ _).alloc (Nat.le_refl _) _).alloc (by simp) _
  refine (hgr.block _ (by have := heap_lt h.hG; simp; omega) (fun e => ?_)).trans ((hb1.block _ (heap_lt h.hG)).trans h.hG)
  rcases h.own.2 with ⟨e', _⟩ | ⟨g', cap, cur, e', _, hg, _⟩
  · rw [e'] at e; cases e
  · rw [e'] at e
    injection e with e
    have e2 : w.heap.size + 1 = g' := e
    subst e2
    exact ne_of_cells h.hG hg (by decide) rfl

theorem NewI.step {w wr : World} {al : Bool} {k : Nat} {v v' : Value} {ib : Nat → Nat} (h : NewI w wr al k v ib) {w3 : World}
    (hgr : ((wr.alloc (Obj.cells (icl Inp.zero (.slice none 0 0)) 92)).alloc (Obj.cells #[.pointer (some ⟨wr.heap.size, 0, none⟩)] 90)).grownBy w3 v.ownBlock)
    (hown : w3.ownsRow w.heap.size 90 1 v' (k + 1) ((List.range k).map (fun j => Value.pointer (some ⟨ib j, 0, none⟩)) ++ [.pointer (some ⟨wr.heap.size, 0, none⟩)])) :
    NewI w (w3.setCell ⟨w.heap.size + 1, 0, none⟩ v') al (k + 1) v' (fun j => if j = k then wr.heap.size else ib j) := by
  have hsz := h.below.size
  have hb1 : Below wr.heap.size wr ((wr.alloc (Obj.cells (icl Inp.zero (.slice none 0 0)) 92)).alloc (Obj.cells #[.pointer (some ⟨wr.heap.size, 0, none⟩)] 90)) := ((Below.refl _ _).alloc (Nat.le_refl _) _).alloc (by simp) _
  have hvb : ∀ {g : Nat} {c : Array Value} {t : TypeId} {f : Nat × Nat}, v.ownBlock = some g → wr.heap[g]? = some (Obj.cells c t f) → t = 90 := by
    intro g c t f hv hc
    rcases h.own.2 with ⟨e, _⟩ | ⟨g', cap, cur, e, _, hg, _⟩
    · rw [e] at hv; cases hv
    · rw [e] at hv
      injection hv with hv
      subst hv
      rw [hg] at hc
      injection hc with hc
      injection hc with _ hc
      exact hc.symm
  have hvl : ∀ {g}, v.ownBlock = some g → g < wr.heap.size := fun hv => (h.own.lt _ hv).2
  have hk : ∀ {b : Nat} {c : Array Value} {t : TypeId} {f : Nat × Nat}, wr.heap[b]? = some (Obj.cells c t f) → t ≠ 90 → w3.heap[b]? = some (Obj.cells c t f) := fun {b c t f} hb ht =>
    (hgr.block b (by have := heap_lt hb; simp; omega) (fun e => ht (hvb e.symm hb))).trans ((hb1.block b (heap_lt hb)).trans hb)
  have hset : ∀ b, b ≠ w.heap.size + 1 → (w3.setCell ⟨w.heap.size + 1, 0, none⟩ v').heap[b]? = w3.heap[b]? := fun b hb => heap_set_ne _ hb
  have hnew : w3.heap[wr.heap.size]? = some (.cells (icl Inp.zero (.slice none 0 0)) 92 (0, 0)) :=
    (hgr.block _ (by simp only [World.size_alloc]; omega) (fun e => by have := hvl e.symm; omega)).trans ((Below.heap_alloc _ _ _ (by simp)).trans (World.alloc_heap_new _ _))
  have hGs := heap_lt h.hG
  refine ⟨?_, ?_, ?_, ?_, fun j hj => ?_, fun j hj => ?_, fun i j hi hj e => ?_⟩
  · have h1 : Below w.heap.size w w3 := (h.below.trans (hb1.mono hsz)).grown hgr (by have := hb1.size; omega) (fun q hq => (h.own.lt q hq).1)
    exact h1.setCell (Nat.le_succ _) _
  · have hh := heap_set (j := 0) (hk h.hG (by decide)) v'
    simpa using hh
  · refine (hset _ (by omega)).trans ((hgr.block _ (by simp; omega) (fun e => ?_)).trans ((hb1.block _ (by omega)).trans h.hmap))
    rcases h.own.2 with ⟨e', _⟩ | ⟨g', cap, cur, e', _, hg, _⟩
    · rw [e'] at e; cases e
    · rw [e'] at e
      injection e with e
      have e2 : w.heap.size = g' := e
      subst e2
      rw [h.hmap] at hg
      injection hg with hg
      cases hg
  · rw [List.range_succ, List.map_append]
    have e1 : (List.range k).map (fun j => Value.pointer (some ⟨if j = k then wr.heap.size else ib j, 0, none⟩)) = (List.range k).map (fun j => Value.pointer (some ⟨ib j, 0, none⟩)) := by
      apply List.map_congr_left
      intro j hj
      have : j ≠ k := by have := List.mem_range.1 hj; omega
      simp [this]
    rw [e1]
    simp only [List.map_cons, List.map_nil, if_true]
    obtain ⟨hl, hx⟩ := hown
    refine ⟨hl, ?_⟩
    rcases hx with ⟨_, h0⟩ | ⟨g, cap, cur, e, hb, hg, hr⟩
    · omega
    · exact .inr ⟨g, cap, cur, e, hb, (hset g (ne_of_cells hg (hk h.hG (by decide)) (by decide))).trans hg, hr⟩
  · by_cases e : j = k
    · subst e
      simp only [if_true]
      exact (hset _ (by omega)).trans hnew
    · simp only [e, if_false]
      have hj' : j < k := by omega
      exact (hset _ (fun e' => ne_of_cells (h.hib j hj') h.hG (by decide) e')).trans (hk (h.hib j hj') (by decide))
  · by_cases e : j = k
    · simp only [e, if_true]; omega
    · simp only [e, if_false]; exact h.ge j (by omega)
  · have hlt : ∀ j, j < k → ib j < wr.heap.size := fun j hj => heap_lt (h.hib j hj)
    by_cases e1 : i = k <;> by_cases e2 : j = k
    · omega
    · simp only [e1, e2, if_true, if_false] at e
      have := hlt j (by omega); omega
    · simp only [e1, e2, if_true, if_false] at e
      have := hlt i (by omega); omega
    · simp only [e1, e2, if_false] at e
      exact h.inj i j (by omega) (by omega) e

section walks
set_option maxHeartbeats 1000000
set_option maxRecDepth 100000

theorem info90 : (Try.prog.info? 90).map (fun i => (i.zero, i.size, i.bytes)) = some (some (.pointer none), 1, 8) := by kernel_rfl

theorem NewI.start (w : World) (al : Bool) : NewI w ((w.alloc (Obj.map #[] 0)).alloc (Obj.cells #[.slice none 0 0, howV al, .int .i64 0, .int .i64 0, .map (some w.heap.size)] 88)) al 0 (.slice none 0 0) (fun _ => 0) := by
  refine ⟨((Below.refl _ _).alloc (Nat.le_refl _) _).alloc (by simp) _, ?_, (Below.heap_alloc _ _ _ (by simp)).trans (World.alloc_heap_new _ _), World.ownsRow_nil _ _ _ _, fun j hj => by omega, fun j hj => by omega, fun i j hi hj => by omega⟩
  have := World.alloc_heap_new (w.alloc (Obj.map #[] 0)) (Obj.cells #[.slice none 0 0, howV al, .int .i64 0, .int .i64 0, .map (some w.heap.size)] 88)
  rw [World.size_alloc] at this
  exact this

theorem f12_ok (w : World) (n : Nat) (al : Bool) (h1 : 1 ≤ n) (h2 : n ≤ 200) :
    Calls Try.prog 12 #[.int .i64 n, .bool al] w fun e w' => e = .returned (.tuple #[.pointer (some ⟨w.heap.size + 1, 0, none⟩), .int .i64 0]) ∧ ∃ v ib, NewI w w' al n v ib := by
  have j1 : ¬ (n : Int) < 1 := by omega
  have j2 : ¬ (n : Int) > 200 := by omega
  have hmk := run_makeMap (P := Try.prog) 83
  obtain ⟨i0, hi0, hz0, hz1, hz2⟩ := info_parts info90
  have hst := NewI.start w al
  have HS := Lib.hid hst
  clear hst
  cases al
  all_goals
    go_enter Try.func12, Try.ntmps12
    go_wp2
    go_loopw [25] (fun i wr => ∃ k : Nat, k ≤ n ∧ i = .int .i64 k ∧ ∃ v ib, NewI w wr _ k v ib) (fun i _ => n - (intOf i).toNat)
    case atStart => exact ⟨0, Nat.zero_le _, rfl, _, _, HS.out⟩
    case round =>
      obtain ⟨k, hk, rfl, v, ib, hI⟩ := hrel
      by_cases hlt : k < n
      · obtain ⟨c0, c1, c2, c3, c4, cf⟩ := blk5 hI.hG
        obtain ⟨ao, cv, rfl⟩ : ∃ a c, v = .slice a k c := by
          rcases hI.own.2 with ⟨e, e0⟩ | ⟨g, cap, cur, e, _⟩
          · exact ⟨none, 0, by rw [e, e0]⟩
          · exact ⟨_, _, e⟩
        have HI := Lib.hid hI
        have hsz := hI.below.size
        have hGl := heap_lt hI.hG
        clear hI
        go_wp2_with (at_builtin; refine wpList_append_own _ rfl (.tmp 31) (.tmp 34) 84 rfl w.heap.size 90 i0 _ 1 8 Try.underlying84 hi0 hz0 hz1 hz2 rfl (by decide) _ k _ rfl ((HI.out.own.alloc _).alloc _) ⟨wr.heap.size + 1, 0, none⟩ 1 1 [.pointer (some ⟨wr.heap.size, 0, none⟩)] rfl rfl ?_ (fun x hx => by simp at hx; subst hx; rfl) (by unfold maxLen; omega) (by omega) (by simp; omega) ?_)
        · intro j u hj
          cases j with
          | zero =>
            injection hj with hj
            subst hj
            have := World.alloc_heap_new (wr.alloc (Obj.cells #[Value.int IntKind.i64 0, Value.bool false, Value.slice none 0 0, Value.bool false, Value.bool false] 92)) (Obj.cells #[Value.pointer (some { block := wr.heap.size, off := 0 })] 90)
            rw [World.size_alloc] at this
            exact (blk1 this).1
          | succ j => simp at hj
        intro v' w3 hown' hgrow3 hnil3
        have hstep := HI.out.step hgrow3 hown'
        have HST := Lib.hid hstep
        have hG3 := HI.out.keepG hgrow3
        obtain ⟨d0, d1, d2, d3, d4, df⟩ := blk5 hG3
        have hl3 := heap_lt hG3
        obtain ⟨ao', cv', rfl⟩ : ∃ a c, v' = .slice a (k + 1) c := by
          rcases hown'.2 with ⟨_, e0⟩ | ⟨g, cap, cur, e, _⟩
          · omega
          · exact ⟨_, _, e⟩
        clear hstep hown' hgrow3 hG3
        go_wp2_with fail
        go_roundw
        case rel => exact ⟨k + 1, by omega, by go_num, _, _, HST.out⟩
        case measure => simp [intOf]; omega
      · have hkn : k = n := by omega
        subst hkn
        go_wp2_with fail
        exact bodyPost_ret (v := .tuple #[.pointer (some ⟨w.heap.size + 1, 0, none⟩), .int .i64 0]) (by kernel_rfl) rfl ⟨rfl, v, ib, hI⟩
end walks
end Go.Proofs.Ytdnkfgnjeibjeaa

namespace Go.Proofs.Ytdnkfgnjeibjeaa
open Go.RowKit Go.Shelf

/-- A mark. -/
def mk (k : Int) : Elem := { k := 2, n := k, t := 0, row := [], c := 0 }

section walks
set_option maxHeartbeats 1000000
set_option maxRecDepth 100000

theorem f38_any (w : World) (k : Int) : Calls Try.prog 38 #[.int .i64 k] w fun e w' => e = .returned (ev (bar k).1 (.slice none 0 0)) ∧ Below w.heap.size w w' := by
  go_enter Try.func38, Try.ntmps38
  go_wp2
  refine bodyPost_ret (v := ev (bar k).1 (.slice none 0 0)) (by simp [results, Try.results38, go_sem, bar]) rfl ⟨rfl, ?_⟩
  exact (Below.refl _ _).alloc (Nat.le_refl _) _

theorem f39_any (w : World) (k : Int) : Calls Try.prog 39 #[.int .i64 k] w fun e w' => e = .returned (ev (mk k) (.slice none 0 0)) ∧ Below w.heap.size w w' := by
  go_enter Try.func39, Try.ntmps39
  go_wp2
  refine bodyPost_ret (v := ev (mk k) (.slice none 0 0)) (by simp [results, Try.results39, go_sem, mk]) rfl ⟨rfl, ?_⟩
  exact (Below.refl _ _).alloc (Nat.le_refl _) _

theorem f12_no (w : World) (n : Int) (al : Bool) (h : n < 1 ∨ 200 < n) :
    Calls Try.prog 12 #[.int .i64 n, .bool al] w fun e w' => e = .returned (.tuple #[.pointer none, .int .i64 7]) ∧ w' = w := by
  by_cases h1 : n < 1
  · go_enter Try.func12, Try.ntmps12
    go_wp2
    exact bodyPost_ret (v := .tuple #[.pointer none, .int .i64 7]) (by kernel_rfl) rfl ⟨rfl, rfl⟩
  · have h2 : 200 < n := by omega
    have h3 : n > 200 := h2
    go_enter Try.func12, Try.ntmps12
    go_wp2
    exact bodyPost_ret (v := .tuple #[.pointer none, .int .i64 7]) (by kernel_rfl) rfl ⟨rfl, rfl⟩
end walks

/-! The gate of the chapter's example. -/
def G1 : Gm := (Gm.new 2 true).upd 0 { Inp.zero with last := 1 }
def G2 : Gm := Gm.upd { G1 with under := 1 } 0 (G1.inp 0).send
def G3 (r : Value) : Gm := G2.upd 0 { G2.inp 0 with queue := (G2.inp 0).queue ++ [(mk 5, r)] }
def G4 (r : Value) : Gm := (G3 r).upd 1 { (G3 r).inp 1 with last := 1 }
def G5 (r : Value) : Gm := (G4 r).upd 1 ((G4 r).inp 1).send
def G6 (r : Value) : Gm := (G5 r).ends.drainTo ((G5 r).ends.list 2)

theorem look1 (D : Nat → Prop) (r : Value) : LookTo D 0 ((bar 1).1, r) G1 G2 [] :=
  f44_first D 0 _ G1 G2 [] (by decide) rfl rfl (by show (0 : Int) < 1; decide) rfl (f53_none D 0 G2 (.inr (by decide))) (by decide)

theorem look3 (D : Nat → Prop) (r r' : Value) : LookTo D 1 ((bar 1).1, r') (G4 r) (G6 r) [(1, bar 1), (0, (mk 5, r))] :=
  f44_same D 1 _ (G4 r) (G6 r) _ (by show 1 < 2; decide) rfl (by show (0 : Int) < 1; decide) rfl (by show (0 : Int) < 1; decide)
    (f53_whole D 1 (G5 r) (G6 r) [(0, (mk 5, r))] rfl (by show (1 : Int) ≠ 0; decide) rfl (f55_plain D (G5 r).ends (by show 0 + 1 + 0 ≤ 1000000; decide) (by show (-1 : Int) < 0; decide)) (by show 1 ≤ 1000000; decide)) (by show 2 ≤ 1000000; decide)

/-- A gate that was made since w. -/
def AwS (w W : World) (m : Gm) : Prop := ∃ D gs, (∀ b, D b → b < W.heap.size) ∧ GateAt W D gs m ∧ gs.G = w.heap.size + 1 ∧ (∀ b, gs.own m.n b → w.heap.size ≤ b) ∧ Below w.heap.size w W

theorem AwS.next {w W W' : World} {m : Gm} (h : AwS w W m) (hb : Below W.heap.size W W') : AwS w W' m := by
  obtain ⟨D, gs, hD, hg, hG, ho, hbw⟩ := h
  exact ⟨D, gs, fun b hb' => Nat.lt_of_lt_of_le (hD b hb') hb.size, hg.below hb, hG, ho, hbw.trans (hb.mono hbw.size)⟩

theorem Arr.aws {w W w' : World} {D : Nat → Prop} {gs : GS} {m : Gm} {m' : Value → Gm} {outs : Value → List OV} {err : Int} {e : Ending} (h : Arr W D gs m.n m' outs err e w') (hG : gs.G = w.heap.size + 1) (ho : ∀ b, gs.own m.n b → w.heap.size ≤ b) (hbw : Below w.heap.size w W) :
    ∃ v r blk, e = .returned (.tuple #[v, .int .i64 err]) ∧ AwS w w' (m' r) ∧ SlOwn w' 44 6 v (outs r).length ((outs r).flatMap ocl) blk := by
  obtain ⟨D', r, gs', v, blk, hD1, hD2, hD3, he, hn, hs, hb, hg, hG', ho', hr, hon⟩ := h
  refine ⟨v, r, blk, he, ⟨D', gs', hD3, hg, hG'.trans hG, fun b hb => ?_, hbw.trans (hon.below hbw.size ho)⟩, hs⟩
  rw [hn] at hb
  rcases ho' b hb with h | h
  · exact ho b h
  · exact Nat.le_trans hbw.size h

theorem arr1 (w W : World) (h : AwS w W (Gm.new 2 true)) : Calls Try.prog 13 #[.pointer (some ⟨w.heap.size + 1, 0, none⟩), .int .i64 0, ev (bar 1).1 (.slice none 0 0)] W fun e w' =>
    ∃ a c, e = .returned (.tuple #[.slice a 0 c, .int .i64 0]) ∧ AwS w w' G2 := by
  obtain ⟨D, gs, hD, hg, hG, ho, hbw⟩ := h
  have hc := f13_bar W D (fun _ => False) gs (Gm.new 2 true) 0 (bar 1).1 (.slice none 0 0) (fun _ => G2) (fun _ => []) hg hD (RowAt.nil _ _) (by decide) (by decide) (by decide) rfl rfl (by show (0 : Int) < 1; decide) (fun b hb => hb.elim) rfl (fun D r => look1 D r)
  rw [hG] at hc
  refine hc.mono ?_
  rintro e w' hr
  obtain ⟨v, r, blk, rfl, hS, hs⟩ := hr.aws (w := w) (m := Gm.new 2 true) hG ho hbw
  obtain ⟨a, c, rfl⟩ := hs.form
  exact ⟨a, c, rfl, hS⟩

theorem arr2 (w W : World) (h : AwS w W G2) : Calls Try.prog 13 #[.pointer (some ⟨w.heap.size + 1, 0, none⟩), .int .i64 0, ev (mk 5) (.slice none 0 0)] W fun e w' =>
    ∃ a c r, e = .returned (.tuple #[.slice a 0 c, .int .i64 0]) ∧ AwS w w' (G3 r) := by
  obtain ⟨D, gs, hD, hg, hG, ho, hbw⟩ := h
  have hc := f13_wait W D (fun _ => False) gs G2 0 (mk 5) (.slice none 0 0) hg hD (RowAt.nil _ _) (by decide) (by decide) (by show 0 < 2; decide) rfl rfl rfl (by show 0 + 0 + 0 ≤ 1000000; decide) (by show 0 + 0 + 0 ≠ 4000; decide)
  rw [hG] at hc
  refine hc.mono ?_
  rintro e w' hr
  obtain ⟨v, r, blk, rfl, hS, hs⟩ := hr.aws (w := w) (m := G2) hG ho hbw
  obtain ⟨a, c, rfl⟩ := hs.form
  exact ⟨a, c, r, rfl, hS⟩

theorem arr3 (w W : World) (r : Value) (h : AwS w W (G3 r)) : Calls Try.prog 13 #[.pointer (some ⟨w.heap.size + 1, 0, none⟩), .int .i64 1, ev (bar 1).1 (.slice none 0 0)] W fun e w' =>
    ∃ a c blk, e = .returned (.tuple #[.slice a 2 c, .int .i64 0]) ∧ AwS w w' (G6 r) ∧ SlOwn w' 44 6 (.slice a 2 c) 2 ([(1, bar 1), (0, (mk 5, r))].flatMap ocl) blk := by
  obtain ⟨D, gs, hD, hg, hG, ho, hbw⟩ := h
  have hc := f13_bar W D (fun _ => False) gs (G3 r) 1 (bar 1).1 (.slice none 0 0) (fun _ => G6 r) (fun _ => [(1, bar 1), (0, (mk 5, r))]) hg hD (RowAt.nil _ _) (by decide) (by decide) (by show 1 < 2; decide) rfl rfl (by show (0 : Int) < 1; decide) (fun b hb => hb.elim) rfl (fun D r' => look3 D r r')
  rw [hG] at hc
  refine hc.mono ?_
  rintro e w' hr
  obtain ⟨v, r', blk, rfl, hS, hs⟩ := hr.aws (w := w) (m := G3 r) hG ho hbw
  obtain ⟨a, c, rfl⟩ := hs.form
  exact ⟨a, c, blk, rfl, hS, hs⟩

section walks
set_option maxHeartbeats 1000000
set_option maxRecDepth 100000

theorem f10_any (w : World) : Calls Try.prog 10 #[] w fun e w' => e = .returned (.bool true) ∧ Below w.heap.size w w' := by
  have h12 : Calls Try.prog 12 #[.int .i64 2, .bool true] w fun e w' => e = .returned (.tuple #[.pointer (some ⟨w.heap.size + 1, 0, none⟩), .int .i64 0]) ∧ ∃ v ib, NewI w w' true 2 v ib := f12_ok w 2 true (by omega) (by omega)
  have H12 := Lib.hid h12
  clear h12
  go_enter Try.func10, Try.ntmps10
  go_wp2_with (first
    | (go_at_call 12; refine H12.out.mono ?_; rintro e w1 ⟨rfl, v, ib, hN⟩
       have hs1 : AwS w w1 (Gm.new 2 true) := by
         obtain ⟨gs, hG, hg, ho⟩ := hN.gate (by omega) (by omega) (fun _ => False) (fun b hb => hb.elim)
         exact ⟨fun _ => False, gs, (fun b hb => hb.elim), hg, hG, ho, hN.below⟩
       have HA := Lib.hid hs1
       clear hN hs1)
    | (go_at_call 38; refine (f38_any _ _).mono ?_; rintro e w2 ⟨rfl, hb2⟩; have HB := Lib.hid (HA.out.next hb2); clear HA hb2)
    | (go_at_call 13; refine (arr1 _ _ HB.out).mono ?_; rintro e w3 ⟨a1, c1, rfl, hs3⟩; have HC := Lib.hid hs3; clear hs3 HB)
    | (go_at_call 39; refine (f39_any _ _).mono ?_; rintro e w2 ⟨rfl, hb2⟩; have HD := Lib.hid (HC.out.next hb2); clear HC hb2)
    | (go_at_call 13; refine (arr2 _ _ HD.out).mono ?_; rintro e w4 ⟨a2, c2, r2, rfl, hs4⟩; have HE := Lib.hid hs4; clear hs4 HD)
    | (go_at_call 38; refine (f38_any _ _).mono ?_; rintro e w2 ⟨rfl, hb2⟩; have HF := Lib.hid (HE.out.next hb2); clear HE hb2)
    | (go_at_call 13; refine (arr3 _ _ _ HF.out).mono ?_; rintro e w5 ⟨a3, c3, bk3, rfl, hs5, ho5⟩; have HG := Lib.hid hs5
       obtain ⟨g, o, rfl⟩ : ∃ g o, a3 = some ⟨g, o, none⟩ := by
         rcases ho5.2 with ⟨hx, _⟩ | ⟨g, o, cap, cur, _, hx, _⟩
         · injection hx with _ hx _; omega
         · injection hx with hx _ _; exact ⟨g, o, hx⟩
       have k2 : w5.cell? ⟨g, o + 2, none⟩ = some (.int .i64 1) := ho5.cell 2 _ rfl
       have k6 : w5.cell? ⟨g, o + 6, none⟩ = some (.int .i64 0) := ho5.cell 6 _ rfl
       have k8 : w5.cell? ⟨g, o + 8, none⟩ = some (.int .i64 5) := ho5.cell 8 _ rfl
       clear hs5 HF ho5))
  go_ret
  obtain ⟨_, _, _, _, _, _, hbw⟩ := HG.out
  exact ⟨rfl, hbw⟩
end walks
end Go.Proofs.Ytdnkfgnjeibjeaa

import Derived.Test.YtdnkfgnjeibjeaaG13
namespace Go.Proofs.Ytdnkfgnjeibjeaa
open Go.RowKit Go.Shelf

/-- What 'Arrive' gives. -/
def Arr (w : World) (D : Nat → Prop) (gs : GS) (n : Nat) (m' : Value → Gm) (outs : Value → List OV) (err : Int) (e : Ending) (w' : World) : Prop :=
  ∃ D' r gs' v blk, (∀ b, D b → D' b) ∧ (∀ b, D' b → D b ∨ w.heap.size ≤ b) ∧ (∀ b, D' b → b < w'.heap.size) ∧ e = .returned (.tuple #[v, .int .i64 err]) ∧ (m' r).n = n ∧
    SlOwn w' 44 6 v (outs r).length ((outs r).flatMap ocl) blk ∧ (∀ g, blk = some g → w.heap.size ≤ g) ∧ GateAt w' D' gs' (m' r) ∧ gs'.G = gs.G ∧ (∀ b, gs'.own n b → gs.own n b ∨ w.heap.size ≤ b) ∧
    (∀ o ∈ outs r, RowAt w' D' o.2.2 o.2.1.row) ∧ Only (gs.own n) w w'

theorem GateAt.widen {w : World} {D D' : Nat → Prop} {gs : GS} {m : Gm} (h : GateAt w D gs m) (hd : ∀ b, D b → D' b) (hn : ∀ b, D' b → ¬ gs.own m.n b) : GateAt w D' gs m :=
  ⟨h.pos, h.le, h.hG, h.harr, h.hib, h.inj, h.hq, h.qinj, fun i hi p hp => (h.hrow i hi p hp).mono hd, hn, h.hmap⟩

theorem Gives.from {w W w' : World} {D : Nat → Prop} {gs : GS} {n : Nat} {m' : Gm} {outs : List OV} {e : Ending} (h : Gives W D gs n m' outs e w') (ho : Only (gs.own n) w W) : Gives w D gs n m' outs e w' := by
  obtain ⟨gs', v, blk, he, hn, hs, hb, hg, hl, hr, hon⟩ := h
  exact ⟨gs', v, blk, he, hn, hs, fun g hg' => Nat.le_trans ho.size (hb g hg'), hg, hl, hr, ho.trans hon (fun _ _ h => h)⟩

/-- The gate and the element's box, while 'Arrive' asks. -/
structure AF (w W : World) (D : Nat → Prop) (gs : GS) (m : Gm) (x : Elem) (r : Value) : Prop where
  below : Below w.heap.size w W
  gate : GateAt W D gs m
  box : W.heap[w.heap.size]? = some (.cells #[.int .i64 x.k, .int .i64 x.n, .int .i64 x.t, r, .int .i64 x.c] 34 (0, 0))

theorem AF.next {w W W' : World} {D : Nat → Prop} {gs : GS} {m : Gm} {x : Elem} {r : Value} (h : AF w W D gs m x r) (hb : Below W.heap.size W W') : AF w W' D gs m x r :=
  ⟨h.below.trans (hb.mono h.below.size), h.gate.below hb, (hb.block _ (heap_lt h.box)).trans h.box⟩

theorem AF.look {w W4 W5 : World} {D : Nat → Prop} {gs : GS} {m : Gm} {x : Elem} {r r5 : Value} {i : Nat} {m' : Value → Gm} {outs : Value → List OV} (h4 : AF w W4 D gs m x r) (h5 : AF w W5 D gs m x r) (hg : GateAt w D gs m) (hD : ∀ b, D b → b < w.heap.size)
    (hr5 : RowAt W5 (fun b => W4.heap.size ≤ b) r5 x.row) (hlook : ∀ D r, LookTo D i (x, r) m (m' r) (outs r)) :
    Calls Try.prog 44 #[.pointer (some ⟨gs.G, 0, none⟩), .int .i64 i, ev x r5] W5 fun e w' => ∃ v, e = .returned v ∧ Arr w D gs m.n m' outs 0 (.returned (.tuple #[v, .int .i64 0])) w' := by
  have hs4 := h4.below.size
  have hs5 := h5.below.size
  have hD' : ∀ b, (D b ∨ (w.heap.size ≤ b ∧ b < W5.heap.size)) → b < W5.heap.size := fun b hb => by
    rcases hb with hb | hb
    · have := hD b hb; omega
    · exact hb.2
  refine (hlook (fun b => D b ∨ (w.heap.size ≤ b ∧ b < W5.heap.size)) r5 gs W5 (h5.gate.widen (fun b hb => .inl hb) (fun b hb ho => ?_)) hD' (hr5.imp fun b hb hle => .inr ⟨by omega, hb⟩)).mono ?_
  · rcases hb with hb | hb
    · exact hg.hD b hb ho
    · have := hg.lt ho; omega
  · rintro e w' h
    have h' := h.from (Only.of_below h5.below)
    obtain ⟨gs', v, blk, he, hn, hs, hb, hgg, hl, hrr, hon⟩ := h'
    refine ⟨v, he, _, r5, gs', v, blk, fun b hb => .inl hb, fun b hb => hb.imp id fun h => h.1, fun b hb => ?_, rfl, hn, hs, hb, hgg, hl.G, fun b hb => .inl ((like_own hl _ _).1 hb), hrr, hon⟩
    obtain ⟨_, _, _, _, _, _, _, _, _, _, hon2⟩ := h
    exact Nat.lt_of_lt_of_le (hD' b hb) hon2.size

section walks
set_option maxHeartbeats 1000000
set_option maxRecDepth 100000

theorem f13_pass (w : World) (D D0 : Nat → Prop) (gs : GS) (m : Gm) (i : Nat) (x : Elem) (r : Value) (m' : Value → Gm) (outs : Value → List OV) (h : GateAt w D gs m) (hD : ∀ b, D b → b < w.heap.size) (hr : RowAt w D0 r x.row) (hsm : x.row.length ≤ 1000000)
    (hv : validElem x = true) (hi : i < m.n) (hcl : (m.inp i).closed = false) (hk : (x.k == 3) = false) (hbl : m.blocked i = false) (hlook : ∀ D r, LookTo D i (x, r) m (m' r) (outs r)) :
    Calls Try.prog 13 #[.pointer (some ⟨gs.G, 0, none⟩), .int .i64 i, ev x r] w (Arr w D gs m.n m' outs 0) := by
  have hV := fun (W : World) (hb : Below w.heap.size w W) => f40_any x r W D0 (hr.below hb)
  have hO := fun (W : World) (hb : Below w.heap.size w W) => f43_any W x r D0 (hr.below hb) hsm
  obtain ⟨ra, rc, rfl, _, _⟩ := hr
  rw [hv] at hV
  have HV := Lib.hid hV
  have HO := Lib.hid hO
  have H := Lib.hid h
  have HD := Lib.hid hD
  have HL := Lib.hid hlook
  clear hV hO h hD hlook hsm
  have j1 : (0 : Int) ≤ (i : Int) := by omega
  have j2 : (i : Int) < (m.n : Int) := by omega
  have hk' : (x.k != 3) = true := by simp [bne, hk]
  have ha0 : AF w (w.alloc (Obj.cells #[Value.int IntKind.i64 x.k, Value.int IntKind.i64 x.n, Value.int IntKind.i64 x.t, Value.slice ra x.row.length rc, Value.int IntKind.i64 x.c] 34)) D gs m x (.slice ra x.row.length rc) :=
    ⟨(Below.refl _ _).alloc (Nat.le_refl _) _, H.out.below ((Below.refl _ _).alloc (Nat.le_refl _) _), World.alloc_heap_new _ _⟩
  have HA := Lib.hid ha0
  clear ha0
  have hpn : ∀ W : World, (binOp .neq 93 (.pointer none) (.pointer none)).run Try.prog W = .ok (.bool false) W := fun W => by kernel_rfl
  go_enter Try.func13, Try.ntmps13
  go_wp2_with (
    go_at_call 40; refine (HV.out _ HA.out.below).mono ?_; rintro e w1 ⟨rfl, hb1⟩
    have HA1 := Lib.hid (HA.out.next hb1)
    clear hb1
    obtain ⟨g0, g1, g2, g3, g4, gf⟩ := HA1.out.gate.cells
    obtain ⟨ia, x0, x1, x2, x3, x4, xf⟩ := HA1.out.gate.icells hi
    obtain ⟨b0, b1, b2, b3, b4, bf⟩ := blk5 HA1.out.box)
  have q0 := fun d os => cell_regrown b0 d os
  refine wp_region_quiet_below (by kernel_rfl) (by kernel_rfl) ?_
  repeat (first | go_big_quiet_skip | quiet_step (fail))
  refine wpQuiet_nil ?_
  intro w2 hw'
  have HA2 := Lib.hid (HA1.out.next (below_of_class hw'))
  clear hw' q0 b0 b1 b2 b3 b4 bf g0 g1 g2 g3 g4 gf ia x0 x1 x2 x3 x4 xf
  obtain ⟨g0, g1, g2, g3, g4, gf⟩ := HA2.out.gate.cells
  obtain ⟨ia, x0, x1, x2, x3, x4, xf⟩ := HA2.out.gate.icells hi
  obtain ⟨b0, b1, b2, b3, b4, bf⟩ := blk5 HA2.out.box
  go_wp2_with fail
  have q2 := fun d os => cell_regrown g2 d os
  have q4 := fun d os => cell_regrown g4 d os
  have hlk := fun d os => lookup_empty (Sort.grow (redrawn w2 d) os) gs.map gs.clock m.under (((below_regrown w2 d os).block _ (heap_lt HA2.out.gate.hmap)).trans HA2.out.gate.hmap)
  refine wp_region_quiet_below (by kernel_rfl) (by kernel_rfl) ?_
  repeat (first | go_big_quiet_skip | quiet_step (fail))
  refine wpQuiet_nil ?_
  intro w3 hw'
  have HA3 := Lib.hid (HA2.out.next (below_of_class hw'))
  clear hw' q2 q4 hlk b0 b1 b2 b3 b4 bf g0 g1 g2 g3 g4 gf ia x0 x1 x2 x3 x4 xf
  obtain ⟨b0, b1, b2, b3, b4, bf⟩ := blk5 HA3.out.box
  have hc := fun W (h : AF w W D gs m x (.slice ra x.row.length rc)) => f41_any W gs m i h.gate hi
  rw [hbl] at hc
  have HC := Lib.hid hc
  clear hc
  go_wp2_with (first
    | (go_at_call 41; refine (HC.out _ HA3.out).mono ?_; rintro e w4 ⟨rfl, hb4⟩
       have HA4 := Lib.hid (HA3.out.next hb4)
       clear hb4 HA3 b0 b1 b2 b3 b4 bf
       have HA3 := HA4
       clear HA4
       obtain ⟨b0, b1, b2, b3, b4, bf⟩ := blk5 HA3.out.box)
    | (go_at_call 43; refine (HO.out _ HA3.out.below).mono ?_; rintro e w5 ⟨r5, rfl, hr5, hb5⟩; have HA5 := Lib.hid (HA3.out.next hb5); have HR5 := Lib.hid hr5)
    | (go_at_call 44; refine (HA3.out.look HA5.out H.out HD.out HR5.out HL.out).mono ?_; rintro e w6 ⟨v6, rfl, hfin⟩))
  refine bodyPost_ret (v := .tuple #[v6, .int .i64 0]) (by kernel_rfl) rfl hfin
end walks
end Go.Proofs.Ytdnkfgnjeibjeaa

import Derived.Test.YtdnkfgnjeibjeaaME
import Derived.Test.YtdnkfgnjeibjeaaMA
import Derived.StillTailTactics
import Derived.Deep.RegionLaw
import Derived.Deep.AppendLies

namespace Go.Proofs.Ytdnkfgnjeibjeaa
open Go.RowKit Go.Shelf

section walks
set_option maxHeartbeats 1000000
set_option maxRecDepth 100000

theorem f13_nil (w : World) (i : Int) (x : Elem) (r : Value) : Calls Try.prog 13 #[.pointer none, .int .i64 i, ev x r] w fun e w' => e = .returned (.tuple #[.slice none 0 0, .int .i64 1]) ∧ Below w.heap.size w w' := by
  go_enter Try.func13, Try.ntmps13
  go_wp2
  exact bodyPost_ret (v := .tuple #[.slice none 0 0, .int .i64 1]) (by kernel_rfl) rfl ⟨rfl, (Below.refl _ _).alloc (Nat.le_refl _) _⟩

theorem f29_nil (w : World) (i : Int) : Calls Try.prog 29 #[.pointer none, .int .i64 i] w fun e w' => e = .returned (.tuple #[.slice none 0 0, .int .i64 1]) ∧ Below w.heap.size w w' := by
  go_enter Try.func29, Try.ntmps29
  go_wp2
  exact bodyPost_ret (v := .tuple #[.slice none 0 0, .int .i64 1]) (by kernel_rfl) rfl ⟨rfl, Below.refl _ _⟩

theorem f18_nil (w : World) (i : Int) : Calls Try.prog 18 #[.pointer none, .int .i64 i] w fun e w' => e = .returned (.tuple #[.slice none 0 0, .bool false, .int .i64 1]) ∧ Below w.heap.size w w' := by
  go_enter Try.func18, Try.ntmps18
  go_wp2
  exact bodyPost_ret (v := .tuple #[.slice none 0 0, .bool false, .int .i64 1]) (by kernel_rfl) rfl ⟨rfl, Below.refl _ _⟩

theorem f30_nil (w : World) : Calls Try.prog 30 #[.pointer none] w fun e w' => e = .returned (.tuple #[.slice none 0 0, .int .i64 1]) ∧ Below w.heap.size w w' := by
  go_enter Try.func30, Try.ntmps30
  go_wp2
  exact bodyPost_ret (v := .tuple #[.slice none 0 0, .int .i64 1]) (by kernel_rfl) rfl ⟨rfl, Below.refl _ _⟩

theorem f24_nil (w : World) : Calls Try.prog 24 #[.pointer none] w fun e w' => e = .returned (.slice none 0 0) ∧ w' = w := by
  go_enter Try.func24, Try.ntmps24
  go_wp2
  go_ret
  exact ⟨rfl, rfl⟩

theorem f31_nil (w : World) : Calls Try.prog 31 #[.pointer none] w fun e w' => e = .returned (.slice none 0 0) ∧ w' = w := by
  go_enter Try.func31, Try.ntmps31
  go_wp2
  go_ret
  exact ⟨rfl, rfl⟩

theorem f32_nil (w : World) (i : Int) : Calls Try.prog 32 #[.pointer none, .int .i64 i] w fun e w' => e = .returned (.int .i64 0) ∧ w' = w := by
  go_enter Try.func32, Try.ntmps32
  go_wp2
  go_ret
  exact ⟨rfl, rfl⟩

theorem f23_nil (w : World) : Calls Try.prog 23 #[.pointer none] w fun e w' => e = .returned (.int .i64 0) ∧ w' = w := by
  go_enter Try.func23, Try.ntmps23
  go_wp2
  go_ret
  exact ⟨rfl, rfl⟩

theorem f33_nil (w : World) : Calls Try.prog 33 #[.pointer none] w fun e w' => e = .returned (.bool false) ∧ w' = w := by
  go_enter Try.func33, Try.ntmps33
  go_wp2
  go_ret
  exact ⟨rfl, rfl⟩

/-- The argument's box. -/
structure BF (w W : World) (cs : Array Value) (t : TypeId) : Prop where
  below : Below w.heap.size w W
  box : W.heap[w.heap.size]? = some (.cells cs t (0, 0))

theorem BF.next {w W W' : World} {cs : Array Value} {t : TypeId} (h : BF w W cs t) (hb : Below W.heap.size W W') : BF w W' cs t :=
  ⟨h.below.trans (hb.mono h.below.size), (hb.block _ (heap_lt h.box)).trans h.box⟩

theorem blk7 {W : World} {b : Nat} {v0 v1 v2 v3 v4 v5 v6 : Value} {t : TypeId} (h : W.heap[b]? = some (.cells #[v0, v1, v2, v3, v4, v5, v6] t (0, 0))) :
    W.cell? ⟨b, 0, none⟩ = some v0 ∧ W.cell? ⟨b, 1, none⟩ = some v1 ∧ W.cell? ⟨b, 2, none⟩ = some v2 ∧ W.cell? ⟨b, 3, none⟩ = some v3 ∧ W.cell? ⟨b, 4, none⟩ = some v4 ∧ W.cell? ⟨b, 5, none⟩ = some v5 ∧ W.cell? ⟨b, 6, none⟩ = some v6 := by
  refine ⟨?_, ?_, ?_, ?_, ?_, ?_, ?_⟩ <;> rw [cell_of_row W b _ _ t (0, 0) h] <;> rfl

theorem f7_any (w : World) (kd i : Int) (x : Elem) (r : Value) (D : Nat → Prop) (hr : RowAt w D r x.row) :
    Calls Try.prog 7 #[.agg #[.int .u8 kd, .int .i64 i, .int .i64 x.k, .int .i64 x.n, .int .i64 x.t, r, .int .i64 x.c]] w fun e w' => e = .returned (.bool true) ∧ Below w.heap.size w w' := by
  have hg := fun (W : World) (h : Below w.heap.size w W) => f28_any x r W D (hr.below h)
  have HR := Lib.hid hg
  obtain ⟨ra, rc, rfl, _, _⟩ := hr
  have hb0 : BF w (w.alloc (Obj.cells #[.int .u8 kd, .int .i64 i, .int .i64 x.k, .int .i64 x.n, .int .i64 x.t, .slice ra x.row.length rc, .int .i64 x.c] 36)) #[.int .u8 kd, .int .i64 i, .int .i64 x.k, .int .i64 x.n, .int .i64 x.t, .slice ra x.row.length rc, .int .i64 x.c] 36 :=
    ⟨(Below.refl _ _).alloc (Nat.le_refl _) _, World.alloc_heap_new _ _⟩
  have HB := Lib.hid hb0
  clear hb0 hg
  have h24 := fun (W : World) d os => Calls.regrown_of ((f24_nil (Sort.grow (redrawn W d) os)).mono fun e w' h => ⟨h.1, by rw [h.2]; exact Below.refl _ _⟩)
  have h31 := fun (W : World) d os => Calls.regrown_of ((f31_nil (Sort.grow (redrawn W d) os)).mono fun e w' h => ⟨h.1, by rw [h.2]; exact Below.refl _ _⟩)
  have h32 := fun (W : World) d os => Calls.regrown_of ((f32_nil (Sort.grow (redrawn W d) os) i).mono fun e w' h => ⟨h.1, by rw [h.2]; exact Below.refl _ _⟩)
  have h23 := fun (W : World) d os => Calls.regrown_of ((f23_nil (Sort.grow (redrawn W d) os)).mono fun e w' h => ⟨h.1, by rw [h.2]; exact Below.refl _ _⟩)
  have h33 := fun (W : World) d os => Calls.regrown_of ((f33_nil (Sort.grow (redrawn W d) os)).mono fun e w' h => ⟨h.1, by rw [h.2]; exact Below.refl _ _⟩)
  have H24 := Lib.hid h24
  have H31 := Lib.hid h31
  have H32 := Lib.hid h32
  have H23 := Lib.hid h23
  have H33 := Lib.hid h33
  clear h24 h31 h32 h23 h33
  go_enter Try.func7, Try.ntmps7
  cases hgr : greatE x
  · rw [hgr] at HR
    go_wp2_with (first
      | (go_at_call 10; refine (f10_any _).mono ?_; rintro e w1 ⟨rfl, hb1⟩; have HB1 := Lib.hid (HB.out.next hb1); clear hb1; obtain ⟨b0, b1, b2, b3, b4, b5, b6⟩ := blk7 HB1.out.box)
      | (go_at_call 28; refine (HR.out _ HB1.out.below).mono ?_; rintro e w2 ⟨rfl, hb2⟩; have HB2 := Lib.hid (HB1.out.next hb2); clear hb2; obtain ⟨c0, c1, c2, c3, c4, c5, c6⟩ := blk7 HB2.out.box)
      | (go_at_call 13; refine (f13_nil _ _ x _).mono ?_; rintro e w3 ⟨rfl, hb3⟩; have HB3 := Lib.hid (HB2.out.next hb3); clear hb3; obtain ⟨_, d1, _, _, _, _, _⟩ := blk7 HB3.out.box)
      | (go_at_call 29; refine (f29_nil _ _).mono ?_; rintro e w4 ⟨rfl, hb4⟩; have HB4 := Lib.hid (HB3.out.next hb4); clear hb4; obtain ⟨_, e1, _, _, _, _, _⟩ := blk7 HB4.out.box)
      | (go_at_call 18; refine (f18_nil _ _).mono ?_; rintro e w5 ⟨rfl, hb5⟩; have HB5 := Lib.hid (HB4.out.next hb5); clear hb5)
      | (go_at_call 30; refine (f30_nil _).mono ?_; rintro e w6 ⟨rfl, hb6⟩; have HB6 := Lib.hid (HB5.out.next hb6); clear hb6; obtain ⟨_, g1, _, _, _, _, _⟩ := blk7 HB6.out.box))
    have q1 := fun d os => cell_regrown g1 d os
    refine wp_region_quiet_below (by kernel_rfl) (by kernel_rfl) ?_
    repeat (first | go_big_quiet_skip | quiet_step (first | with_reducible exact H24.out _ _ _ | with_reducible exact H31.out _ _ _ | with_reducible exact H32.out _ _ _ | with_reducible exact H23.out _ _ _ | with_reducible exact H33.out _ _ _))
    refine wpQuiet_nil ?_
    intro wq hw'
    have hq := HB6.out.next (below_of_class hw')
    clear hw' q1
    have HQ := Lib.hid hq.below
    clear hq
    go_wp2_with fail
    go_ret
    exact ⟨rfl, HQ.out⟩
  · rw [hgr] at HR
    go_wp2_with (first
      | (go_at_call 10; refine (f10_any _).mono ?_; rintro e w1 ⟨rfl, hb1⟩; have HB1 := Lib.hid (HB.out.next hb1); clear hb1; obtain ⟨b0, b1, b2, b3, b4, b5, b6⟩ := blk7 HB1.out.box)
      | (go_at_call 28; refine (HR.out _ HB1.out.below).mono ?_; rintro e w2 ⟨rfl, hb2⟩; have HB2 := Lib.hid (HB1.out.next hb2); clear hb2))
    go_ret
    exact ⟨rfl, HB2.out.below⟩
end walks
end Go.Proofs.Ytdnkfgnjeibjeaa

namespace Go.Proofs.Ytdnkfgnjeibjeaa
open Go.RowKit Go.Shelf

section walks
set_option maxHeartbeats 1000000
set_option maxRecDepth 100000

theorem f13_inv (w : World) (D0 : Nat → Prop) (G : Addr) (i : Int) (x : Elem) (r : Value) (hr : RowAt w D0 r x.row) (hv : validElem x = false) :
    Calls Try.prog 13 #[.pointer (some G), .int .i64 i, ev x r] w fun e w' => e = .returned (.tuple #[.slice none 0 0, .int .i64 1]) ∧ Below w.heap.size w w' := by
  have hV := fun (W : World) (hb : Below w.heap.size w W) => f40_any x r W D0 (hr.below hb)
  obtain ⟨ra, rc, rfl, _, _⟩ := hr
  rw [hv] at hV
  have HV := Lib.hid hV
  have hb0 : Below w.heap.size w (w.alloc (Obj.cells #[Value.int IntKind.i64 x.k, Value.int IntKind.i64 x.n, Value.int IntKind.i64 x.t, Value.slice ra x.row.length rc, Value.int IntKind.i64 x.c] 34)) := (Below.refl _ _).alloc (Nat.le_refl _) _
  have HB := Lib.hid hb0
  clear hV hb0
  go_enter Try.func13, Try.ntmps13
  go_wp2_with (go_at_call 40; refine (HV.out _ HB.out).mono ?_; rintro e w1 ⟨rfl, hb1⟩; have HB1 := Lib.hid (HB.out.trans (hb1.mono HB.out.size)); clear hb1)
  exact bodyPost_ret (v := .tuple #[.slice none 0 0, .int .i64 1]) (by kernel_rfl) rfl ⟨rfl, HB1.out⟩

theorem f13_rng (w : World) {D : Nat → Prop} (D0 : Nat → Prop) (gs : GS) (m : Gm) (h : GateAt w D gs m) (i : Int) (x : Elem) (r : Value) (hr : RowAt w D0 r x.row) (hv : validElem x = true) (hi : i < 0 ∨ (m.n : Int) ≤ i) :
    Calls Try.prog 13 #[.pointer (some ⟨gs.G, 0, none⟩), .int .i64 i, ev x r] w fun e w' => e = .returned (.tuple #[.slice none 0 0, .int .i64 7]) ∧ Below w.heap.size w w' := by
  have hV := fun (W : World) (hb : Below w.heap.size w W) => f40_any x r W D0 (hr.below hb)
  obtain ⟨ra, rc, rfl, _, _⟩ := hr
  rw [hv] at hV
  have HV := Lib.hid hV
  have H := Lib.hid h
  have hb0 : Below w.heap.size w (w.alloc (Obj.cells #[Value.int IntKind.i64 x.k, Value.int IntKind.i64 x.n, Value.int IntKind.i64 x.t, Value.slice ra x.row.length rc, Value.int IntKind.i64 x.c] 34)) := (Below.refl _ _).alloc (Nat.le_refl _) _
  have HB := Lib.hid hb0
  clear hV hb0 h
  rcases Int.lt_or_le i 0 with h0 | h0
  · go_enter Try.func13, Try.ntmps13
    go_wp2_with (go_at_call 40; refine (HV.out _ HB.out).mono ?_; rintro e w1 ⟨rfl, hb1⟩; have HB1 := Lib.hid (HB.out.trans (hb1.mono HB.out.size)); clear hb1; obtain ⟨g0, g1, g2, g3, g4, gf⟩ := (H.out.below HB1.out).cells)
    exact bodyPost_ret (v := .tuple #[.slice none 0 0, .int .i64 7]) (by kernel_rfl) rfl ⟨rfl, HB1.out⟩
  · have h1 : (m.n : Int) ≤ i := by omega
    have h2 : ¬ i < 0 := by omega
    go_enter Try.func13, Try.ntmps13
    go_wp2_with (go_at_call 40; refine (HV.out _ HB.out).mono ?_; rintro e w1 ⟨rfl, hb1⟩; have HB1 := Lib.hid (HB.out.trans (hb1.mono HB.out.size)); clear hb1; obtain ⟨g0, g1, g2, g3, g4, gf⟩ := (H.out.below HB1.out).cells)
    exact bodyPost_ret (v := .tuple #[.slice none 0 0, .int .i64 7]) (by kernel_rfl) rfl ⟨rfl, HB1.out⟩

end walks
end Go.Proofs.Ytdnkfgnjeibjeaa

namespace Go.Proofs.Ytdnkfgnjeibjeaa
open Go.RowKit

/-- An act of the laws. -/
structure ActV where
  kd : Int
  i : Int
  e : Elem

def ActCell (w : World) (D : Nat → Prop) (b o : Nat) (x : ActV) : Prop :=
  w.cell? ⟨b, o, none⟩ = some (.int .u8 x.kd) ∧ w.cell? ⟨b, o + 1, none⟩ = some (.int .i64 x.i) ∧ ElemCell w D b (o + 2) x.e

def ActsAt (w : World) (D : Nat → Prop) (v : Value) (l : List ActV) : Prop :=
  ∃ a cap, v = .slice a l.length cap ∧ l.length ≤ 9223372036854775807 ∧ (l = [] ∨ ∃ b off, a = some ⟨b, off, none⟩ ∧ D b ∧ ∀ i, (h : i < l.length) → ActCell w D b (off + i * 7) l[i])

def manyA (l : List ActV) : Bool := (l.any fun x => greatE x.e) || decide (80 < l.length)

section walks
set_option maxHeartbeats 1000000
set_option maxRecDepth 100000

theorem f11_any (w : World) (v : Value) (l : List ActV) (D : Nat → Prop) (h : ActsAt w D v l) :
    Calls Try.prog 11 #[v] w fun e w' => e = .returned (.bool (manyA l)) ∧ Below w.heap.size w w' := by
  obtain ⟨a, cap, rfl, hl, hx⟩ := h
  have HX := Lib.hid hx
  clear hx
  go_enter Try.func11, Try.ntmps11
  go_wp2
  go_loopw [3] (fun i wr => ∃ k : Nat, k ≤ l.length ∧ i = .int .i64 k ∧ (∀ j (h : j < l.length), j < k → greatE l[j].e = false) ∧ Below w.heap.size w wr) (fun i _ => l.length - (intOf i).toNat)
  case atStart => exact ⟨0, by omega, rfl, by omega, Below.refl _ _⟩
  case round =>
    obtain ⟨k, hk, rfl, hv, hb⟩ := hrel
    by_cases hlt : k < l.length
    · obtain ⟨b, off, rfl, hbD, hc⟩ := HX.out.resolve_left (fun e => by rw [e] at hlt; simp at hlt)
      obtain ⟨h0, h1, r, e0, e1, e2, e3, e4, hr⟩ := hc k hlt
      have hbb : b < w.heap.size := World.block_lt_of_cell? w ⟨b, off + k * 7, none⟩ h0
      have hr' := hr.below hb
      obtain ⟨ra, rc, rfl, _, _⟩ := hr
      rw [← hb.cell (p := ⟨b, _, none⟩) hbb] at e0 e1 e2 e3 e4
      have hG := f28_any l[k].e _ wr D hr'
      have HG := Lib.hid hG
      have HV := Lib.hid hv
      clear hc hr' hG hv h0 h1
      cases hg : greatE l[k].e <;> rw [hg] at HG
      · go_wp2_with (go_at_call 28; refine HG.out.mono ?_; rintro e w' ⟨rfl, hb1⟩)
        go_roundw
        case rel =>
          refine ⟨k + 1, by omega, by go_num, fun j hj hjk => ?_, hb.trans (hb1.mono hb.size)⟩
          by_cases e : j = k
          · subst e; exact hg
          · exact HV.out j hj (by omega)
        case measure => simp [intOf]; omega
      · go_wp2_with (go_at_call 28; refine HG.out.mono ?_; rintro e w' ⟨rfl, hb1⟩)
        go_ret
        refine ⟨ret_bool ?_, hb.trans (hb1.mono hb.size)⟩
        symm
        simp only [manyA, Bool.or_eq_true, List.any_eq_true]
        exact .inl ⟨l[k], List.getElem_mem hlt, hg⟩
    · have hkl : k = l.length := by omega
      subst hkl
      have HV := Lib.hid hv
      clear hv
      go_wp2
      go_ret
      refine ⟨ret_bool ?_, hb⟩
      have h1 : (l.any fun x => greatE x.e) = false := by
        rw [List.any_eq_false]
        intro x hx
        obtain ⟨j, hj, rfl⟩ := List.getElem_of_mem hx
        rw [HV.out j hj hj]
        decide
      simp only [manyA, h1, Bool.false_or, decide_eq_decide]
      omega
end walks
end Go.Proofs.Ytdnkfgnjeibjeaa

namespace Go.Proofs.Ytdnkfgnjeibjeaa
open Go.RowKit Go.Shelf

theorem info57 : (Try.prog.info? 57).map (fun i => (i.zero, i.size, i.bytes)) = some (some (.agg #[.int .i64 0, .int .i64 0, .int .i64 0, .int .i64 0, .slice none 0 0, .int .i64 0]), 6, 64) := by kernel_rfl

theorem step_append_S {P : Program} {w : World} {ops : Array Oper} {o : Oper} {a : Act} {K : Act → World → Prop} {Q : Exit → Act → World → Prop} {E : Prop} (hgd : o.guard = none) (s x : Operand) (t : TypeId)
    (ho : o.op = .call { callee := .builtin .append, args := #[s, x], argTypes := #[t, t] })
    (e : TypeId) (i : TypeInfo) (z : Value) (size bytes : Nat) (ht : P.underlying t = some (.slice e)) (hi : P.info? e = some i) (hz : i.zero = some z)
    (hsize : i.size = size) (hby : i.bytes = bytes) (hzs : z.cells.size = size) (hsz : 0 < size)
    (v : Value) (n : Nat) (xs : List Value) (blk : Option Nat) (hs : a.eval s = v) (hown : SlOwn w e size v n xs blk)
    (xv : Value) (m : Nat) (news : List Value) (hx : a.eval x = xv) (hsrc : Src w size xv m news) (h1 : ∀ u ∈ news, u.oneCell' = true)
    (h63 : n + m ≤ maxLen) (hbytes : (n + m) * bytes ≤ 140737488355328)
    (h : ∀ v' w' blk', SlOwn w' e size v' (n + m) (xs ++ news) blk' → w.grownBy w' blk → (blk' = blk ∨ blk' = some w.heap.size) → K (a.put o.dst v') w') : if Region.wanted o (yielded ops a.tmps) = true then Oper.wp P o a w K Q else E := by
  have hw : Region.wanted o (yielded ops a.tmps) = true := by simp [Region.wanted, hgd]
  rw [if_pos hw]
  exact wp_append_S s x t ho e i z size bytes ht hi hz hsize hby hzs hsz v n xs blk hs hown xv m news hx hsrc h1 h63 hbytes h

section walks
set_option maxHeartbeats 1000000
set_option maxRecDepth 100000

theorem f15_any (w : World) (v : Value) (outs : List OV) (hs : Src w 6 v outs.length (outs.flatMap ocl)) (hok : ∀ o ∈ outs, ∃ a n c, o.2.2 = .slice a n c) (hlen : outs.length ≤ 1000000) (hv : ∃ a c, v = .slice a outs.length c) :
    Calls Try.prog 15 #[v] w fun e w' => ∃ v' blk, e = .returned v' ∧ SlOwn w' 57 6 v' outs.length (outs.flatMap ocl) blk ∧ (∀ g, blk = some g → w.heap.size ≤ g) ∧ Below w.heap.size w w' := by
  obtain ⟨a, c, rfl⟩ := hv
  obtain ⟨i0, hi0, hz0, hz1, hz2⟩ := info_parts info57
  have HS := Lib.hid hs
  have HK := Lib.hid hok
  clear hs hok
  go_enter Try.func15, Try.ntmps15
  go_wp2
  go_loopw [3, 4] (fun s i wr => ∃ k : Nat, k ≤ outs.length ∧ i = .int .i64 k ∧ ∃ blk, SlOwn wr 57 6 s k ((outs.take k).flatMap ocl) blk ∧ (∀ g, blk = some g → w.heap.size ≤ g) ∧ Below w.heap.size w wr) (fun _ i _ => outs.length - (intOf i).toNat)
  case atStart => exact ⟨0, Nat.zero_le _, rfl, none, SlOwn.nil _ _ _, (fun g hg => by cases hg), Below.refl _ _⟩
  case round =>
    obtain ⟨k, hk, rfl, blk, ho, hbk, hb⟩ := hrel
    obtain ⟨sa, sc, rfl⟩ := ho.form
    by_cases hlt : k < outs.length
    · have HO := Lib.hid ho
      have HB := Lib.hid hb
      have HBK := Lib.hid hbk
      clear ho hb hbk
      have hat := fun j (hj : j < 6) => flat_at ocl_len outs k j hlt hj
      obtain ⟨hsl, a', c', hv', had⟩ := HS.out
      obtain ⟨ad, rfl, hcell⟩ : ∃ ad, a = some ad ∧ ∀ j u, (outs.flatMap ocl)[j]? = some u → w.cell? (ad.add j) = some u := by
        injection hv' with ha _ _
        subst ha
        rcases had with h0 | h0
        · rw [flat_len ocl_len] at hsl
          have h1 := flat_len ocl_len outs
          rw [h0] at h1
          simp only [List.length_nil] at h1
          omega
        · exact h0
      go_wp2_with fail
      have c0 := hcell _ _ (hat 0 (by omega))
      have c1 := hcell _ _ (hat 1 (by omega))
      have c2 := hcell _ _ (hat 2 (by omega))
      have c3 := hcell _ _ (hat 3 (by omega))
      have c4 := hcell _ _ (hat 4 (by omega))
      have c5 := hcell _ _ (hat 5 (by omega))
      obtain ⟨b, off, spot⟩ := ad
      have z0 := hcell _ _ (flat_at ocl_len outs 0 0 (by omega) (by omega))
      obtain rfl : spot = none := by
        have e : (⟨b, off, spot⟩ : Addr).add (0 * 6 + 0) = ⟨b, off, spot⟩ := by simp [Addr.add]
        rw [e] at z0
        unfold World.cell? at z0
        split at z0
        · split at z0
          · cases z0
          · rename_i hs; simpa using hs
        · cases z0
      rw [add_at] at c0 c1 c2 c3 c4 c5
      have hbb : b < w.heap.size := World.block_lt_of_cell? w ⟨b, _, none⟩ c0
      have tr : ∀ o u, w.cell? ⟨b, o, none⟩ = some u → wr.cell? ⟨b, o, none⟩ = some u := fun o u h => (HB.out.cell (p := ⟨b, o, none⟩) hbb).trans h
      have d0 : wr.cell? ⟨b, off + k * 6, none⟩ = some (.int .i64 outs[k].1) := tr _ _ c0
      have d1 : wr.cell? ⟨b, off + k * 6 + 1, none⟩ = some (.int .i64 outs[k].2.1.k) := tr _ _ c1
      have d2 : wr.cell? ⟨b, off + k * 6 + 1 + 1, none⟩ = some (.int .i64 outs[k].2.1.n) := tr _ _ c2
      have d3 : wr.cell? ⟨b, off + k * 6 + 1 + 2, none⟩ = some (.int .i64 outs[k].2.1.t) := tr _ _ c3
      have d4 : wr.cell? ⟨b, off + k * 6 + 1 + 3, none⟩ = some outs[k].2.2 := tr _ _ c4
      have d5 : wr.cell? ⟨b, off + k * 6 + 1 + 4, none⟩ = some (.int .i64 outs[k].2.1.c) := tr _ _ c5
      clear z0 tr
      obtain ⟨ra, rn, rc, hrow⟩ := HK.out outs[k] (List.getElem_mem hlt)
      have hoc : ∀ u ∈ ocl outs[k], u.oneCell' = true := by
        intro u hu
        simp only [ocl, ecl, List.mem_cons, List.not_mem_nil, or_false] at hu
        rcases hu with rfl | rfl | rfl | rfl | rfl | rfl
        · rfl
        · rfl
        · rfl
        · rfl
        · rw [hrow]; rfl
        · rfl
      have HOC := Lib.hid hoc
      have HROW := Lib.hid hrow
      clear hoc hrow
      clear c0 c1 c2 c3 c4 c5 hcell had hat hsl
      have hs0 : SlOwn (wr.alloc (Obj.cells #[.int .i64 outs[k].1, .int .i64 outs[k].2.1.k, .int .i64 outs[k].2.1.n, .int .i64 outs[k].2.1.t, outs[k].2.2, .int .i64 outs[k].2.1.c] 57)).drew 57 6 (.slice sa k sc) k ((outs.take k).flatMap ocl) blk := HO.out.keep fun g hg => Below.heap_alloc wr _ g (HO.out.lt_of hg)
      have hs1 : Src (wr.alloc (Obj.cells #[.int .i64 outs[k].1, .int .i64 outs[k].2.1.k, .int .i64 outs[k].2.1.n, .int .i64 outs[k].2.1.t, outs[k].2.2, .int .i64 outs[k].2.1.c] 57)).drew 6 (.slice (some ⟨wr.heap.size, 0, none⟩) 1 1) 1 (ocl outs[k]) := SlOwn.src (e := 57) (blk := some wr.heap.size) ⟨rfl, .inr ⟨_, 0, 1, _, rfl, rfl, World.alloc_heap_new wr (Obj.cells #[.int .i64 outs[k].1, .int .i64 outs[k].2.1.k, .int .i64 outs[k].2.1.n, .int .i64 outs[k].2.1.t, outs[k].2.2, .int .i64 outs[k].2.1.c] 57), Nat.le_refl _, by simp [maxLen], by simp, rfl⟩⟩
      have HS0 := Lib.hid hs0
      have HS1 := Lib.hid hs1
      clear hs0 hs1
      go_region_law (refine step_append_S rfl (.tmp 11) (.tmp 23) 41 rfl 57 i0 _ 6 64 Try.underlying41 hi0 hz0 hz1 hz2 rfl (by omega) (.slice sa k sc) k ((outs.take k).flatMap ocl) blk rfl HS0.out (.slice (some ⟨wr.heap.size, 0, none⟩) 1 1) 1 (ocl outs[k]) rfl HS1.out HOC.out (by simp only [maxLen]; omega) (by omega) ?_; intro v4 w4 bk4 h1 h2 h3)
      all_goals
        have hbw : Below w.heap.size w w4 := by
          refine ((HB.out.alloc HB.out.size _).drew).grown h2 (by have := HB.out.size; simp; omega) (fun q hq => HBK.out q hq)
        have hblk4 : ∀ g, bk4 = some g → w.heap.size ≤ g := by
          intro g hg
          rcases h3 with e | e
          · exact HBK.out g (e ▸ hg)
          · rw [hg] at e; injection e with e
            have := HB.out.size
            simp at e; omega
        obtain ⟨sa4, sc4, rfl⟩ := h1.form
        have H1 := Lib.hid h1
        have HW4 := Lib.hid hbw
        clear h1 h2 h3 hbw
        go_wp2_with fail
        go_roundw
        case rel =>
          refine ⟨k + 1, by omega, by go_num, bk4, ?_, hblk4, HW4.out⟩
          have := H1.out
          rw [List.take_succ_eq_append_getElem hlt, List.flatMap_append]
          simpa using this
        case measure => simp [intOf]; omega
    · have hkl : k = outs.length := by omega
      subst hkl
      go_wp2_with fail
      go_ret
      exact ⟨_, blk, rfl, by simpa using ho, hbk, hb⟩
end walks
end Go.Proofs.Ytdnkfgnjeibjeaa

namespace Go.Proofs.Ytdnkfgnjeibjeaa
open Go.RowKit Go.Shelf

/-- What passed, without its rows' places. -/
def bare (o : OV) : Int × Elem := ((o.1 : Int), o.2.1)

theorem OutsAt.of_own {w : World} {D : Nat → Prop} {e : TypeId} {v : Value} {outs : List OV} {blk : Option Nat} (h : SlOwn w e 6 v outs.length (outs.flatMap ocl) blk) (hlen : outs.length ≤ 1000000) (hr : ∀ o ∈ outs, RowAt w D o.2.2 o.2.1.row) (hD : ∀ b, blk = some b → D b) :
    OutsAt w D v (outs.map bare) := by
  obtain ⟨a, c, rfl⟩ := h.form
  refine ⟨a, c, by simp, by simp; omega, ?_⟩
  rcases Nat.eq_zero_or_pos outs.length with h0 | h0
  · exact .inl (by rw [List.eq_nil_of_length_eq_zero h0]; rfl)
  · obtain ⟨g, o, ha, hb⟩ : ∃ g o, a = some ⟨g, o, none⟩ ∧ blk = some g := by
      rcases h.2 with ⟨hx, _⟩ | ⟨g, o, cap, cur, hb, hx, _⟩
      · injection hx with _ hx _; omega
      · injection hx with hx _ _; exact ⟨g, o, hx, hb⟩
    subst ha
    refine .inr ⟨g, o, rfl, hD g hb, fun i hi => ?_⟩
    have hi' : i < outs.length := by simpa using hi
    have hc := fun j (hj : j < 6) u (hu : (ocl outs[i])[j]? = some u) => h.cell (i * 6 + j) u ((flat_at ocl_len outs i j hi' hj).trans hu)
    simp only [List.getElem_map, bare]
    exact ⟨hc 0 (by omega) _ rfl, outs[i].2.2, hc 1 (by omega) _ rfl, hc 2 (by omega) _ rfl, hc 3 (by omega) _ rfl, hc 4 (by omega) _ rfl, hc 5 (by omega) _ rfl, hr _ (List.getElem_mem hi')⟩

end Go.Proofs.Ytdnkfgnjeibjeaa

namespace Go.Proofs.Ytdnkfgnjeibjeaa
open Go.RowKit Go.Shelf

theorem ActsAt.below {w w' : World} {D : Nat → Prop} {v : Value} {l : List ActV} (h : ActsAt w D v l) (hb : Below w.heap.size w w') : ActsAt w' D v l := by
  obtain ⟨a, cap, rfl, hl, hx⟩ := h
  refine ⟨a, cap, rfl, hl, ?_⟩
  rcases hx with rfl | ⟨b, off, rfl, hD, hc⟩
  · exact .inl rfl
  · refine .inr ⟨b, off, rfl, hD, fun i hi => ?_⟩
    obtain ⟨h0, h1, r, e0, e1, e2, e3, e4, hr⟩ := hc i hi
    have hlt : b < w.heap.size := World.block_lt_of_cell? w ⟨b, _, none⟩ h0
    have t : ∀ o, w'.cell? ⟨b, o, none⟩ = w.cell? ⟨b, o, none⟩ := fun o => hb.cell (p := ⟨b, o, none⟩) hlt
    exact ⟨(t _).trans h0, (t _).trans h1, r, (t _).trans e0, (t _).trans e1, (t _).trans e2, (t _).trans e3, (t _).trans e4, hr.below hb⟩

section walks
set_option maxHeartbeats 1000000
set_option maxRecDepth 100000

theorem f3_early (w : World) (n : Int) (v : Value) (l : List ActV) (D : Nat → Prop) (h : ActsAt w D v l) (hc : manyA l = true ∨ n < 1 ∨ 200 < n) :
    Calls Try.prog 3 #[.int .i64 n, v] w fun e w' => e = .returned (.bool true) ∧ Below w.heap.size w w' := by
  have hm := fun (W : World) (hb : Below w.heap.size w W) => f11_any W v l D (h.below hb)
  have HM := Lib.hid hm
  obtain ⟨a, c, rfl, _, _⟩ := h
  clear hm
  cases hml : manyA l <;> rw [hml] at HM
  · have hn := hc.resolve_left (by rw [hml]; decide)
    go_enter Try.func3, Try.ntmps3
    go_wp2_with (first
      | (go_at_call 10; refine (f10_any _).mono ?_; rintro e w1 ⟨rfl, hb1⟩; have HB1 := Lib.hid hb1; clear hb1)
      | (go_at_call 11; refine (HM.out _ HB1.out).mono ?_; rintro e w2 ⟨rfl, hb2⟩; have HB2 := Lib.hid (HB1.out.trans (hb2.mono HB1.out.size)); clear hb2)
      | (go_at_call 12; refine (f12_no _ n _ hn).mono ?_; rintro e w3 ⟨rfl, rfl⟩))
    go_ret
    exact ⟨rfl, HB2.out⟩
  · go_enter Try.func3, Try.ntmps3
    go_wp2_with (first
      | (go_at_call 10; refine (f10_any _).mono ?_; rintro e w1 ⟨rfl, hb1⟩; have HB1 := Lib.hid hb1; clear hb1)
      | (go_at_call 11; refine (HM.out _ HB1.out).mono ?_; rintro e w2 ⟨rfl, hb2⟩; have HB2 := Lib.hid (HB1.out.trans (hb2.mono HB1.out.size)); clear hb2))
    go_ret
    exact ⟨rfl, HB2.out⟩
end walks
end Go.Proofs.Ytdnkfgnjeibjeaa

namespace Go.Proofs.Ytdnkfgnjeibjeaa
open Go.RowKit Go.Shelf

/-- No block. -/
abbrev NoB : Nat → Prop := fun _ => False

/-- What passed, as a slice; its blocks are of S. -/
structure OutV (w : World) (S : Nat → Prop) (v : Value) (outs : List OV) : Prop where
  own : ∃ blk, SlOwn w 44 6 v outs.length (outs.flatMap ocl) blk ∧ ∀ g, blk = some g → S g
  rows : ∀ o ∈ outs, RowAt w S o.2.2 o.2.1.row

theorem OutV.keep {w w' : World} {S : Nat → Prop} {v : Value} {outs : List OV} (h : OutV w S v outs) (hk : ∀ b, S b → b < w.heap.size → w'.heap[b]? = w.heap[b]?) : OutV w' S v outs := by
  obtain ⟨⟨blk, h1, h2⟩, h3⟩ := h
  exact ⟨⟨blk, h1.keep fun g hg => hk g (h2 g hg) (by subst hg; exact h1.blk_lt), h2⟩, fun o ho => (h3 o ho).keep hk⟩

theorem OutV.below {w w' : World} {S : Nat → Prop} {v : Value} {outs : List OV} (h : OutV w S v outs) (hb : Below w.heap.size w w') : OutV w' S v outs := h.keep fun b _ hl => hb.block b hl

theorem OutV.imp {w : World} {S S' : Nat → Prop} {v : Value} {outs : List OV} (h : OutV w S v outs) (hs : ∀ b, b < w.heap.size → S b → S' b) : OutV w S' v outs := by
  obtain ⟨⟨blk, h1, h2⟩, h3⟩ := h
  exact ⟨⟨blk, h1, fun g hg => hs g (by subst hg; exact h1.blk_lt) (h2 g hg)⟩, fun o ho => (h3 o ho).imp hs⟩

theorem RowAt.form {w : World} {D : Nat → Prop} {r : Value} {row : List Val} (h : RowAt w D r row) : ∃ a n c, r = .slice a n c := by
  obtain ⟨a, c, h, _⟩ := h
  exact ⟨a, _, c, h⟩

theorem OutV.call15 {w : World} {S : Nat → Prop} {v : Value} {outs : List OV} (h : OutV w S v outs) (hl : outs.length ≤ 1000000) :
    Calls Try.prog 15 #[v] w fun e w' => (∃ v' blk, e = .returned v' ∧ SlOwn w' 57 6 v' outs.length (outs.flatMap ocl) blk ∧ (∀ g, blk = some g → w.heap.size ≤ g)) ∧ (∀ o ∈ outs, RowAt w' S o.2.2 o.2.1.row) ∧ Below w.heap.size w w' := by
  obtain ⟨⟨blk, h1, h2⟩, h3⟩ := h
  refine (f15_any w v outs h1.src (fun o ho => (h3 o ho).form) hl h1.form).mono ?_
  rintro e w' ⟨v', blk', he, hs, hb, hbl⟩
  exact ⟨⟨v', blk', he, hs, hb⟩, fun o ho => (h3 o ho).below hbl, hbl⟩

/-- A gate without barriers, whatever else turns. -/
theorem GateAt.keepOwn {w w' : World} {gs : GS} {m : Gm} (h : GateAt w NoB gs m) (hk : ∀ b, gs.own m.n b → w'.heap[b]? = w.heap[b]?) : GateAt w' NoB gs m := by
  have hl : ∀ {b o}, gs.own m.n b → w.heap[b]? = some o → w'.heap[b]? = some o := fun ho hb => (hk _ ho).trans hb
  refine ⟨h.pos, h.le, hl (own_G gs _) h.hG, ?_, fun i hi => hl (own_ib gs hi) (h.hib i hi), h.inj, fun i hi => (h.hq i hi).keep fun g hg => hk g (own_qb gs hi hg), h.qinj, fun i hi p hp => (h.hrow i hi p hp).keep fun b hb _ => hb.elim, h.hD, hl (.inr (.inr (.inl rfl))) h.hmap⟩
  obtain ⟨cs, hc, hcs⟩ := h.harr
  exact ⟨cs, hl (.inr (.inl rfl)) hc, hcs⟩

theorem GateAt.fresh {w : World} {D : Nat → Prop} {gs : GS} {n : Nat} {al : Bool} (h : GateAt w D gs (Gm.new n al)) : GateAt w NoB gs (Gm.new n al) :=
  ⟨h.pos, h.le, h.hG, h.harr, h.hib, h.inj, h.hq, h.qinj, (fun i hi p hp => by cases hp), (fun b hb => hb.elim), h.hmap⟩

def freshErr (n : Nat) (i : Int) (x : Elem) : Int := if validElem x then (if i < 0 ∨ (n : Int) ≤ i then 7 else 0) else 1
def freshOuts (n : Nat) (i : Int) (x : Elem) (r : Value) : List OV := if freshErr n i x = 0 then [(i.toNat, (x, r))] else []

def Fresh (w : World) (gs : GS) (n : Nat) (al : Bool) (i : Int) (x : Elem) (e : Ending) (w' : World) : Prop :=
  ∃ v r gs', e = .returned (.tuple #[v, .int .i64 (freshErr n i x)]) ∧ OutV w' (fun b => w.heap.size ≤ b) v (freshOuts n i x r) ∧ GateAt w' NoB gs' (Gm.new n al) ∧ gs'.G = gs.G ∧ (∀ b, gs'.own n b → gs.own n b ∨ w.heap.size ≤ b) ∧ Only (gs.own n) w w'

theorem Fresh.no {w w' : World} {gs : GS} {n : Nat} {al : Bool} {i : Int} {x : Elem} {e : Ending} {err : Int} (hg : GateAt w NoB gs (Gm.new n al)) (he : freshErr n i x = err) (hne : err ≠ 0) (h : e = .returned (.tuple #[.slice none 0 0, .int .i64 err])) (hb : Below w.heap.size w w') : Fresh w gs n al i x e w' := by
  refine ⟨.slice none 0 0, .slice none 0 0, gs, by rw [he]; exact h, ?_, hg.below hb, rfl, fun b hb => .inl hb, Only.of_below hb⟩
  have : freshOuts n i x (.slice none 0 0) = [] := by simp [freshOuts, he, hne]
  rw [this]
  exact ⟨⟨none, SlOwn.nil _ _ _, fun g hg => by cases hg⟩, fun o ho => by cases ho⟩

theorem f13_fresh (w : World) (D0 : Nat → Prop) (gs : GS) (n : Nat) (al : Bool) (i : Int) (x : Elem) (r : Value) (h : GateAt w NoB gs (Gm.new n al)) (hr : RowAt w D0 r x.row) (hsm : x.row.length ≤ 1000000) (hk : (x.k == 3) = false) :
    Calls Try.prog 13 #[.pointer (some ⟨gs.G, 0, none⟩), .int .i64 i, ev x r] w (Fresh w gs n al i x) := by
  cases hv : validElem x
  · refine (f13_inv w D0 ⟨gs.G, 0, none⟩ i x r hr hv).mono ?_
    rintro e w' ⟨he, hb⟩
    exact Fresh.no h (by simp [freshErr, hv]) (by decide) he hb
  · by_cases hi : i < 0 ∨ (n : Int) ≤ i
    · refine (f13_rng w D0 gs (Gm.new n al) h i x r hr hv hi).mono ?_
      rintro e w' ⟨he, hb⟩
      exact Fresh.no h (by simp [freshErr, hv, hi]) (by decide) he hb
    · obtain ⟨j, rfl⟩ : ∃ j : Nat, i = j := ⟨i.toNat, by omega⟩
      have hj : j < n := by omega
      have he : freshErr n j x = 0 := by simp only [freshErr, hv, if_true, if_neg hi]
      refine (f13_pass w NoB D0 gs (Gm.new n al) j x r (fun _ => Gm.new n al) (fun r => [(j, (x, r))]) h (fun b hb => hb.elim) hr hsm hv hj rfl hk (by simp [Gm.blocked, Gm.new]) (fun D r => f44_pass D j (x, r) (Gm.new n al) hj (by simp [EV.plain, bne, hk]))).mono ?_
      rintro e w' ⟨D', r', gs', v, blk, hD1, hD2, hD3, he', hn, hs, hb, hg, hG', ho', hrr, hon⟩
      refine ⟨v, r', gs', by rw [he]; exact he', ?_, hg.fresh, hG', ho', hon⟩
      have e1 : freshOuts n j x r' = [(j, (x, r'))] := by simp [freshOuts, he]
      rw [e1]
      exact ⟨⟨blk, hs, hb⟩, fun o ho => (hrr o ho).mono fun b hb => (hD2 b hb).resolve_left (fun h => h.elim)⟩

/-- Two gates without barriers, one of each kind, made since w. -/
structure TwoAt (w W : World) (n A B : Nat) (ga gb : GS) : Prop where
  a : GateAt W NoB ga (Gm.new n true)
  b : GateAt W NoB gb (Gm.new n false)
  hA : ga.G = A
  hB : gb.G = B
  oa : ∀ b, ga.own n b → w.heap.size ≤ b
  ob : ∀ b, gb.own n b → w.heap.size ≤ b
  apart : ∀ b, ga.own n b → ¬ gb.own n b
  below : Below w.heap.size w W

def Two (w W : World) (n A B : Nat) : Prop := ∃ ga gb, TwoAt w W n A B ga gb
def TwoV (w W : World) (n A B : Nat) (v : Value) (outs : List OV) : Prop := ∃ ga gb, TwoAt w W n A B ga gb ∧ OutV W (fun b => w.heap.size ≤ b ∧ ¬ gb.own n b) v outs

theorem Two.bl {w W : World} {n A B : Nat} (h : Two w W n A B) : Below w.heap.size w W := by
  obtain ⟨_, _, h⟩ := h
  exact h.below

theorem TwoV.bl {w W : World} {n A B : Nat} {v : Value} {outs : List OV} (h : TwoV w W n A B v outs) : Below w.heap.size w W := by
  obtain ⟨_, _, h, _⟩ := h
  exact h.below

theorem TwoAt.next {w W W' : World} {n A B : Nat} {ga gb : GS} (h : TwoAt w W n A B ga gb) (hb : Below W.heap.size W W') : TwoAt w W' n A B ga gb :=
  ⟨h.a.below hb, h.b.below hb, h.hA, h.hB, h.oa, h.ob, h.apart, h.below.trans (hb.mono h.below.size)⟩

theorem Two.next {w W W' : World} {n A B : Nat} (h : Two w W n A B) (hb : Below W.heap.size W W') : Two w W' n A B := by
  obtain ⟨ga, gb, h⟩ := h
  exact ⟨ga, gb, h.next hb⟩

theorem TwoV.next {w W W' : World} {n A B : Nat} {v : Value} {outs : List OV} (h : TwoV w W n A B v outs) (hb : Below W.heap.size W W') : TwoV w W' n A B v outs := by
  obtain ⟨ga, gb, h, ho⟩ := h
  exact ⟨ga, gb, h.next hb, ho.below hb⟩

/-- What the first gate's 'Arrive' gives. -/
def ArrA (w : World) (n A B : Nat) (i : Int) (x : Elem) (e : Ending) (w' : World) : Prop :=
  ∃ a c r, e = .returned (.tuple #[.slice a (freshOuts n i x r).length c, .int .i64 (freshErr n i x)]) ∧ TwoV w w' n A B (.slice a (freshOuts n i x r).length c) (freshOuts n i x r)

def ArrB (w : World) (n A B : Nat) (i : Int) (x : Elem) (v1 : Value) (outs1 : List OV) (e : Ending) (w' : World) : Prop :=
  ∃ a c r, e = .returned (.tuple #[.slice a (freshOuts n i x r).length c, .int .i64 (freshErr n i x)]) ∧ Two w w' n A B ∧ OutV w' (fun b => w.heap.size ≤ b) v1 outs1 ∧ OutV w' (fun b => w.heap.size ≤ b) (.slice a (freshOuts n i x r).length c) (freshOuts n i x r)

theorem OutV.form {w : World} {S : Nat → Prop} {v : Value} {outs : List OV} (h : OutV w S v outs) : ∃ a c, v = .slice a outs.length c := by
  obtain ⟨⟨blk, h1, _⟩, _⟩ := h
  exact h1.form

theorem arrA (w W : World) (n A B : Nat) (D0 : Nat → Prop) (i : Int) (x : Elem) (r : Value) (h : Two w W n A B) (hr : RowAt W D0 r x.row) (hsm : x.row.length ≤ 1000000) (hk : (x.k == 3) = false) :
    Calls Try.prog 13 #[.pointer (some ⟨A, 0, none⟩), .int .i64 i, ev x r] W (ArrA w n A B i x) := by
  obtain ⟨ga, gb, h⟩ := h
  have hc := f13_fresh W D0 ga n true i x r h.a hr hsm hk
  rw [h.hA] at hc
  refine hc.mono ?_
  rintro e w' ⟨v, r', gs', he, ho, hg, hG, hown, hon⟩
  obtain ⟨a, c, rfl⟩ := ho.form
  have hbl := h.below.size
  refine ⟨a, c, r', he, gs', gb, ⟨hg, h.b.keepOwn fun b hb => hon.block b (h.b.lt hb) (fun ha => h.apart b ha hb), hG.trans h.hA, h.hB, fun b hb => ?_, h.ob, fun b hb hb' => ?_, ?_⟩, ?_⟩
  · rcases hown b hb with h1 | h1
    · exact h.oa b h1
    · omega
  · rcases hown b hb with h1 | h1
    · exact h.apart b h1 hb'
    · have := h.b.lt hb'; omega
  · exact h.below.trans (hon.below hbl h.oa)
  · exact ho.imp fun b _ hb => ⟨by omega, fun hb' => by have := h.b.lt hb'; omega⟩

theorem arrB (w W : World) (n A B : Nat) (D0 : Nat → Prop) (i : Int) (x : Elem) (r : Value) (v1 : Value) (outs1 : List OV) (h : TwoV w W n A B v1 outs1) (hr : RowAt W D0 r x.row) (hsm : x.row.length ≤ 1000000) (hk : (x.k == 3) = false) :
    Calls Try.prog 13 #[.pointer (some ⟨B, 0, none⟩), .int .i64 i, ev x r] W (ArrB w n A B i x v1 outs1) := by
  obtain ⟨ga, gb, h, ho1⟩ := h
  have hc := f13_fresh W D0 gb n false i x r h.b hr hsm hk
  rw [h.hB] at hc
  refine hc.mono ?_
  rintro e w' ⟨v, r', gs', he, ho, hg, hG, hown, hon⟩
  obtain ⟨a, c, rfl⟩ := ho.form
  have hbl := h.below.size
  refine ⟨a, c, r', he, ⟨ga, gs', h.a.keepOwn fun b hb => hon.block b (h.a.lt hb) (fun ha => h.apart b hb ha), hg, h.hA, hG.trans h.hB, h.oa, fun b hb => ?_, fun b hb hb' => ?_, ?_⟩, ?_, ?_⟩
  · rcases hown b hb with h1 | h1
    · exact h.ob b h1
    · omega
  · rcases hown b hb' with h1 | h1
    · exact h.apart b hb h1
    · have := h.a.lt hb; omega
  · exact h.below.trans (hon.below hbl h.ob)
  · exact (ho1.keep fun b hb hl => hon.block b hl hb.2).imp fun b _ hb => hb.1
  · exact ho.imp fun b _ hb => by omega

/-- Both gates are made. -/
theorem f12_a (w : World) (n : Nat) (h1 : 1 ≤ n) (h2 : n ≤ 200) :
    Calls Try.prog 12 #[.int .i64 n, .bool true] w fun e w' => ∃ A, e = .returned (.tuple #[.pointer (some ⟨A, 0, none⟩), .int .i64 0]) ∧ ∃ ga, GateAt w' NoB ga (Gm.new n true) ∧ ga.G = A ∧ (∀ b, ga.own n b → w.heap.size ≤ b) ∧ Below w.heap.size w w' := by
  refine (f12_ok w n true h1 h2).mono ?_
  rintro e w' ⟨he, v, ib, hN⟩
  obtain ⟨gs, hG, hg, ho⟩ := hN.gate h1 h2 NoB (fun b hb => hb.elim)
  exact ⟨_, he, gs, hg, hG, ho, hN.below⟩

theorem f12_b (w W : World) (n A : Nat) (h1 : 1 ≤ n) (h2 : n ≤ 200) (h : ∃ ga, GateAt W NoB ga (Gm.new n true) ∧ ga.G = A ∧ (∀ b, ga.own n b → w.heap.size ≤ b) ∧ Below w.heap.size w W) :
    Calls Try.prog 12 #[.int .i64 n, .bool false] W fun e w' => ∃ B, e = .returned (.tuple #[.pointer (some ⟨B, 0, none⟩), .int .i64 0]) ∧ Two w w' n A B := by
  obtain ⟨ga, hga, hA, hoa, hbl⟩ := h
  refine (f12_ok W n false h1 h2).mono ?_
  rintro e w' ⟨he, v, ib, hN⟩
  obtain ⟨gs, hG, hg, ho⟩ := hN.gate h1 h2 NoB (fun b hb => hb.elim)
  refine ⟨_, he, ga, gs, hga.below hN.below, hg, hA, hG, hoa, fun b hb => ?_, fun b hb hb' => ?_, hbl.trans (hN.below.mono hbl.size)⟩
  · have h3 := ho b hb
    have h4 := hbl.size
    omega
  · have h3 := ho b hb'
    have h4 : b < W.heap.size := hga.lt hb
    omega

theorem bytesLess_self (l : List UInt8) : Op.bytesLess l l = false := by
  induction l with
  | nil => rfl
  | cons x xs ih => simp [Op.bytesLess, ih]

theorem cmpVal_self (v : Val) : cmpVal v v = 0 := by
  unfold cmpVal
  simp [bytesLess_self]

theorem cmpRow_self (l : List Val) : cmpRow l l = 0 := by
  induction l with
  | nil => rfl
  | cons x xs ih => simp [cmpRow, cmpVal_self, ih]

theorem sameElem_self (x : Elem) : sameElem x x = true := by simp [sameElem, cmpRow_self]

theorem sameOuts_self (l : List (Int × Elem)) : sameOuts l l = true := by
  induction l with
  | nil => rfl
  | cons x xs ih => simp [sameOuts, sameElem_self, ih]

theorem freshOuts_bare (n : Nat) (i : Int) (x : Elem) (r r' : Value) : (freshOuts n i x r).map bare = (freshOuts n i x r').map bare := by
  unfold freshOuts
  split <;> rfl

theorem freshOuts_len (n : Nat) (i : Int) (x : Elem) (r : Value) : (freshOuts n i x r).length ≤ 1 := by
  unfold freshOuts
  split <;> simp

/-- f14 at what two gates passed. -/
theorem f14_fresh (w : World) (S S' : Nat → Prop) (n : Nat) (i : Int) (x : Elem) (r r' : Value) (v1 v2 : Value) (b1 b2 : Option Nat) (h1 : SlOwn w 57 6 v1 (freshOuts n i x r).length ((freshOuts n i x r).flatMap ocl) b1) (h2 : SlOwn w 57 6 v2 (freshOuts n i x r').length ((freshOuts n i x r').flatMap ocl) b2)
    (g1 : ∀ o ∈ freshOuts n i x r, RowAt w S o.2.2 o.2.1.row) (g2 : ∀ o ∈ freshOuts n i x r', RowAt w S' o.2.2 o.2.1.row) :
    Calls Try.prog 14 #[v1, v2] w fun e w' => e = .returned (.bool true) ∧ Below w.heap.size w w' := by
  have l1 := freshOuts_len n i x r
  have l2 := freshOuts_len n i x r'
  have a1 := OutsAt.of_own (D := fun _ => True) h1 (by omega) (fun o ho => (g1 o ho).mono fun _ _ => trivial) (fun _ _ => trivial)
  have a2 := OutsAt.of_own (D := fun _ => True) h2 (by omega) (fun o ho => (g2 o ho).mono fun _ _ => trivial) (fun _ _ => trivial)
  have := f14_any w v1 v2 _ _ _ _ a1 a2
  rw [freshOuts_bare n i x r r', sameOuts_self] at this
  exact this

end Go.Proofs.Ytdnkfgnjeibjeaa

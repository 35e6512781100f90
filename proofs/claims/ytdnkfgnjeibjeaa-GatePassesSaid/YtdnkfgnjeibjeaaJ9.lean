import Derived.Test.YtdnkfgnjeibjeaaJ8
namespace Go.Proofs.Ytdnkfgnjeibjeaa.W
open Go.RowKit Go.Shelf

/-- Whether a plain element of an input is noted. -/
def noting (m : Gm) (i : Nat) : Bool := decide (0 < m.under) && !(m.inp i).sent

def noteV (ns : List NoteC) (k : Int) : Value := match noteOf ns k with | some x => .pointer (some ⟨x.nb, 0, none⟩) | none => .pointer none

theorem lookup_notes {w : World} {D : Nat → Prop} {gs : GS} {m : Gm} {ns : List NoteC} (h : FreeAt w D gs m ns) (k : Int) : (Instr.lookup 83 (.map (some gs.map)) (.int .i64 k) false).run Try.prog w = .ok (noteV ns k) w := by
  rw [lookup_ents w gs.map gs.clock k h.pairs h.gate.hmap, valAt_notes]
  rfl

section walks
set_option maxHeartbeats 1000000
set_option maxRecDepth 100000

/-- A plain element that is not noted. -/
theorem f44_pass (w : World) (D : Nat → Prop) (i : Nat) (e : Elem) (r : Value) (gs : GS) (m : Gm) (ns : List NoteC) (h : FreeAt w D gs m ns) (hD : ∀ b, D b → b < w.heap.size) (hr : RowAt w D r e.row) (hi : i < m.n) (hk : (e.k == 3) = false) (hno : noting m i = false) :
    Calls Try.prog 44 #[.pointer (some ⟨gs.G, 0, none⟩), .int .i64 i, ev e r] w (FGives w D gs m.n ns m (ns.map NoteC.abs) [(i, e)]) := by
  have hr0 := hr
  obtain ⟨a, cap, rfl, _, _⟩ := hr
  have hk' : (e.k != 3) = true := by simp [bne, hk]
  have j1 : (0 : Int) ≤ (i : Int) := by omega
  have j2 : (i : Int) < (m.n : Int) := by omega
  have HD := Lib.hid hD
  have HR := Lib.hid hr0
  have HH := Lib.hid h
  obtain ⟨g0, g1, g2, g3, g4, gf⟩ := h.gate.cells
  clear hD hr0 h
  go_enter Try.func44, Try.ntmps44
  go_wp2_with fail
  have hb0 : Below w.heap.size w ((w.alloc (Obj.cells #[.int .i64 e.k, .int .i64 e.n, .int .i64 e.t, .slice a e.row.length cap, .int .i64 e.c] 34)).alloc (Obj.cells #[.int .i64 i, .int .i64 e.k, .int .i64 e.n, .int .i64 e.t, .slice a e.row.length cap, .int .i64 e.c] 44)) :=
    ((Below.refl _ _).alloc (Nat.le_refl _) _).alloc (by simp) _
  have hn0 := box2_snd w (Obj.cells #[.int .i64 e.k, .int .i64 e.n, .int .i64 e.t, .slice a e.row.length cap, .int .i64 e.c] 34) (Obj.cells #[.int .i64 i, .int .i64 e.k, .int .i64 e.n, .int .i64 e.t, .slice a e.row.length cap, .int .i64 e.c] 44)
  generalize ((w.alloc (Obj.cells #[.int .i64 e.k, .int .i64 e.n, .int .i64 e.t, .slice a e.row.length cap, .int .i64 e.c] 34)).alloc (Obj.cells #[.int .i64 i, .int .i64 e.k, .int .i64 e.n, .int .i64 e.t, .slice a e.row.length cap, .int .i64 e.c] 44)) = W0 at hb0 hn0 ⊢
  clear g0 g1 g2 g3 g4 gf
  have h0 := HH.out.below hb0
  obtain ⟨g0, g1, g2, g3, g4, gf⟩ := h0.gate.cells
  obtain ⟨ia, x0, x1, x2, x3, x4, xf⟩ := h0.gate.icells hi
  have hlk := fun n => lookup_notes (h0.below (w' := W0.drewN n) ⟨rfl, rfl, rfl, Nat.le_refl _, fun _ _ => rfl⟩) m.under
  obtain ⟨pv, hpv⟩ : ∃ pv, noteV ns m.under = .pointer pv := by
    unfold noteV
    cases noteOf ns m.under <;> exact ⟨_, rfl⟩
  rw [hpv] at hlk
  have HN := Lib.hid hn0
  have HB := Lib.hid hb0
  clear h0 hn0 hb0 hpv
  go_quiet (fail)
  clear hlk
  have hfin : FGives w D gs m.n ns m (ns.map NoteC.abs) [(i, e)] (.returned (.slice (some ⟨w.heap.size + 1, 0, none⟩) 1 1)) (W0.drewN nq) := by
    have hbd : Below w.heap.size w (W0.drewN nq) := HB.out.trans ⟨rfl, rfl, rfl, Nat.le_refl _, fun _ _ => rfl⟩
    refine ⟨_, rfl, D, gs, ns, [(i, (e, .slice a e.row.length cap))], some (w.heap.size + 1), (FStep.refl HH.out HD.out).below hbd, rfl, rfl, ⟨rfl, .inr ⟨_, 0, 1, _, rfl, rfl, HN.out, Nat.le_refl _, by simp [maxLen], by simp, rfl⟩⟩, fun g hg => ?_, fun o ho => ?_⟩
    · injection hg with hg
      refine ⟨by omega, fun hh => ?_, fun hh => ?_⟩
      · have := HH.out.lt hh; omega
      · have := HD.out g hh; omega
    · rw [List.mem_singleton] at ho
      subst ho
      exact HR.out.below hbd
  have HF := Lib.hid hfin
  clear hfin
  have hpn : ∀ (p : Option Addr) (W : World), (binOp .neq 93 (.pointer p) (.pointer none)).run Try.prog W = .ok (.bool p.isSome) W := fun p W => by cases p <;> kernel_rfl
  rcases Int.lt_or_le 0 m.under with hu | hu
  · have hs : (m.inp i).sent = true := by
      unfold noting at hno
      rw [decide_eq_true hu, Bool.true_and] at hno
      simpa using hno
    rw [hs] at x3
    have hpv := hpn pv
    cases hpi : pv.isSome <;> rw [hpi] at hpv
    · clear hpn
      go_wp2_with fail
      go_ret
      exact HF.out
    · clear hpn
      go_wp2_with fail
      go_ret
      exact HF.out
  · go_wp2_with fail
    go_ret
    exact HF.out

def noteAdd (N : List Note) (k : Int) (o : Nat × Elem) : List Note := N.map fun y => if y.1 = k then (y.1, y.2.1 ++ [o], y.2.2) else y

theorem noteOf_of_mem {w : World} {D : Nat → Prop} {gs : GS} {m : Gm} {ns : List NoteC} (h : FreeAt w D gs m ns) {x : NoteC} (hx : x ∈ ns) : noteOf ns x.k = some x := by
  cases hn : noteOf ns x.k with
  | none =>
    unfold noteOf at hn
    have := List.find?_eq_none.1 hn x hx
    simp at this
  | some y =>
    obtain ⟨hy, hk⟩ := noteOf_mem hn
    rw [apart_eq h.apart hy hx (.inl hk)]

/-- A plain element that is noted. -/
theorem f44_note (w : World) (D : Nat → Prop) (i : Nat) (e : Elem) (r : Value) (gs : GS) (m : Gm) (ns : List NoteC) (h : FreeAt w D gs m ns) (hD : ∀ b, D b → b < w.heap.size) (hr : RowAt w D r e.row) (hi : i < m.n) (hk : (e.k == 3) = false) (hno : noting m i = true)
    (hsm : e.row.length ≤ 1000000) (x : NoteC) (hx : x ∈ ns) (hxk : x.k = m.under) (hlen : x.outs.length ≤ 1000000) :
    Calls Try.prog 44 #[.pointer (some ⟨gs.G, 0, none⟩), .int .i64 i, ev e r] w (FGives w D gs m.n ns m (noteAdd (ns.map NoteC.abs) m.under (i, e)) [(i, e)]) := by
  have hO := fun (W : World) (hb : Below w.heap.size w W) => f43_any W e r D (hr.below hb) hsm
  have HO := Lib.hid hO
  have hr0 := hr
  obtain ⟨a, cap, rfl, _, _⟩ := hr
  have hk' : (e.k != 3) = true := by simp [bne, hk]
  have j1 : (0 : Int) ≤ (i : Int) := by omega
  have j2 : (i : Int) < (m.n : Int) := by omega
  have HD := Lib.hid hD
  have HR := Lib.hid hr0
  have HH := Lib.hid h
  have HX := Lib.hid hx
  have HXK := Lib.hid hxk
  obtain ⟨g0, g1, g2, g3, g4, gf⟩ := h.gate.cells
  have hpv : noteV ns m.under = .pointer (some ⟨x.nb, 0, none⟩) := by
    unfold noteV
    rw [← hxk, noteOf_of_mem h hx]
  have HPV := Lib.hid hpv
  clear hD hr0 h hO hx hxk hpv
  go_enter Try.func44, Try.ntmps44
  go_wp2_with fail
  have hb0 : Below w.heap.size w ((w.alloc (Obj.cells #[.int .i64 e.k, .int .i64 e.n, .int .i64 e.t, .slice a e.row.length cap, .int .i64 e.c] 34)).alloc (Obj.cells #[.int .i64 i, .int .i64 e.k, .int .i64 e.n, .int .i64 e.t, .slice a e.row.length cap, .int .i64 e.c] 44)) :=
    ((Below.refl _ _).alloc (Nat.le_refl _) _).alloc (by simp) _
  have hn0 := box2_snd w (Obj.cells #[.int .i64 e.k, .int .i64 e.n, .int .i64 e.t, .slice a e.row.length cap, .int .i64 e.c] 34) (Obj.cells #[.int .i64 i, .int .i64 e.k, .int .i64 e.n, .int .i64 e.t, .slice a e.row.length cap, .int .i64 e.c] 44)
  have hn1 : ((w.alloc (Obj.cells #[.int .i64 e.k, .int .i64 e.n, .int .i64 e.t, .slice a e.row.length cap, .int .i64 e.c] 34)).alloc (Obj.cells #[.int .i64 i, .int .i64 e.k, .int .i64 e.n, .int .i64 e.t, .slice a e.row.length cap, .int .i64 e.c] 44)).heap[w.heap.size]? = some (Obj.cells #[.int .i64 e.k, .int .i64 e.n, .int .i64 e.t, .slice a e.row.length cap, .int .i64 e.c] 34 (0, 0)) :=
    (Below.heap_alloc _ _ _ (by simp)).trans (World.alloc_heap_new _ _)
  generalize ((w.alloc (Obj.cells #[.int .i64 e.k, .int .i64 e.n, .int .i64 e.t, .slice a e.row.length cap, .int .i64 e.c] 34)).alloc (Obj.cells #[.int .i64 i, .int .i64 e.k, .int .i64 e.n, .int .i64 e.t, .slice a e.row.length cap, .int .i64 e.c] 44)) = W0 at hb0 hn0 hn1 ⊢
  clear g0 g1 g2 g3 g4 gf
  have h0 := HH.out.below hb0
  obtain ⟨g0, g1, g2, g3, g4, gf⟩ := h0.gate.cells
  obtain ⟨ia, x0, x1, x2, x3, x4, xf⟩ := h0.gate.icells hi
  have hlk := fun n => lookup_notes (h0.below (w' := W0.drewN n) ⟨rfl, rfl, rfl, Nat.le_refl _, fun _ _ => rfl⟩) m.under
  rw [HPV.out] at hlk
  have HN := Lib.hid hn0
  have HN1 := Lib.hid hn1
  have HB := Lib.hid hb0
  clear h0 hn0 hn1 hb0
  go_quiet (fail)
  clear hlk
  have hpn : ∀ (W : World), (binOp .neq 93 (.pointer (some ⟨x.nb, 0, none⟩)) (.pointer none)).run Try.prog W = .ok (.bool true) W := fun W => by kernel_rfl
  have hu : 0 < m.under := by
    unfold noting at hno
    simpa using (Bool.and_eq_true_iff.1 hno).1
  have hs : (m.inp i).sent = false := by
    unfold noting at hno
    simpa using (Bool.and_eq_true_iff.1 hno).2
  rw [hs] at x3
  clear hno
  go_wp2_with fail
  clear g0 g1 g2 g3 g4 gf ia x0 x1 x2 x3 x4 xf hpn
  have hbd : Below W0.heap.size W0 (W0.drewN nq) := ⟨rfl, rfl, rfl, Nat.le_refl _, fun _ _ => rfl⟩
  have hbw : Below w.heap.size w (W0.drewN nq) := HB.out.trans (hbd.mono HB.out.size)
  have hc1 := (hbd.block _ (heap_lt HN1.out)).trans HN1.out
  have hn1 := (hbd.block _ (heap_lt HN.out)).trans HN.out
  generalize W0.drewN nq = W1 at hbd hbw hc1 hn1 ⊢
  obtain ⟨b0, b1, b2, b3, b4, bf⟩ := blk5 hc1
  have hxn := (HH.out.below hbw).notes x HX.out
  obtain ⟨na, nc, hnv⟩ := hxn.own.form
  obtain ⟨n0, n1, nf⟩ := blk2 hxn.box
  rw [hnv] at n0
  have hnl := heap_lt hxn.box
  have hblk : x.blk ≠ some x.nb := fun e => by
    have := hxn.own
    rw [e] at this
    rcases this.2 with ⟨_, _, hn⟩ | ⟨g', o, cap, cur, hb', _, hc, _⟩
    · cases hn
    · injection hb' with hb'; subst hb'; exact ne_of_cells hc hxn.box (by decide) rfl
  have hblt : ∀ g, x.blk = some g → g < w.heap.size := fun g hg => (HH.out.notes x HX.out).own.lt_of hg
  have hnbw : x.nb < w.heap.size := heap_lt (HH.out.notes x HX.out).box
  have hC : ∀ W, Only (fun b => x.blk = some b) W1 W → W.cell? ⟨x.nb, 0, none⟩ = some (.slice na x.outs.length nc) ∧ W.cell? ⟨w.heap.size, 0, none⟩ = some (.int .i64 e.k) ∧ W.cell? ⟨w.heap.size, 1, none⟩ = some (.int .i64 e.n) ∧ W.cell? ⟨w.heap.size, 2, none⟩ = some (.int .i64 e.t) ∧ W.cell? ⟨w.heap.size, 3, none⟩ = some (.slice a e.row.length cap) ∧ W.cell? ⟨w.heap.size, 4, none⟩ = some (.int .i64 e.c) ∧ x.nb < W.heap.size ∧ W.frozen? ⟨x.nb, 0, none⟩ = false := fun W hW => by
    have hz := heap_lt hc1
    have t : ∀ o, W.cell? ⟨w.heap.size, o, none⟩ = W1.cell? ⟨w.heap.size, o, none⟩ := fun o => only_cell hW _ o hz (fun e => by have := hblt _ e; omega)
    have hbk := hW.block x.nb hnl hblk
    exact ⟨(only_cell hW _ 0 hnl hblk).trans n0, (t 0).trans b0, (t 1).trans b1, (t 2).trans b2, (t 3).trans b3, (t 4).trans b4, Nat.lt_of_lt_of_le hnl hW.size, (blk2 (hbk.trans hxn.box)).2.2 0⟩
  have hs0 := hxn.own
  rw [hnv] at hs0
  have HC := Lib.hid hC
  have HS0 := Lib.hid hs0
  have HXN := Lib.hid hxn
  have HBW := Lib.hid hbw
  have HNL := Lib.hid hnl
  have HBLK := Lib.hid hblk
  have HBLT := Lib.hid hblt
  have HNV := Lib.hid hnv
  have HN1' := Lib.hid hn1
  have HNBW := Lib.hid hnbw
  have hC0 : Only (fun b => x.blk = some b) W1 W1.drew := (Only.refl _ _).drew
  have HC0 := Lib.hid hC0
  obtain ⟨k3, hk3, hz30, hz31, hz32⟩ := info_parts info44
  clear hC hs0 hxn hbw hnl hblk hblt hnv hn1 hnbw hc1 hbd b0 b1 b2 b3 b4 bf n0 n1 nf
  refine wp_region_float 7 4 (fun W => Only (fun b => x.blk = some b) W1 W) (by kernel_rfl) (by kernel_rfl) hC0 ?_
  simp only [List.take_succ_cons, List.take_zero, List.drop_succ_cons, List.drop_zero]
  clear hC0
  repeat (
    refine wpFloat_ex (fun K hK => ?_)
    apply Exists.intro
    refine ⟨fun W hW => ?_, ?_⟩
    · obtain ⟨e0, e1, e2, e3, e4, e5, e6, e7⟩ := HC.out W hW
      clear hW
      go_simp
      rfl
    go_simp
    refine hK _ ?_
    clear hK K)
  refine wpFloat_nil ?_
  refine wpChain_step (fun K hK => ?_)
  go_simp
  go_at_call 43
  refine (HO.out _ HBW.out.drew).mono ?_
  rintro e' w5 ⟨r5, rfl, hr5, hb5⟩
  have HR5 := Lib.hid hr5
  have HB5 := Lib.hid hb5
  have ho5 : Only (fun b => x.blk = some b) W1 w5 := HC0.out.trans (Only.of_below (S := fun _ => False) HB5.out) (fun _ _ h => h.elim)
  have HO5 := Lib.hid ho5
  refine hK _ _ rfl (fun _ => HO5.out) ?_
  clear hK K hr5 hb5 ho5
  refine wpChain_step (fun K hK => ?_)
  go_simp
  refine hK _ _ rfl (fun _ => HO5.out) ?_
  clear hK K
  refine wpChain_step (fun K hK => ?_)
  go_simp
  refine hK _ _ rfl (fun _ => HO5.out.alloc _) ?_
  clear hK K
  obtain ⟨ra, rn, rc, rfl⟩ : ∃ a n c, r5 = .slice a n c := by obtain ⟨a, c, h, _⟩ := HR5.out; exact ⟨a, _, c, h⟩
  have hs5 := HS0.out.keep (w' := w5.alloc (Obj.cells #[.int .i64 i, .int .i64 e.k, .int .i64 e.n, .int .i64 e.t, .slice ra rn rc, .int .i64 e.c] 44)) fun g hg => (Below.heap_alloc _ _ _ (by have := HB5.out.size; have := HBLT.out g hg; have := HBW.out.size; have : W1.drew.heap.size = W1.heap.size := rfl; omega)).trans (HB5.out.block g (by have := HBLT.out g hg; have := HBW.out.size; have : W1.drew.heap.size = W1.heap.size := rfl; omega))
  have hsrc : Src (w5.alloc (Obj.cells #[.int .i64 i, .int .i64 e.k, .int .i64 e.n, .int .i64 e.t, .slice ra rn rc, .int .i64 e.c] 44)) 6 (.slice (some ⟨w5.heap.size, 0, none⟩) 1 1) 1 ([(i, (e, .slice ra rn rc))].flatMap ocl) := SlOwn.src (e := 44) (blk := some w5.heap.size) ⟨rfl, .inr ⟨_, 0, 1, _, rfl, rfl, World.alloc_heap_new w5 _, Nat.le_refl _, by simp [maxLen], by simp, rfl⟩⟩
  have hone : ∀ u ∈ [(i, (e, Value.slice ra rn rc))].flatMap ocl, u.oneCell' = true := fun u hu => by simp only [List.flatMap_cons, List.flatMap_nil, List.append_nil, ocl, ecl, List.mem_cons, List.not_mem_nil, or_false] at hu; rcases hu with rfl | rfl | rfl | rfl | rfl | rfl <;> rfl
  have HS5 := Lib.hid hs5
  have HSRC := Lib.hid hsrc
  have HONE := Lib.hid hone
  clear hs5 hsrc hone
  refine wpChain_step (fun K hK => ?_)
  refine wp_append_S (.tmp 53) (.tmp 58) 37 rfl 44 k3 _ 6 64 Try.underlying37 hk3 hz30 hz31 hz32 rfl (by omega) (.slice na x.outs.length nc) x.outs.length (x.outs.flatMap ocl) x.blk rfl HS5.out (.slice (some ⟨w5.heap.size, 0, none⟩) 1 1) 1 ([(i, (e, .slice ra rn rc))].flatMap ocl) rfl HSRC.out HONE.out (by simp only [maxLen]; omega) (by omega) ?_
  intro v6 w6 bk6 hown6 hgrow6 hat6
  have ho6 : Only (fun b => x.blk = some b) W1 w6 := (HO5.out.alloc _).grown hgrow6 (fun q hq _ => hq)
  obtain ⟨e0, e1, e2, e3, e4, e5, e6, e7⟩ := HC.out w6 ho6
  go_simp
  refine hK _ _ rfl (fun _ => ho6) ?_
  clear hK K
  refine wpChain_step (fun K hK => ?_)
  go_simp
  refine hK _ _ rfl (fun h => absurd h (by decide)) ?_
  clear hK K
  refine wpChain_step (fun K hK => ?_)
  go_simp
  refine hK _ _ rfl (fun h => absurd h (by decide)) ?_
  clear hK K
  obtain ⟨sa6, sc6, rfl⟩ := hown6.form
  refine wpChain_step (fun K hK => ?_)
  go_simp
  refine hK _ _ rfl (fun h => absurd h (by decide)) ?_
  clear hK K
  refine wpChain_nil ?_
  have HO6 := Lib.hid ho6
  have HOWN6 := Lib.hid hown6
  have HGR := Lib.hid hgrow6
  have HAT := Lib.hid hat6
  clear ho6 hown6 hgrow6 hat6 e0 e1 e2 e3 e4 e5 e6 e7
  go_wp2_with fail
  go_ret
  have hz1 : W1.drew.heap.size = W1.heap.size := rfl
  have hz0 : w.heap.size + 1 < W1.heap.size := heap_lt HN1'.out
  have hz5 : W1.heap.size ≤ w5.heap.size := by have := HB5.out.size; omega
  have hw5 : Below w.heap.size w w5 := HBW.out.drew.trans (HB5.out.mono (by rw [hz1]; exact HBW.out.size))
  have hza : (w5.alloc (Obj.cells #[.int .i64 i, .int .i64 e.k, .int .i64 e.n, .int .i64 e.t, .slice ra rn rc, .int .i64 e.c] 44)).heap.size = w5.heap.size + 1 := by simp
  have h5 := HH.out.below hw5
  have h5' : FreeAt w5 (fun b => D b ∨ (W1.heap.size ≤ b ∧ b < w5.heap.size)) gs m ns := h5.widen (fun b hb => .inl hb) (fun b hb hh => by
    rcases hb with hb | hb
    · exact h5.hD hb hh
    · have := HH.out.lt hh; omega)
  have hxw : ∀ b, x.own b → b < w.heap.size := fun b hb => (HH.out.notes x HX.out).lt hb
  have honly : Only x.own w5 (w6.setCell ⟨x.nb, 0, none⟩ (.slice sa6 (x.outs.length + 1) sc6)) := (((Only.refl _ _).alloc _).grown HGR.out (fun q hq _ => .inr hq)).setCell (fun _ => .inl rfl) _
  have hkeep : ∀ {r row}, RowAt w5 (fun b => D b ∨ (W1.heap.size ≤ b ∧ b < w5.heap.size)) r row → RowAt (w6.setCell ⟨x.nb, 0, none⟩ (.slice sa6 (x.outs.length + 1) sc6)) (fun b => D b ∨ (W1.heap.size ≤ b ∧ b < w5.heap.size)) r row := fun hx => hx.keep fun b hb hl => honly.block b hl (h5'.hDn b hb x HX.out)
  have hbk6 : ∀ g, bk6 = some g → x.blk = some g ∨ w5.heap.size + 1 ≤ g := fun g hg => by
    rcases HAT.out with e | e
    · exact .inl (e ▸ hg)
    · rw [hg] at e; injection e with e; exact .inr (by omega)
  have hnote : NoteAt (w6.setCell ⟨x.nb, 0, none⟩ (.slice sa6 (x.outs.length + 1) sc6)) (fun b => D b ∨ (W1.heap.size ≤ b ∧ b < w5.heap.size)) { x with outs := x.outs ++ [(i, (e, .slice ra rn rc))], v := .slice sa6 (x.outs.length + 1) sc6, blk := bk6 } := by
    refine ⟨?_, ?_, fun o ho => ?_⟩
    · have hh := heap_set (j := 0) ((HO6.out.block x.nb HNL.out HBLK.out).trans HXN.out.box) (.slice sa6 (x.outs.length + 1) sc6)
      simpa using hh
    · have := HOWN6.out.keep (w' := w6.setCell ⟨x.nb, 0, none⟩ (.slice sa6 (x.outs.length + 1) sc6)) fun g hg => heap_set_ne _ (fun e => by
        rcases hbk6 g hg with h | h
        · exact HBLK.out (e ▸ h)
        · have := HNBW.out; omega)
      simpa using this
    · rcases List.mem_append.1 ho with ho | ho
      · exact hkeep ((h5'.notes x HX.out).rows o ho)
      · rw [List.mem_singleton] at ho; subst ho
        exact hkeep (HR5.out.imp fun b hl hb => .inr ⟨hb, hl⟩)
  obtain ⟨ns2, hns2⟩ : ∃ ns2, ns2 = ns.map fun y => if y.k = x.k then { x with outs := x.outs ++ [(i, (e, .slice ra rn rc))], v := .slice sa6 (x.outs.length + 1) sc6, blk := bk6 } else y := ⟨_, rfl⟩
  have hF := h5'.renote HX.out { x with outs := x.outs ++ [(i, (e, .slice ra rn rc))], v := .slice sa6 (x.outs.length + 1) sc6, blk := bk6 } rfl rfl rfl hnote (by
    rcases HAT.out with e | e
    · exact .inl e
    · exact .inr ⟨_, e, by omega⟩) (fun b hb => by
    rcases hb with hb | hb
    · have := HD.out b hb; have := hw5.size; omega
    · exact hb.2) honly
  rw [← hns2] at hF
  have hfo : ∀ b, fown gs m.n ns2 b → fown gs m.n ns b ∨ w5.heap.size + 1 ≤ b := by
    rintro b (hb | ⟨y, hy, hb⟩)
    · exact .inl (.inl hb)
    · rw [hns2] at hy
      obtain ⟨z, hz, rfl⟩ := List.mem_map.1 hy
      split at hb
      · rcases hb with hb | hb
        · exact .inl (.inr ⟨x, HX.out, .inl hb⟩)
        · rcases hbk6 b hb with h | h
          · exact .inl (.inr ⟨x, HX.out, .inr h⟩)
          · exact .inr h
      · exact .inl (.inr ⟨z, hz, hb⟩)
  have hst : FStep w D gs m.n ns (w6.setCell ⟨x.nb, 0, none⟩ (.slice sa6 (x.outs.length + 1) sc6)) (fun b => D b ∨ (W1.heap.size ≤ b ∧ b < w5.heap.size)) gs m ns2 := by
    refine ⟨hF, rfl, rfl, fun b hb => ?_, fun b hb => .inl hb, fun b hb => ?_, fun b hb => ?_, (Only.of_below hw5).trans honly fun b _ hb => .inr ⟨x, HX.out, hb⟩⟩
    · rcases hfo b hb with h | h
      · exact .inl h
      · exact .inr (by omega)
    · rcases hb with hb | hb
      · exact .inl hb
      · exact .inr (by omega)
    · have hs := honly.size
      rcases hb with hb | hb
      · have := HD.out b hb; have := hw5.size; omega
      · omega
  refine ⟨_, rfl, _, _, _, [(i, (e, .slice a e.row.length cap))], some (w.heap.size + 1), hst, ?_, rfl, ⟨rfl, .inr ⟨_, 0, 1, _, rfl, rfl, (honly.block _ (by omega) (fun hh => by have := hxw _ hh; omega)).trans ((HB5.out.block _ (by omega)).trans HN1'.out), Nat.le_refl _, by simp [maxLen], by simp, rfl⟩⟩, fun g hg => ?_, fun o ho => ?_⟩
  · rw [hns2, List.map_map]
    unfold noteAdd
    rw [List.map_map]
    refine List.map_congr_left fun y hy => ?_
    simp only [Function.comp]
    by_cases ey : y.k = x.k
    · have := apart_eq HH.out.apart hy HX.out (.inl ey)
      subst this
      have e2 : y.abs.1 = m.under := HXK.out
      rw [if_pos rfl, if_pos e2]
      simp [NoteC.abs, outE']
    · have e2 : ¬ y.abs.1 = m.under := fun h => ey (by rw [HXK.out]; exact h)
      rw [if_neg ey, if_neg e2]
  · injection hg with hg
    subst hg
    refine ⟨by omega, fun hh => ?_, fun hh => ?_⟩
    · rcases hfo _ hh with h | h
      · have := HH.out.lt h; omega
      · omega
    · rcases hh with h | h
      · have := HD.out _ h; omega
      · omega
  · rw [List.mem_singleton] at ho
    subst ho
    exact (HR.out.keep fun b hb hl => hst.only.block b hl (HH.out.hD hb)).mono fun b hb => .inl hb
end walks
end Go.Proofs.Ytdnkfgnjeibjeaa.W

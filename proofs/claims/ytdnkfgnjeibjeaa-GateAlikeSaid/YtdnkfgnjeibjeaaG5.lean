import Derived.Test.YtdnkfgnjeibjeaaG4
namespace Go.Proofs.Ytdnkfgnjeibjeaa
open Go.RowKit Go.Shelf

abbrev OV := Nat × EV
def ocl (o : OV) : List Value := .int .i64 o.1 :: ecl o.2
theorem ocl_len (o : OV) : (ocl o).length = 6 := rfl

/-- No cell of what passed is more than one cell. -/
def okCells (l : List Value) : Prop := ∀ u ∈ l, u.oneCell' = true

/-- The box of what has passed so far. -/
structure OutBox (w : World) (Bo : Nat) (outs : List OV) (v : Value) (blk : Option Nat) : Prop where
  box : w.heap[Bo]? = some (.cells #[v] 37 (0, 0))
  own : SlOwn w 44 6 v outs.length (outs.flatMap ocl) blk

theorem OutBox.ne {w : World} {Bo : Nat} {outs : List OV} {v : Value} {blk : Option Nat} (h : OutBox w Bo outs v blk) : blk ≠ some Bo := by
  intro e
  subst e
  rcases h.own.2 with ⟨_, _, hn⟩ | ⟨g', o, cap, cur, hb, _, hg, _⟩
  · cases hn
  · injection hb with hb
    subst hb
    exact ne_of_cells hg h.box (by decide) rfl

theorem info44 : (Try.prog.info? 44).map (fun i => (i.zero, i.size, i.bytes)) = some (some (.agg #[.int .i64 0, .int .i64 0, .int .i64 0, .int .i64 0, .slice none 0 0, .int .i64 0]), 6, 64) := by kernel_rfl

/-- What a call of 'pass' leaves. -/
def Passes (w : World) (Bo : Nat) (outs news : List OV) (blk : Option Nat) (e : Ending) (w' : World) : Prop :=
  e = .returned (.tuple #[]) ∧ ∃ v' blk', OutBox w' Bo (outs ++ news) v' blk' ∧ Only (fun b => b = Bo ∨ blk = some b) w w' ∧ (blk' = blk ∨ ∃ g, blk' = some g ∧ w.heap.size ≤ g)

theorem run_checkKey_succ (n : Nat) (b : Bool) (k : Int) (W : World) : (Instr.checkKey b (n + 1) 3 (.int .i64 k)).run Try.prog W = .ok () W := by
  have u3 := Try.underlying3
  simp [Instr.checkKey, run_underlying u3]

theorem run_checkKey_int (b : Bool) (k : Int) (W : World) : (Instr.checkKey b 10000 3 (.int .i64 k)).run Try.prog W = .ok () W := run_checkKey_succ 9999 b k W

theorem lookup_empty (W : World) (r clock : Nat) (k : Int) (h : W.heap[r]? = some (.map #[] clock)) : (Instr.lookup 83 (.map (some r)) (.int .i64 k) false).run Try.prog W = .ok (.pointer none) W := by
  have hz : ∀ w, (zeroValue 93).run Try.prog w = .ok (.pointer none) w := fun w => by kernel_rfl
  have u := Try.underlying83
  have u3 := Try.underlying3
  have ho : (getObj r).run Try.prog W = .ok (.map #[] clock) W := by simp [getObj, Sem.run, h]
  simp [Instr.lookup, run_underlying u, run_underlying u3, ho, run_checkKey_int, Instr.findKey, Instr.findNow, hz]

section walks
set_option maxHeartbeats 1000000
set_option maxRecDepth 100000

theorem f78_any (w : World) (Bo : Nat) (outs news : List OV) (v x : Value) (blk : Option Nat) (h : OutBox w Bo outs v blk) (hs : Src w 6 x news.length (news.flatMap ocl)) (h1 : okCells (news.flatMap ocl)) (hb : outs.length + news.length ≤ 1000000) :
    Calls Try.prog 78 #[x, .pointer (some ⟨Bo, 0, none⟩)] w (Passes w Bo outs news blk) := by
  obtain ⟨c0, cf⟩ := blk1 h.box
  obtain ⟨a, c, rfl⟩ := h.own.form
  have hne := h.ne
  have hlt := heap_lt h.box
  obtain ⟨i0, hi0, hz0, hz1, hz2⟩ := info_parts info44
  have HO := Lib.hid h.own
  have HS := Lib.hid hs
  have H1 := Lib.hid h1
  have HB := Lib.hid h.box
  have HN := Lib.hid hne
  clear h hs h1 hne
  go_enter Try.func78, Try.ntmps78
  go_wp2_with (at_builtin; refine wpList_append_S rfl (.tmp 3) (.tmp 4) 37 rfl 44 i0 _ 6 64 Try.underlying37 hi0 hz0 hz1 hz2 rfl (by omega) (.slice a outs.length c) outs.length (outs.flatMap ocl) blk rfl HO.out x news.length (news.flatMap ocl) rfl HS.out H1.out (by simp only [maxLen]; omega) (by omega) ?_; intro v1 w1 bk1 hown1 hgrow1 hat1; obtain ⟨a1, c1, rfl⟩ := hown1.form; have hb1 : w1.heap[Bo]? = some (.cells #[.slice a outs.length c] 37 (0, 0)) := (hgrow1.block Bo hlt (fun e => HN.out e.symm)).trans HB.out; obtain ⟨d0, df⟩ := blk1 hb1; have HO1 := Lib.hid hown1; have HG1 := Lib.hid hgrow1; have HA1 := Lib.hid hat1; have HB1 := Lib.hid hb1; clear hown1 hgrow1 hat1 hb1)
  go_end0
  refine ⟨rfl, .slice a1 (outs.length + news.length) c1, bk1, ⟨?_, ?_⟩, ?_, ?_⟩
  · have := heap_set (j := 0) HB1.out (.slice a1 (outs.length + news.length) c1)
    simpa using this
  · have hk := HO1.out.keep (w' := w1.setCell ⟨Bo, 0, none⟩ (.slice a1 (outs.length + news.length) c1)) fun g hg => heap_set_ne _ ?_
    · simpa using hk
    · rintro rfl
      rcases HA1.out with e | e
      · exact HN.out (e.symm.trans hg)
      · rw [hg] at e
        injection e with e
        omega
  · exact ((Only.refl _ w).grown HG1.out (fun k hk _ => .inr hk)).setCell (fun _ => .inl rfl) _
  · rcases HA1.out with e | e
    · exact .inl e
    · exact .inr ⟨_, e, Nat.le_refl _⟩

theorem f77_any (w : World) (gs : GS) :
    Calls Try.prog 77 #[.pointer (some ⟨gs.G, 0, none⟩)] w fun e w' => e = .returned (.func (.func 93) #[] #[.pointer (some ⟨w.heap.size, 0, none⟩)]) ∧ w' = w.alloc (.cells #[.pointer (some ⟨gs.G, 0, none⟩)] 25) := by
  go_enter Try.func77, Try.ntmps77
  go_wp2
  go_ret
  exact ⟨rfl, rfl⟩

/-- A slice of its own of what passed. -/
def GivesOuts (w : World) (outs : List OV) (e : Ending) (w' : World) : Prop :=
  ∃ v blk, e = .returned v ∧ SlOwn w' 44 6 v outs.length (outs.flatMap ocl) blk ∧ (∀ g, blk = some g → w.heap.size ≤ g) ∧ Below w.heap.size w w'

/-- A record or a mark, looked at while nothing is noted: it passes. -/
theorem f44_plain (w : World) {D : Nat → Prop} (gs : GS) (m : Gm) (i : Nat) (e : Elem) (a : Option Addr) (len cap : Nat) (h : GateAt w D gs m) (_hi : i < m.n) (hk : (e.k == 3) = false) :
    Calls Try.prog 44 #[.pointer (some ⟨gs.G, 0, none⟩), .int .i64 i, ev e (.slice a len cap)] w (GivesOuts w [(i, (e, .slice a len cap))]) := by
  obtain ⟨g0, g1, g2, g3, g4, gf⟩ := h.cells
  have hk' : (e.k != 3) = true := by simp [bne, hk]
  have hmap := h.hmap
  have HM := Lib.hid hmap
  clear hmap
  go_enter Try.func44, Try.ntmps44
  go_wp2_with fail
  have hb0 : Below w.heap.size w ((w.alloc (Obj.cells #[Value.int IntKind.i64 e.k, Value.int IntKind.i64 e.n, Value.int IntKind.i64 e.t, Value.slice a len cap, Value.int IntKind.i64 e.c] 34)).alloc (Obj.cells #[Value.int IntKind.i64 ↑i, Value.int IntKind.i64 e.k, Value.int IntKind.i64 e.n, Value.int IntKind.i64 e.t, Value.slice a len cap, Value.int IntKind.i64 e.c] 44)) :=
    ((Below.refl _ _).alloc (Nat.le_refl _) _).alloc (by simp) _
  have hn0 := box2_snd w (Obj.cells #[Value.int IntKind.i64 e.k, Value.int IntKind.i64 e.n, Value.int IntKind.i64 e.t, Value.slice a len cap, Value.int IntKind.i64 e.c] 34) (Obj.cells #[Value.int IntKind.i64 ↑i, Value.int IntKind.i64 e.k, Value.int IntKind.i64 e.n, Value.int IntKind.i64 e.t, Value.slice a len cap, Value.int IntKind.i64 e.c] 44)
  generalize ((w.alloc (Obj.cells #[Value.int IntKind.i64 e.k, Value.int IntKind.i64 e.n, Value.int IntKind.i64 e.t, Value.slice a len cap, Value.int IntKind.i64 e.c] 34)).alloc (Obj.cells #[Value.int IntKind.i64 ↑i, Value.int IntKind.i64 e.k, Value.int IntKind.i64 e.n, Value.int IntKind.i64 e.t, Value.slice a len cap, Value.int IntKind.i64 e.c] 44)) = W0 at hb0 hn0 ⊢
  have h0 := h.below hb0
  obtain ⟨g0, g1, g2, g3, g4, gf⟩ := h0.cells
  have hlk := fun n => lookup_empty (W0.drewN n) gs.map gs.clock m.under h0.hmap
  have HN := Lib.hid hn0
  have HB := Lib.hid hb0
  clear h h0 hn0 hb0
  go_quiet (fail)
  clear hlk
  have hfin : GivesOuts w [(i, (e, .slice a len cap))] (.returned (.slice (some ⟨w.heap.size + 1, 0, none⟩) 1 1)) (W0.drewN nq) := by
    refine ⟨_, some (w.heap.size + 1), rfl, ⟨rfl, .inr ⟨_, 0, 1, _, rfl, rfl, HN.out, Nat.le_refl _, by simp [maxLen], by simp, rfl⟩⟩, fun g hg => by cases hg; omega, ?_⟩
    exact HB.out.trans ⟨rfl, rfl, rfl, Nat.le_refl _, fun _ _ => rfl⟩
  have HF := Lib.hid hfin
  clear hfin
  have hpn : ∀ W : World, (binOp .neq 93 (.pointer none) (.pointer none)).run Try.prog W = .ok (.bool false) W := fun W => by kernel_rfl
  rcases Int.lt_or_le 0 m.under with hu | hu
  · go_wp2_with fail
    go_ret
    exact HF.out
  · go_wp2_with fail
    go_ret
    exact HF.out

end walks
end Go.Proofs.Ytdnkfgnjeibjeaa

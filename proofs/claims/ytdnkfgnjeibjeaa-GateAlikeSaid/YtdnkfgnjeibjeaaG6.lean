import Derived.Test.YtdnkfgnjeibjeaaG5
import Derived.Laws.EntriesVeiled
namespace Go.Proofs.Ytdnkfgnjeibjeaa
open Go.RowKit Go.Shelf

theorem size34 : ∀ W : World, (sizeOf 34).run Try.prog W = .ok 5 W := fun W => by kernel_rfl

/-- 'q = q[1:]' of a queue that is not empty. -/
theorem slice_tail {w : World} {g o n cap : Nat} {xs : List Value} {blk : Option Nat} (h : SlOwn w 34 5 (.slice (some ⟨g, o, none⟩) n cap) n xs blk) (hn : 0 < n) :
    ∃ a', (∀ W : World, (Instr.slice 49 (.slice (some ⟨g, o, none⟩) n cap) (some (.int .i64 1)) none none).run Try.prog W = .ok (.slice (some a') (n - 1) (cap - 1)) W) ∧
      SlOwn w 34 5 (.slice (some a') (n - 1) (cap - 1)) (n - 1) (xs.drop 5) blk := by
  rcases h.2 with ⟨h, _⟩ | ⟨g', o', cap', cur, hb, hv, hg, hnc, hcm, hcs, htk⟩
  · cases h
  injection hv with ha _ hc
  injection ha with ha
  injection ha with hgg ho _
  subst hgg ho hc
  refine ⟨if cap = 1 then ⟨g, o, none⟩ else ⟨g, o + 5, none⟩, ?_, ?_⟩
  · intro W
    have u := Try.underlying49
    have h1 : ¬ n < 1 := by omega
    have h2 : (1 : Int) ≤ (n : Int) := by omega
    have e : (if cap = 1 then (some (⟨g, o, none⟩ : Addr)) else Option.map (fun x => x.add (1 * 5)) (some (⟨g, o, none⟩ : Addr))) = some (if cap = 1 then ⟨g, o, none⟩ else ⟨g, o + 5, none⟩) := by
      by_cases hc : cap = 1
      · rw [if_pos hc, if_pos hc]
      · rw [if_neg hc, if_neg hc]; rfl
    simp [Instr.slice, run_underlying u, Instr.sliceBounds, Instr.sliceBound, asIntOf, h2]
    simpa using e
  · have hl : xs.length = n * 5 := h.1
    refine ⟨by rw [List.length_drop, hl]; omega, .inr ⟨g, if cap = 1 then o else o + 5, cap - 1, cur, hb, ?_, hg, by omega, by simp only [maxLen] at hcm ⊢; omega, ?_, ?_⟩⟩
    · by_cases hc : cap = 1
      · rw [if_pos hc, if_pos hc]
      · rw [if_neg hc, if_neg hc]
    · split <;> omega
    · by_cases hc : cap = 1
      · have : n = 1 := by omega
        subst this
        simp [hl]
      · rw [if_neg hc, ← htk, List.drop_take, List.drop_drop]
        congr 1
        omega

def Inp.pop (x : Inp) (j : Nat) : Inp := { x with queue := x.queue.drop j }

/-- How many elements pass of a queue. -/
def plainLen (q : List EV) : Nat := (q.takeWhile EV.plain).length

theorem plainLen_le (q : List EV) : plainLen q ≤ q.length := by
  unfold plainLen
  exact (List.takeWhile_prefix _).length_le

theorem drop_plainLen (q : List EV) : q.drop (plainLen q) = q.dropWhile EV.plain := by
  unfold plainLen
  conv => lhs; arg 2; rw [← List.takeWhile_append_dropWhile (p := EV.plain) (l := q)]
  rw [List.drop_left]

theorem take_plainLen (q : List EV) : q.take (plainLen q) = q.takeWhile EV.plain := by
  unfold plainLen
  conv => lhs; arg 2; rw [← List.takeWhile_append_dropWhile (p := EV.plain) (l := q)]
  rw [List.take_left]

theorem plain_lt (q : List EV) (j : Nat) (hj : j < plainLen q) : ∃ h : j < q.length, q[j].plain = true := by
  have hl := plainLen_le q
  refine ⟨by omega, ?_⟩
  have hm : q[j] ∈ q.takeWhile EV.plain := by
    rw [← take_plainLen]
    exact List.mem_take_iff_getElem.2 ⟨j, by omega, rfl⟩
  exact List.all_eq_true.1 (List.all_takeWhile (p := EV.plain) (l := q)) _ hm

theorem plain_end (q : List EV) (h : plainLen q < q.length) : q[plainLen q].plain = false := by
  have hd := drop_plainLen q
  have hc := List.drop_eq_getElem_cons h
  rw [hd] at hc
  have := List.head?_dropWhile_not EV.plain q
  rw [hc] at this
  simpa [List.getElem?_eq_getElem h] using this

/-- A queue's beginning is taken away. -/
theorem GateAt.setQ {w w' : World} {D : Nat → Prop} {gs : GS} {m : Gm} (h : GateAt w D gs m) {i : Nat} (hi : i < m.n) (v' : Value) (q' : List EV) (hs : SlOwn w 34 5 v' q'.length (q'.flatMap ecl) (gs.qb i)) (hsub : ∀ p ∈ q', p ∈ (m.inp i).queue)
    (hI : w'.heap[gs.ib i]? = some (.cells (icl { m.inp i with queue := q' } v') 92 (0, 0))) (ho : ∀ b, b ≠ gs.ib i → w'.heap[b]? = w.heap[b]?) :
    GateAt w' D { gs with qv := fun j => if j = i then v' else gs.qv j } (m.upd i { m.inp i with queue := q' }) := by
  have hI' := h.hib i hi
  obtain ⟨cs, hc, hcs⟩ := h.harr
  refine ⟨h.pos, h.le, (ho _ (h.G_ne_ib hi)).trans h.hG, ⟨cs, (ho _ (h.arr_ne_ib hi)).trans hc, hcs⟩, fun j hj => ?_, h.inj, fun j hj => ?_, h.qinj, fun j hj p hp => ?_, h.hD, (ho _ (Ne.symm (h.ib_ne_map hi))).trans h.hmap⟩
  · by_cases e : j = i
    · subst e; simpa [Gm.upd] using hI
    · have := (ho _ (fun e' => e (h.inj j i hj hi e'))).trans (h.hib j hj)
      simpa [Gm.upd, e] using this
  · by_cases e : j = i
    · subst e
      have hk := hs.keep (w' := w') fun g hg => ho _ (h.qb_ne hj hg hI' (by decide))
      simpa [Gm.upd] using hk
    · have hk := (h.hq j hj).keep (w' := w') fun g hg => ho _ (h.qb_ne hj hg hI' (by decide))
      simpa [Gm.upd, e] using hk
  · have hp' : p ∈ (m.inp j).queue := by
      by_cases e : j = i
      · subst e; exact hsub p (by simpa [Gm.upd] using hp)
      · simpa [Gm.upd, e] using hp
    exact (h.hrow j hj p hp').keep fun b hb _ => ho b (fun e => h.hD b hb (e ▸ own_ib gs hi))

/-- The state of 'goOn' while it goes on: the gate, what has passed, its boxes. -/
structure AGood (B : Nat) (D : Nat → Prop) (gs gs' : GS) (Bo Bg Ba Bp Bn : Nat) (w0 : World) (m : Gm) (outs : List OV) (nx : Int) (v : Value) (blk : Option Nat) (W : World) : Prop where
  gate : GateAt W D gs' m
  like : gs.like gs'
  box : OutBox W Bo outs v blk
  new : ∀ g, blk = some g → B ≤ g
  hg : W.heap[Bg]? = some (.cells #[.pointer (some ⟨gs.G, 0, none⟩)] 25 (0, 0))
  ha : W.heap[Ba]? = some (.cells #[.func (.func 76) #[] #[.pointer (some ⟨Bg, 0, none⟩), .pointer (some ⟨Ba, 0, none⟩)]] 134 (0, 0))
  hp : W.heap[Bp]? = some (.cells #[.func (.func 78) #[] #[.pointer (some ⟨Bo, 0, none⟩)]] 135 (0, 0))
  hn : W.heap[Bn]? = some (.cells #[.int .i64 nx] 3 (0, 0))
  rows : ∀ o ∈ outs, RowAt W D o.2.2 o.2.1.row
  only : Only (fun b => gs.own m.n b ∨ B ≤ b) w0 W

/-- What does not turn from call to call. -/
structure ABase (B : Nat) (D : Nat → Prop) (Bo Bg Ba Bp Bn : Nat) (w0 : World) : Prop where
  hD : ∀ b, D b → b < B
  hB : B ≤ w0.heap.size
  bo : B ≤ Bo
  bg : B ≤ Bg
  ba : B ≤ Ba
  bp : B ≤ Bp
  bn : B ≤ Bn

section
variable {B : Nat} {D : Nat → Prop} {gs gs' : GS} {Bo Bg Ba Bp Bn : Nat} {w0 : World} {m : Gm} {outs : List OV} {nx : Int} {v : Value} {blk : Option Nat} {W W' : World}

theorem like_own (h : gs.like gs') (n b : Nat) : gs'.own n b ↔ gs.own n b := by
  unfold GS.own
  rw [h.G, h.arr, h.map, h.ib, h.qb]

theorem AGood.below (h : AGood B D gs gs' Bo Bg Ba Bp Bn w0 m outs nx v blk W) (hb : Below W.heap.size W W') : AGood B D gs gs' Bo Bg Ba Bp Bn w0 m outs nx v blk W' := by
  have hl : ∀ {b o}, W.heap[b]? = some o → W'.heap[b]? = some o := fun hh => (hb.block _ (heap_lt hh)).trans hh
  refine ⟨h.gate.below hb, h.like, ⟨hl h.box.box, h.box.own.keep fun g hg => ?_⟩, h.new, hl h.hg, hl h.ha, hl h.hp, hl h.hn, fun o ho => (h.rows o ho).below hb, h.only.trans (Only.of_below (S := fun _ => False) hb) (fun _ _ hf => hf.elim)⟩
  have := h.box.own
  subst hg
  exact hb.block _ this.blk_lt

/-- A step that turns the box of what passed, and its row. -/
theorem AGood.passed (hA : ABase B D Bo Bg Ba Bp Bn w0) (h : AGood B D gs gs' Bo Bg Ba Bp Bn w0 m outs nx v blk W) {news : List OV} {v' : Value} {blk' : Option Nat}
    (hbox : OutBox W' Bo (outs ++ news) v' blk') (ho : Only (fun b => b = Bo ∨ blk = some b) W W') (hblk : blk' = blk ∨ ∃ g, blk' = some g ∧ W.heap.size ≤ g) (hrows : ∀ o ∈ news, RowAt W D o.2.2 o.2.1.row) :
    AGood B D gs gs' Bo Bg Ba Bp Bn w0 m (outs ++ news) nx v' blk' W' := by
  have hne : ∀ {b : Nat} {c : Array Value} {t : TypeId} {f : Nat × Nat}, W.heap[b]? = some (Obj.cells c t f) → t ≠ 37 → t ≠ 44 → ¬ (b = Bo ∨ blk = some b) := by
    intro b c t f hb h1 h2 hh
    rcases hh with rfl | hh
    · exact ne_of_cells hb h.box.box h1 rfl
    · have := h.box.own
      rw [hh] at this
      rcases this.2 with ⟨_, _, hx⟩ | ⟨g', o, cap, cur, hx, _, hg, _⟩
      · cases hx
      · injection hx with hx; subst hx; exact ne_of_cells hb hg h2 rfl
  have hl : ∀ {b : Nat} {c : Array Value} {t : TypeId} {f : Nat × Nat}, W.heap[b]? = some (Obj.cells c t f) → t ≠ 37 → t ≠ 44 → W'.heap[b]? = some (Obj.cells c t f) := fun hb h1 h2 => (ho.block _ (heap_lt hb) (hne hb h1 h2)).trans hb
  have hsz : B ≤ W.heap.size := Nat.le_trans hA.hB h.only.size
  have hown : ∀ b, gs'.own m.n b → W'.heap[b]? = W.heap[b]? := by
    intro b hb
    rcases hb with rfl | rfl | rfl | ⟨i, hi, rfl⟩ | ⟨i, hi, hb⟩
    · exact (hl h.gate.hG (by decide) (by decide)).trans h.gate.hG.symm
    · obtain ⟨cs, hc, _⟩ := h.gate.harr; exact (hl hc (by decide) (by decide)).trans hc.symm
    · refine ho.block _ (heap_lt h.gate.hmap) ?_
      rintro (hh | hh)
      · exact ne_of_map h.box.box h.gate.hmap hh.symm
      · have := h.box.own
        rw [hh] at this
        rcases this.2 with ⟨_, _, hx⟩ | ⟨g', o, cap, cur, hx, _, hg, _⟩
        · cases hx
        · injection hx with hx; exact ne_of_map hg h.gate.hmap hx.symm
    · exact (hl (h.gate.hib i hi) (by decide) (by decide)).trans (h.gate.hib i hi).symm
    · obtain ⟨cur, hc⟩ := h.gate.qb_cells hi hb
      exact (hl hc (by decide) (by decide)).trans hc.symm
  have hrow : ∀ {r row}, RowAt W D r row → RowAt W' D r row := fun hr => hr.keep fun b hb hlt => ho.block b hlt (fun hh => by
    have := hA.hD b hb
    rcases hh with rfl | hh
    · have := hA.bo; omega
    · have := h.new b hh; omega)
  refine ⟨?_, h.like, hbox, ?_, hl h.hg (by decide) (by decide), hl h.ha (by decide) (by decide), hl h.hp (by decide) (by decide), hl h.hn (by decide) (by decide), fun o hm => ?_, h.only.trans ho (fun x _ hx => ?_)⟩
  · have g := h.gate
    obtain ⟨cs, hc, hcs⟩ := g.harr
    exact ⟨g.pos, g.le, hl g.hG (by decide) (by decide), ⟨cs, hl hc (by decide) (by decide), hcs⟩, fun i hi => hl (g.hib i hi) (by decide) (by decide), g.inj, fun i hi => (g.hq i hi).keep fun b hb => hown b (own_qb gs' hi hb), g.qinj, fun i hi p hp => hrow (g.hrow i hi p hp), g.hD, (hown _ (.inr (.inr (.inl rfl)))).trans g.hmap⟩
  · intro g hg
    rcases hblk with e | ⟨g', e, hle⟩
    · exact h.new g (e ▸ hg)
    · rw [hg] at e; injection e with e; omega
  · rcases List.mem_append.1 hm with hm | hm
    · exact hrow (h.rows o hm)
    · exact hrow (hrows o hm)
  · rcases hx with rfl | hx
    · exact .inr hA.bo
    · exact .inr (h.new x hx)

/-- A step that turns one of the gate's own blocks. -/
theorem AGood.owned (h : AGood B D gs gs' Bo Bg Ba Bp Bn w0 m outs nx v blk W) {gs2 : GS} {m2 : Gm} (hn : m2.n = m.n) (hl2 : gs.like gs2) (hgate : GateAt W' D gs2 m2) (ho : Only (gs'.own m.n) W W') :
    AGood B D gs gs2 Bo Bg Ba Bp Bn w0 m2 outs nx v blk W' := by
  have hne : ∀ {b : Nat} {c : Array Value} {t : TypeId} {f : Nat × Nat}, W.heap[b]? = some (Obj.cells c t f) → t ≠ 88 → t ≠ 90 → t ≠ 92 → t ≠ 34 → ¬ gs'.own m.n b := by
    intro b c t f hb h1 h2 h3 h4 hh
    rcases hh with rfl | rfl | rfl | ⟨i, hi, rfl⟩ | ⟨i, hi, hq⟩
    · exact ne_of_cells hb h.gate.hG h1 rfl
    · obtain ⟨cs, hc, _⟩ := h.gate.harr; exact ne_of_cells hb hc h2 rfl
    · exact ne_of_map hb h.gate.hmap rfl
    · exact ne_of_cells hb (h.gate.hib i hi) h3 rfl
    · obtain ⟨cur, hc⟩ := h.gate.qb_cells hi hq; exact ne_of_cells hb hc h4 rfl
  have hl : ∀ {b : Nat} {c : Array Value} {t : TypeId} {f : Nat × Nat}, W.heap[b]? = some (Obj.cells c t f) → t ≠ 88 → t ≠ 90 → t ≠ 92 → t ≠ 34 → W'.heap[b]? = some (Obj.cells c t f) := fun hb h1 h2 h3 h4 => (ho.block _ (heap_lt hb) (hne hb h1 h2 h3 h4)).trans hb
  refine ⟨hgate, hl2, ⟨hl h.box.box (by decide) (by decide) (by decide) (by decide), h.box.own.keep fun g hg => ?_⟩, h.new, hl h.hg (by decide) (by decide) (by decide) (by decide), hl h.ha (by decide) (by decide) (by decide) (by decide), hl h.hp (by decide) (by decide) (by decide) (by decide), hl h.hn (by decide) (by decide) (by decide) (by decide), fun o hm => (h.rows o hm).keep fun b hb hlt => ho.block b hlt (fun hh => h.gate.hD b hb hh), ?_⟩
  · have := h.box.own
    rw [hg] at this
    rcases this.2 with ⟨_, _, hx⟩ | ⟨g', o, cap, cur, hx, _, hgg, _⟩
    · cases hx
    · injection hx with hx
      subst hx
      exact ho.block _ (heap_lt hgg) (hne hgg (by decide) (by decide) (by decide) (by decide))
  · rw [hn]
    exact h.only.trans ho (fun x _ hx => .inl ((like_own h.like _ _).1 hx))
end

end Go.Proofs.Ytdnkfgnjeibjeaa

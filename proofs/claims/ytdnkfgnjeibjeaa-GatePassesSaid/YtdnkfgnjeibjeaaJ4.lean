import Derived.Test.YtdnkfgnjeibjeaaJ3
import Derived.Laws.IdiomRangeMap
import Derived.Maps.RangeRun
namespace Go.Proofs.Ytdnkfgnjeibjeaa.W
open Go.RowKit Go.Shelf

/-- What was noted for a barrier, with its place. -/
structure NoteC where
  k : Int
  outs : List OV
  whole : Bool
  nb : Nat
  v : Value
  blk : Option Nat
  born : Nat

def NoteC.own (x : NoteC) (b : Nat) : Prop := b = x.nb ∨ x.blk = some b
def NoteC.entry (x : NoteC) : MapEntry := { key := .int .i64 x.k, val := .pointer (some ⟨x.nb, 0, none⟩), born := x.born }
def NoteC.pair (x : NoteC) : Int × Value := (x.k, .pointer (some ⟨x.nb, 0, none⟩))
/-- What the notes tell: the number, what was noted, whether it is complete. -/
abbrev Note := Int × List (Nat × Elem) × Bool
def outE' (l : List OV) : List (Nat × Elem) := l.map fun o => (o.1, o.2.1)
def NoteC.abs (x : NoteC) : Note := (x.k, outE' x.outs, x.whole)

structure NoteAt (w : World) (D : Nat → Prop) (x : NoteC) : Prop where
  box : w.heap[x.nb]? = some (.cells #[x.v, .bool x.whole] 100 (0, 0))
  own : SlOwn w 44 6 x.v x.outs.length (x.outs.flatMap ocl) x.blk
  rows : ∀ o ∈ x.outs, RowAt w D o.2.2 o.2.1.row

/-- A gate of the free kind in memory: nothing waits. -/
structure FreeAt (w : World) (D : Nat → Prop) (gs : GS) (m : Gm) (ns : List NoteC) : Prop where
  gate : GateAt w D gs m
  al : m.al = false
  emp : ∀ i, i < m.n → (m.inp i).queue = []
  ents : gs.ents = (ns.map NoteC.entry).toArray
  stamp : ∀ x ∈ ns, x.born < gs.clock
  notes : ∀ x ∈ ns, NoteAt w D x
  apart : ns.Pairwise fun x y => x.k ≠ y.k ∧ x.born ≠ y.born ∧ ∀ b, x.own b → ¬ y.own b
  hDn : ∀ b, D b → ∀ x ∈ ns, ¬ x.own b

def fown (gs : GS) (n : Nat) (ns : List NoteC) (b : Nat) : Prop := gs.own n b ∨ ∃ x ∈ ns, x.own b

section
variable {w w' : World} {D : Nat → Prop} {gs gs' : GS} {m m' : Gm} {ns : List NoteC}

theorem NoteAt.lt {x : NoteC} (h : NoteAt w D x) {b : Nat} (hb : x.own b) : b < w.heap.size := by
  rcases hb with rfl | hb
  · exact heap_lt h.box
  · exact h.own.lt_of hb

/-- A note's blocks are cells of two types. -/
theorem NoteAt.cells {x : NoteC} (h : NoteAt w D x) {b : Nat} (hb : x.own b) : ∃ c t, w.heap[b]? = some (.cells c t (0, 0)) ∧ (t = 100 ∨ t = 44) := by
  rcases hb with rfl | hb
  · exact ⟨_, _, h.box, .inl rfl⟩
  · rcases h.own.2 with ⟨_, _, hn⟩ | ⟨g', o, cap, cur, hb', _, hc, _⟩
    · rw [hb] at hn; cases hn
    · rw [hb] at hb'; injection hb' with hb'; subst hb'; exact ⟨cur, 44, hc, .inr rfl⟩

theorem NoteAt.keep {x : NoteC} (h : NoteAt w D x) (hk : ∀ b, b < w.heap.size → x.own b ∨ D b → w'.heap[b]? = w.heap[b]?) : NoteAt w' D x :=
  ⟨(hk _ (heap_lt h.box) (.inl (.inl rfl))).trans h.box, h.own.keep fun g hg => hk g (h.own.lt_of hg) (.inl (.inr hg)), fun o ho => (h.rows o ho).keep fun b hb hl => hk b hl (.inr hb)⟩

theorem NoteAt.mono {D' : Nat → Prop} {x : NoteC} (h : NoteAt w D x) (hd : ∀ b, D b → D' b) : NoteAt w D' x := ⟨h.box, h.own, fun o ho => (h.rows o ho).mono hd⟩

theorem FreeAt.lt (h : FreeAt w D gs m ns) {b : Nat} (hb : fown gs m.n ns b) : b < w.heap.size := by
  rcases hb with hb | ⟨x, hx, hb⟩
  · exact h.gate.lt hb
  · exact (h.notes x hx).lt hb

/-- No block of a gate is one of its notes'. -/
theorem FreeAt.own_ne (h : FreeAt w D gs m ns) {b : Nat} (hb : gs.own m.n b) {x : NoteC} (hx : x ∈ ns) : ¬ x.own b := by
  intro hb'
  obtain ⟨c, t, hc, ht⟩ := (h.notes x hx).cells hb'
  have g := h.gate
  rcases hb with rfl | rfl | rfl | ⟨i, hi, rfl⟩ | ⟨i, hi, hq⟩
  · exact ne_of_cells hc g.hG (by rcases ht with rfl | rfl <;> decide) rfl
  · obtain ⟨cs, hcs, _⟩ := g.harr; exact ne_of_cells hc hcs (by rcases ht with rfl | rfl <;> decide) rfl
  · exact ne_of_map hc g.hmap rfl
  · exact ne_of_cells hc (g.hib i hi) (by rcases ht with rfl | rfl <;> decide) rfl
  · obtain ⟨cur, hcq⟩ := g.qb_cells hi hq
    exact ne_of_cells hc hcq (by rcases ht with rfl | rfl <;> decide) rfl

theorem FreeAt.pairs (h : FreeAt w D gs m ns) : Ents gs.ents.toList (ns.map NoteC.pair) := by
  rw [h.ents]
  unfold Ents
  simp only [List.map_map]
  rfl

/-- What is turned is the gate's own. -/
theorem FreeAt.turn (h : FreeAt w D gs m ns) (hg : GateAt w' D gs' m') (he : gs'.ents = gs.ents) (hc : gs'.clock = gs.clock) (hal : m'.al = false) (hem : ∀ i, i < m'.n → (m'.inp i).queue = []) (ho : Only (gs.own m.n) w w') : FreeAt w' D gs' m' ns :=
  ⟨hg, hal, hem, he.trans h.ents, fun x hx => by rw [hc]; exact h.stamp x hx, fun x hx => (h.notes x hx).keep fun b hl hb => ho.block b hl fun hh => by
    rcases hb with hb | hb
    · exact h.own_ne hh hx hb
    · exact h.gate.hD b hb hh, h.apart, h.hDn⟩

theorem FreeAt.below (h : FreeAt w D gs m ns) (hb : Below w.heap.size w w') : FreeAt w' D gs m ns :=
  h.turn (h.gate.below hb) rfl rfl h.al h.emp (Only.of_below hb)

theorem GateAt.hold' (h : GateAt w D gs m) (hk : ∀ b, b < w.heap.size → gs.own m.n b ∨ D b → w'.heap[b]? = w.heap[b]?) : GateAt w' D gs m := by
  have hl : ∀ {b o}, gs.own m.n b → w.heap[b]? = some o → w'.heap[b]? = some o := fun hb hh => (hk _ (heap_lt hh) (.inl hb)).trans hh
  obtain ⟨cs, hc, hcs⟩ := h.harr
  refine ⟨h.pos, h.le, hl (own_G gs m.n) h.hG, ⟨cs, hl (.inr (.inl rfl)) hc, hcs⟩, fun i hi => hl (own_ib gs hi) (h.hib i hi), h.inj, fun i hi => (h.hq i hi).keep fun g hg => ?_, h.qinj, fun i hi p hp => (h.hrow i hi p hp).keep fun b hb hlt => hk b hlt (.inr hb), h.hD, hl (.inr (.inr (.inl rfl))) h.hmap⟩
  have := h.hq i hi
  rw [hg] at this
  exact hk g this.blk_lt (.inl (own_qb gs hi hg))

/-- A gate whose own blocks, whose notes', and whose rows lie as they lay. -/
theorem FreeAt.hold (h : FreeAt w D gs m ns) (hk : ∀ b, b < w.heap.size → fown gs m.n ns b ∨ D b → w'.heap[b]? = w.heap[b]?) : FreeAt w' D gs m ns :=
  ⟨h.gate.hold' fun b hl hb => hk b hl (hb.imp .inl id), h.al, h.emp, h.ents, h.stamp, fun x hx => (h.notes x hx).keep fun b hl hb => hk b hl (hb.imp (fun hb => .inr ⟨x, hx, hb⟩) id), h.apart, h.hDn⟩

theorem RowAt.mono' {D D' : Nat → Prop} {r : Value} {row : List Val} (h : RowAt w D r row) (hd : ∀ b, D b → D' b) : RowAt w D' r row := h.mono hd

theorem FreeAt.widen {D' : Nat → Prop} (h : FreeAt w D gs m ns) (hd : ∀ b, D b → D' b) (hn : ∀ b, D' b → ¬ fown gs m.n ns b) : FreeAt w D' gs m ns :=
  ⟨⟨h.gate.pos, h.gate.le, h.gate.hG, h.gate.harr, h.gate.hib, h.gate.inj, h.gate.hq, h.gate.qinj, fun i hi p hp => (h.gate.hrow i hi p hp).mono hd, fun b hb hh => hn b hb (.inl hh), h.gate.hmap⟩, h.al, h.emp, h.ents, h.stamp, fun x hx => (h.notes x hx).mono hd, h.apart, fun b hb x hx hh => hn b hb (.inr ⟨x, hx, hh⟩)⟩

theorem FreeAt.hD (h : FreeAt w D gs m ns) {b : Nat} (hb : D b) : ¬ fown gs m.n ns b := by
  rintro (hh | ⟨x, hx, hh⟩)
  · exact h.gate.hD b hb hh
  · exact h.hDn b hb x hx hh
end

/-- Where a note stands. -/
def noteOf (ns : List NoteC) (k : Int) : Option NoteC := ns.find? (fun x => x.k == k)

theorem keyAt_notes (ns : List NoteC) (k : Int) (i : Nat) : (keyAt (ns.map NoteC.pair) k i).map Prod.snd = (noteOf ns k).map fun x => .pointer (some ⟨x.nb, 0, none⟩) := by
  induction ns generalizing i with
  | nil => rfl
  | cons x ns ih =>
    by_cases e : x.k = k
    · have e' : x.pair.1 = k := e
      have e2 : (x.k == k) = true := by simpa using e
      simp only [List.map_cons, keyAt, if_pos e', noteOf, List.find?_cons, e2]
      rfl
    · have e' : ¬ x.pair.1 = k := e
      have e2 : (x.k == k) = false := by simpa using e
      simp only [List.map_cons, keyAt, if_neg e', noteOf, List.find?_cons, e2]
      exact ih (i + 1)

theorem valAt_notes (ns : List NoteC) (k : Int) : (valAt (ns.map NoteC.pair) k).getD (.pointer none) = match noteOf ns k with | some x => .pointer (some ⟨x.nb, 0, none⟩) | none => .pointer none := by
  unfold valAt
  rw [keyAt_notes]
  cases noteOf ns k <;> rfl

theorem valAt_some (ns : List NoteC) (k : Int) : (valAt (ns.map NoteC.pair) k).isSome = (noteOf ns k).isSome := by
  unfold valAt
  rw [keyAt_notes]
  cases noteOf ns k <;> rfl

theorem noteOf_mem {ns : List NoteC} {k : Int} {x : NoteC} (h : noteOf ns k = some x) : x ∈ ns ∧ x.k = k := by
  unfold noteOf at h
  exact ⟨List.mem_of_find?_eq_some h, by simpa using List.find?_some h⟩

theorem keyAt_none_iff {ns : List NoteC} {k : Int} : keyAt (ns.map NoteC.pair) k 0 = none ↔ noteOf ns k = none := by
  have := keyAt_notes ns k 0
  cases h : keyAt (ns.map NoteC.pair) k 0 <;> cases h2 : noteOf ns k <;> rw [h, h2] at this <;> simp at this ⊢

theorem eraseIdx_filter {ns : List NoteC} {k : Int} (hp : ns.Pairwise fun x y => x.k ≠ y.k) : ∀ {i j : Nat} {v : Value}, keyAt (ns.map NoteC.pair) k i = some (i + j, v) → ns.eraseIdx j = ns.filter (fun x => x.k != k) := by
  induction ns with
  | nil => intro i j v h; cases h
  | cons x ns ih =>
    intro i j v h
    obtain ⟨h1, h2⟩ := List.pairwise_cons.1 hp
    by_cases e : x.k = k
    · have e' : x.pair.1 = k := e
      simp only [List.map_cons, keyAt, if_pos e', Option.some.injEq, Prod.mk.injEq] at h
      obtain rfl : j = 0 := by omega
      have hall : ∀ y ∈ ns, (y.k != k) = true := fun y hy => by have := h1 y hy; rw [e] at this; simpa using fun e => this e.symm
      simp only [List.eraseIdx_cons_zero, List.filter_cons, e, bne_self_eq_false, Bool.false_eq_true, if_false]
      exact (List.filter_eq_self.2 hall).symm
    · have e' : ¬ x.pair.1 = k := e
      simp only [List.map_cons, keyAt, if_neg e'] at h
      have hge : ∀ (l : List (Int × Value)) (k : Int) (i p : Nat) (v : Value), keyAt l k i = some (p, v) → i ≤ p := by
        intro l k
        induction l with
        | nil => intro i p v h; cases h
        | cons y l ihl =>
          intro i p v h
          simp only [keyAt] at h
          split at h
          · simp only [Option.some.injEq, Prod.mk.injEq] at h; omega
          · have := ihl _ _ _ h; omega
      have := hge _ _ _ _ _ h
      obtain ⟨j', rfl⟩ : ∃ j', j = j' + 1 := ⟨j - 1, by omega⟩
      have hbn : (x.k != k) = true := by simpa using e
      rw [List.eraseIdx_cons_succ, List.filter_cons, if_pos hbn]
      exact congrArg (x :: ·) (ih h2 (i := i + 1) (by rw [h]; congr 2; omega))

/-- The map without a key. -/
def GS.less (gs : GS) (ns : List NoteC) (k : Int) : GS := { gs with ents := ((ns.filter (fun x => x.k != k)).map NoteC.entry).toArray }

theorem delete_notes (W : World) (r clock : Nat) (k : Int) (t : TypeId) {ns : List NoteC} (hp : ns.Pairwise fun x y => x.k ≠ y.k) (h : W.heap[r]? = some (.map (ns.map NoteC.entry).toArray clock)) :
    (Builtin.delete_ #[83, 3] t #[.map (some r), .int .i64 k]).run Try.prog W = .ok (.tuple #[]) (W.putObj r (.map ((ns.filter (fun x => x.k != k)).map NoteC.entry).toArray clock)) := by
  have he : Ents (ns.map NoteC.entry).toArray.toList (ns.map NoteC.pair) := by
    unfold Ents
    simp only [List.map_map]
    rfl
  cases hk : keyAt (ns.map NoteC.pair) k 0 with
  | none =>
    rw [delete_none W r clock k t he h hk]
    have : ns.filter (fun x => x.k != k) = ns := by
      refine List.filter_eq_self.2 fun x hx => ?_
      have := keyAt_none_iff.1 hk
      unfold noteOf at this
      have := List.find?_eq_none.1 this x hx
      simpa [bne] using this
    rw [this]
  | some p =>
    obtain ⟨i, v⟩ := p
    rw [delete_ents W r clock k t he h hk]
    have := eraseIdx_filter hp (i := 0) (j := i) (v := v) (by rw [hk, Nat.zero_add])
    have h2 : (ns.map NoteC.entry).toArray.eraseIdxIfInBounds i = ((ns.filter (fun x => x.k != k)).map NoteC.entry).toArray := by
      rw [← this, eraseIdx_map' NoteC.entry]
      unfold Array.eraseIdxIfInBounds
      split
      · simp
      · rename_i hh
        rw [List.eraseIdx_of_length_le (by simpa using hh)]
    rw [h2]

theorem FreeAt.keys {w : World} {D : Nat → Prop} {gs : GS} {m : Gm} {ns : List NoteC} (h : FreeAt w D gs m ns) : ns.Pairwise fun x y => x.k ≠ y.k := h.apart.imp fun h => h.1

/-- Some notes go. -/
theorem FreeAt.sub {w w' : World} {D : Nat → Prop} {gs : GS} {m : Gm} {ns ns' : List NoteC} (h : FreeAt w D gs m ns) (hs : ns'.Sublist ns) (hm : w'.heap[gs.map]? = some (.map (ns'.map NoteC.entry).toArray gs.clock)) (ho : ∀ b, b ≠ gs.map → b < w.heap.size → w'.heap[b]? = w.heap[b]?) :
    FreeAt w' D { gs with ents := (ns'.map NoteC.entry).toArray } m ns' := by
  refine ⟨h.gate.setMap _ _ hm ho, h.al, h.emp, rfl, fun x hx => h.stamp x (hs.subset hx), fun x hx => (h.notes x (hs.subset hx)).keep fun b hl hb => ho b (fun e => ?_) hl, h.apart.sublist hs, fun b hb x hx => h.hDn b hb x (hs.subset hx)⟩
  rcases hb with hb | hb
  · exact h.own_ne (b := b) (.inr (.inr (.inl e))) (hs.subset hx) hb
  · exact h.gate.hD b hb (.inr (.inr (.inl e)))

/-- A note more. -/
theorem FreeAt.add {w w' : World} {D : Nat → Prop} {gs : GS} {m : Gm} {ns : List NoteC} (h : FreeAt w D gs m ns) (hDw : ∀ b, D b → b < w.heap.size) {k : Int} {nb : Nat} (hk : noteOf ns k = none) (hnb : w.heap.size ≤ nb) (hbox : w'.heap[nb]? = some (.cells #[.slice none 0 0, .bool false] 100 (0, 0)))
    (hg : GateAt w' D { gs with ents := gs.ents.push { key := .int .i64 k, val := .pointer (some ⟨nb, 0, none⟩), born := gs.clock }, clock := gs.clock + 1 } m) (ho : Only (fun b => b = gs.map) w w') :
    FreeAt w' D { gs with ents := gs.ents.push { key := .int .i64 k, val := .pointer (some ⟨nb, 0, none⟩), born := gs.clock }, clock := gs.clock + 1 } m (ns ++ [⟨k, [], false, nb, .slice none 0 0, none, gs.clock⟩]) := by
  refine ⟨hg, h.al, h.emp, ?_, fun x hx => ?_, fun x hx => ?_, ?_, fun b hb x hx hh => ?_⟩
  · show gs.ents.push _ = _
    rw [h.ents, List.map_append, List.push_toArray]
    rfl
  · show x.born < gs.clock + 1
    rcases List.mem_append.1 hx with hx | hx
    · have := h.stamp x hx; omega
    · rw [List.mem_singleton] at hx; subst hx; exact Nat.lt_succ_self _
  · rcases List.mem_append.1 hx with hx | hx
    · refine (h.notes x hx).keep fun b hl hb => ho.block b hl fun e => ?_
      rcases hb with hb | hb
      · exact h.own_ne (b := b) (.inr (.inr (.inl e))) hx hb
      · exact h.gate.hD b hb (.inr (.inr (.inl e)))
    · rw [List.mem_singleton] at hx; subst hx
      exact ⟨hbox, SlOwn.nil _ _ _, fun o ho => by cases ho⟩
  · refine List.pairwise_append.2 ⟨h.apart, List.pairwise_singleton _ _, fun x hx y hy => ?_⟩
    rw [List.mem_singleton] at hy; subst hy
    refine ⟨fun e => ?_, fun e => ?_, fun b hb hb' => ?_⟩
    · unfold noteOf at hk
      have := List.find?_eq_none.1 hk x hx
      simp at this
      exact this e
    · have h2 := h.stamp x hx
      have e' : x.born = gs.clock := e
      omega
    · have h2 := (h.notes x hx).lt hb
      rcases hb' with hb' | hb'
      · have hb'' : b = nb := hb'
        omega
      · cases hb'
  · rcases List.mem_append.1 hx with hx | hx
    · exact h.hDn b hb x hx hh
    · rw [List.mem_singleton] at hx; subst hx
      have := hDw b hb
      rcases hh with hh | hh
      · have hh' : b = nb := hh
        omega
      · cases hh
end Go.Proofs.Ytdnkfgnjeibjeaa.W

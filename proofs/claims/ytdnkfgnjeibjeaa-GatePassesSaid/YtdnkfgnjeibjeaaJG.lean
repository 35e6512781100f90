import Derived.Test.YtdnkfgnjeibjeaaJF
import Derived.Test.YtdnkfgnjeibjeaaHB
namespace Go.Proofs.Ytdnkfgnjeibjeaa.W
open Go.RowKit Go.Shelf

/-- A row that is owned: one of its cells turns. -/
theorem SlOwn.set1 {w : World} {e : TypeId} {g o n cap : Nat} {xs : List Value} (h : SlOwn w e 1 (.slice (some ⟨g, o, none⟩) n cap) n xs (some g)) {i : Nat} (hi : i < n) (u : Value) : SlOwn (w.setCell ⟨g, o + i, none⟩ u) e 1 (.slice (some ⟨g, o, none⟩) n cap) n (xs.set i u) (some g) := by
  obtain ⟨hl, h⟩ := h
  rcases h with ⟨hv, _⟩ | ⟨g', o', cap', cur, hb, hv, hg, hnc, hcm, hcs, htk⟩
  · cases hv
  · injection hb with hb
    injection hv with ha _ hc
    injection ha with ha
    injection ha with h1 h2
    subst hb h2 hc
    refine ⟨by simpa using hl, .inr ⟨g, o, cap, _, rfl, rfl, heap_set hg u, hnc, hcm, by simpa using hcs, ?_⟩⟩
    rw [Array.toList_setIfInBounds]
    simp only [Nat.mul_one] at *
    rw [← htk]
    refine List.ext_getElem? fun j => ?_
    simp only [List.getElem?_take, List.getElem?_drop, List.getElem?_set]
    by_cases e1 : o + i = o + j
    · have e2 : i = j := by omega
      subst e2
      simp only [if_true, List.length_take, List.length_drop, hi]
      have : o + i < cur.size := by omega
      have h2 : i < min n (cur.toList.length - o) := by simp; omega
      rw [if_pos (by simpa using this), if_pos h2]
    · have e2 : ¬ i = j := fun h => e1 (by rw [h])
      rw [if_neg e1, if_neg e2]

/-- Lists in a row of their own (with room behind); their blocks are apart, and apart from the rows' blocks. -/
structure LA (wr : World) (n B o cap : Nat) (us : Nat → Value) (evs : Nat → List EV) (qb : Nat → Option Nat) (D : Nat → Prop) : Prop where
  arr : SlOwn wr 49 1 (.slice (some ⟨B, o, none⟩) n cap) n ((List.range n).map us) (some B)
  own : ∀ i, i < n → SlOwn wr 34 5 (us i) (evs i).length ((evs i).flatMap ecl) (qb i)
  rows : ∀ i, i < n → ∀ p ∈ evs i, RowAt wr D p.2 p.1.row
  inj : ∀ i j g, i < n → j < n → qb i = some g → qb j = some g → i = j
  hD : ∀ b, D b → b < wr.heap.size ∧ b ≠ B ∧ ∀ i, i < n → qb i ≠ some b

/-- Their blocks. -/
def lown (n B : Nat) (qb : Nat → Option Nat) (b : Nat) : Prop := b = B ∨ ∃ i, i < n ∧ qb i = some b

section
variable {wr w1 w2 w' : World} {n B o cap i : Nat} {us : Nat → Value} {evs : Nat → List EV} {qb : Nat → Option Nat} {D D' : Nat → Prop}

theorem LA.heapB (h : LA wr n B o cap us evs qb D) : ∃ cs, wr.heap[B]? = some (.cells cs 49 (0, 0)) := by
  rcases h.arr.2 with ⟨hv, _⟩ | ⟨g', o', cap', cur, hb, hv, hg, _⟩
  · cases hv
  · injection hb with hb; subst hb; exact ⟨cur, hg⟩

theorem LA.qbB (h : LA wr n B o cap us evs qb D) {i g : Nat} (hi : i < n) (hg : qb i = some g) : g ≠ B ∧ g < wr.heap.size := by
  obtain ⟨cs, hc⟩ := h.heapB
  have := h.own i hi
  rw [hg] at this
  refine ⟨fun e => ?_, this.blk_lt⟩
  subst e
  rcases this.2 with ⟨_, _, e⟩ | ⟨g', o, cap, cur, e, _, hq, _⟩
  · cases e
  · injection e with e; subst e
    rw [hc] at hq; injection hq with hq; injection hq with _ hq; cases hq

theorem LA.lt (h : LA wr n B o cap us evs qb D) {b : Nat} (hb : lown n B qb b) : b < wr.heap.size := by
  rcases hb with rfl | ⟨i, hi, hb⟩
  · obtain ⟨cs, hc⟩ := h.heapB; exact heap_lt hc
  · exact (h.qbB hi hb).2

theorem LA.keep (h : LA wr n B o cap us evs qb D) (hs : wr.heap.size ≤ w'.heap.size) (hk : ∀ b, (lown n B qb b ∨ D b) → b < wr.heap.size → w'.heap[b]? = wr.heap[b]?) : LA w' n B o cap us evs qb D :=
  ⟨h.arr.keep fun g hg => by injection hg with hg; subst hg; exact hk B (.inl (.inl rfl)) (h.lt (.inl rfl)), fun i hi => (h.own i hi).keep fun g hg => hk g (.inl (.inr ⟨i, hi, hg⟩)) (h.qbB hi hg).2, fun i hi p hp => (h.rows i hi p hp).keep fun b hb hl => hk b (.inr hb) hl, h.inj, fun b hb => ⟨Nat.lt_of_lt_of_le (h.hD b hb).1 hs, (h.hD b hb).2⟩⟩

theorem LA.below (h : LA wr n B o cap us evs qb D) (hb : Below wr.heap.size wr w') : LA w' n B o cap us evs qb D := h.keep hb.size fun b _ hl => hb.block b hl

theorem LA.widen (h : LA wr n B o cap us evs qb D) (hd : ∀ b, D b → D' b) (hD : ∀ b, D' b → b < wr.heap.size ∧ ¬ lown n B qb b) : LA wr n B o cap us evs qb D' :=
  ⟨h.arr, h.own, fun i hi p hp => (h.rows i hi p hp).mono hd, h.inj, fun b hb => ⟨(hD b hb).1, fun e => (hD b hb).2 (.inl e), fun i hi e => (hD b hb).2 (.inr ⟨i, hi, e⟩)⟩⟩

theorem LA.cellB (h : LA wr n B o cap us evs qb D) (hi : i < n) : wr.cell? ⟨B, o + i, none⟩ = some (us i) ∧ (∀ a, wr.frozen? ⟨B, a, none⟩ = false) ∧ B < wr.heap.size := by
  obtain ⟨cs, hc⟩ := h.heapB
  exact ⟨h.arr.cell i (us i) (by simp [hi]), blk_frozen hc, heap_lt hc⟩

/-- An element is laid behind one of the lists. -/
theorem LA.add {p : EV} {v' : Value} {blk' : Option Nat} (h : LA wr n B o cap us evs qb D) (hi : i < n) (hp : RowAt wr D p.2 p.1.row)
    (hb1 : Below wr.heap.size wr w1) (hs : SlOwn w2 34 5 v' ((evs i).length + 1) ((evs i).flatMap ecl ++ ecl p) blk') (hg : w1.grownBy w2 (qb i)) (hat : blk' = qb i ∨ blk' = some w1.heap.size) :
    LA (w2.setCell ⟨B, o + i, none⟩ v') n B o cap (fun j => if j = i then v' else us j) (fun j => if j = i then evs i ++ [p] else evs j) (fun j => if j = i then blk' else qb j) D := by
  have h1 := h.below hb1
  have hBl := h1.lt (.inl rfl)
  have s1 := hb1.size
  have s2 := hg.size
  have hB2 : SlOwn w2 49 1 (.slice (some ⟨B, o, none⟩) n cap) n ((List.range n).map us) (some B) := h1.arr.keep fun g e => by injection e with e; subst e; exact hg.block B hBl (fun e => (h1.qbB hi e.symm).1 rfl)
  have hset : ∀ b, b ≠ B → (w2.setCell ⟨B, o + i, none⟩ v').heap[b]? = w2.heap[b]? := fun b hb => heap_set_ne _ hb
  have hblk : ∀ g, blk' = some g → qb i = some g ∨ g = w1.heap.size := fun g hg' => by
    rcases hat with e | e
    · exact .inl (e ▸ hg')
    · rw [hg'] at e; injection e with e; exact .inr e
  have hblkB : ∀ g, blk' = some g → g ≠ B := fun g hg' => by
    rcases hblk g hg' with e | e
    · exact (h1.qbB hi e).1
    · omega
  have hkD : ∀ b, D b → b < w1.heap.size → (w2.setCell ⟨B, o + i, none⟩ v').heap[b]? = w1.heap[b]? := fun b hb hl => by
    obtain ⟨_, h3, h4⟩ := h1.hD b hb
    exact (hset b h3).trans (hg.block b hl (fun e => h4 i hi e.symm))
  refine ⟨?_, fun j hj => ?_, fun j hj q hq => ?_, fun j k g hj hk hjg hkg => ?_, fun b hb => ⟨?_, (h1.hD b hb).2.1, fun j hj e => ?_⟩⟩
  · have hh := SlOwn.set1 hB2 hi v'
    have e : ((List.range n).map us).set i v' = (List.range n).map (fun j => if j = i then v' else us j) := by
      refine List.ext_getElem? fun j => ?_
      simp only [List.getElem?_set, List.getElem?_map, List.length_map, List.length_range]
      by_cases ej : i = j
      · subst ej
        simp [hi]
      · have ej' : ¬ j = i := fun h => ej h.symm
        rw [if_neg ej]
        cases hr : (List.range n)[j]? with
        | none => rfl
        | some x =>
          have hx : x = j := by
            obtain ⟨hl, hx⟩ := List.getElem?_eq_some_iff.1 hr
            simpa using hx.symm
          subst hx
          simp [ej']
    rw [e] at hh
    exact hh
  · by_cases e : j = i
    · subst e
      simp only [if_true]
      have := hs.keep (w' := w2.setCell ⟨B, o + j, none⟩ v') fun g hg' => hset g (hblkB g hg')
      simpa using this
    · simp only [e, if_false]
      exact (h1.own j hj).keep fun g hg' => (hset g (h1.qbB hj hg').1).trans (hg.block g (h1.qbB hj hg').2 (fun e' => e (h1.inj j i g hj hi hg' e'.symm)))
  · by_cases e : j = i
    · subst e
      simp only [if_true, List.mem_append, List.mem_singleton] at hq
      rcases hq with hq | rfl
      · exact (h1.rows j hj q hq).keep hkD
      · exact (hp.below hb1).keep hkD
    · simp only [e, if_false] at hq
      exact (h1.rows j hj q hq).keep hkD
  · by_cases e1 : j = i <;> by_cases e2 : k = i
    · omega
    · simp only [e1, e2, if_true, if_false] at hjg hkg
      rcases hblk g hjg with e | e
      · exact absurd (h1.inj k i g hk hi hkg e) e2
      · have := (h1.qbB hk hkg).2; omega
    · simp only [e1, e2, if_true, if_false] at hjg hkg
      rcases hblk g hkg with e | e
      · exact absurd (h1.inj j i g hj hi hjg e) e1
      · have := (h1.qbB hj hjg).2; omega
    · simp only [e1, e2, if_false] at hjg hkg
      exact h1.inj j k g hj hk hjg hkg
  · have := (h1.hD b hb).1
    simp [World.setCell]; omega
  · by_cases e1 : j = i
    · rw [if_pos e1] at e
      rcases hblk b e with e' | e'
      · exact (h1.hD b hb).2.2 i hi e'
      · have := (h1.hD b hb).1; omega
    · rw [if_neg e1] at e
      exact (h1.hD b hb).2.2 j hj e

/-- What turns by an addition. -/
theorem LA.add_only {v' : Value} (hb1 : Below wr.heap.size wr w1) (hg : w1.grownBy w2 (qb i)) (hi : i < n) : Only (lown n B qb) wr (w2.setCell ⟨B, o + i, none⟩ v') :=
  (((Only.of_below hb1).grown hg fun _ hk _ => .inr ⟨i, hi, hk⟩)).setCell (fun _ => .inl rfl) _

theorem LA.add_own {blk' : Option Nat} (hat : blk' = qb i ∨ blk' = some w1.heap.size) {b : Nat} (hi : i < n) (hb : lown n B (fun j => if j = i then blk' else qb j) b) : lown n B qb b ∨ b = w1.heap.size := by
  rcases hb with hb | ⟨j, hj, hb⟩
  · exact .inl (.inl hb)
  · dsimp only at hb
    by_cases e : j = i
    · rw [if_pos e] at hb
      rcases hat with e' | e'
      · exact .inl (.inr ⟨i, hi, e' ▸ hb⟩)
      · rw [hb] at e'; injection e' with e'; exact .inr e'
    · rw [if_neg e] at hb
      exact .inl (.inr ⟨j, hj, hb⟩)

/-- The lists, as they are read. -/
theorem LA.lists (h : LA wr n B o cap us evs qb D) (hn : n ≤ 1000000) (hl : ∀ i, i < n → (evs i).length ≤ 1000000) :
    ListsAt wr (fun b => lown n B qb b ∨ D b) (.slice (some ⟨B, o, none⟩) n cap) ((List.range n).map fun i => eL (evs i)) := by
  refine ⟨some ⟨B, o, none⟩, cap, by simp, by simp; omega, .inr ⟨B, o, rfl, .inl (.inl rfl), fun i hi => ?_⟩⟩
  have hi' : i < n := by simpa using hi
  refine ⟨us i, (h.cellB hi').1, ?_, (h.own i hi').cap⟩
  have he : EvsAt wr D (us i) (evs i) (qb i) := ⟨h.own i hi', h.rows i hi', hl i hi'⟩
  have := he.elems (D' := fun b => lown n B qb b ∨ D b) (fun _ hb => .inr hb) (fun b hb => .inl (.inr ⟨i, hi', hb⟩))
  simpa [eL] using this

/-- 'make' of a list of lists. -/
theorem LA.make (w : World) (n : Nat) (hn : n ≤ 1000000) : LA (w.alloc (.cells (madeCells #[.slice none 0 0] n) 49)) n w.heap.size 0 n (fun _ => .slice none 0 0) (fun _ => []) (fun _ => none) (fun b => b < w.heap.size) := by
  refine ⟨⟨by simp, .inr ⟨_, 0, n, _, rfl, rfl, World.alloc_heap_new w _, Nat.le_refl _, by simp only [maxLen]; omega, by rw [size_madeCells]; simp, ?_⟩⟩, fun i hi => SlOwn.nil _ _ _, fun i hi p hp => (by cases hp), fun i j g _ _ hg => (by cases hg), fun b hb => ⟨by simp; omega, by omega, fun i hi e => by cases e⟩⟩
  rw [toList_madeCells_one, List.drop_zero, List.take_of_length_le (by simp)]
  refine List.ext_getElem (by simp) fun i h1 h2 => ?_
  simp
end
end Go.Proofs.Ytdnkfgnjeibjeaa.W

import Derived.Test.YtdnkfgnjeibjeaaG1
namespace Go.Proofs.Ytdnkfgnjeibjeaa
open Go.RowKit

/-- Of what was there only blocks of S have turned. -/
structure Only (S : Nat → Prop) (w w' : World) : Prop where
  os : w'.os = w.os
  tape : w'.tape = w.tape
  output : w'.output = w.output
  size : w.heap.size ≤ w'.heap.size
  block : ∀ k, k < w.heap.size → ¬ S k → w'.heap[k]? = w.heap[k]?

theorem Only.refl (S : Nat → Prop) (w : World) : Only S w w := ⟨rfl, rfl, rfl, Nat.le_refl _, fun _ _ _ => rfl⟩

theorem Only.trans {S S' : Nat → Prop} {a b c : World} (h : Only S a b) (k : Only S' b c) (hs : ∀ x, x < a.heap.size → S' x → S x) : Only S a c :=
  ⟨k.os.trans h.os, k.tape.trans h.tape, k.output.trans h.output, Nat.le_trans h.size k.size, fun i hi hn => (k.block i (Nat.lt_of_lt_of_le hi h.size) (fun e => hn (hs i hi e))).trans (h.block i hi hn)⟩

theorem Only.of_below {S : Nat → Prop} {w w' : World} (h : Below w.heap.size w w') : Only S w w' := ⟨h.os, h.tape, h.output, h.size, fun k hk _ => h.block k hk⟩

theorem Only.below {S : Nat → Prop} {w w' : World} {B : Nat} (h : Only S w w') (hB : B ≤ w.heap.size) (hs : ∀ x, S x → B ≤ x) : Below B w w' :=
  ⟨h.os, h.tape, h.output, h.size, fun k hk => h.block k (by omega) (fun e => by have := hs k e; omega)⟩

theorem Only.mono {S S' : Nat → Prop} {w w' : World} (h : Only S w w') (hs : ∀ x, x < w.heap.size → S x → S' x) : Only S' w w' :=
  ⟨h.os, h.tape, h.output, h.size, fun k hk hn => h.block k hk (fun e => hn (hs k hk e))⟩

theorem Only.setCell {S : Nat → Prop} {a w : World} (h : Only S a w) {p : Addr} (hp : p.block < a.heap.size → S p.block) (u : Value) : Only S a (w.setCell p u) :=
  ⟨h.os, h.tape, h.output, by simpa [World.setCell] using h.size, fun k hk hn => (Below.heap_setCell w p u k (fun e => hn (by subst e; exact hp hk))).trans (h.block k hk hn)⟩

theorem Only.alloc {S : Nat → Prop} {a w : World} (h : Only S a w) (o : Obj) : Only S a (w.alloc o) :=
  ⟨h.os, h.tape, h.output, Nat.le_trans h.size (by simp), fun k hk hn => (Below.heap_alloc w o k (Nat.lt_of_lt_of_le hk h.size)).trans (h.block k hk hn)⟩

theorem Only.drew {S : Nat → Prop} {a w : World} (h : Only S a w) : Only S a w.drew := ⟨h.os, h.tape, h.output, h.size, h.block⟩

theorem Only.grown {S : Nat → Prop} {a w w' : World} {blk : Option Nat} (h : Only S a w) (hg : w.grownBy w' blk) (hb : ∀ k, blk = some k → k < a.heap.size → S k) : Only S a w' :=
  ⟨hg.os.trans h.os, hg.tape.trans h.tape, hg.output.trans h.output, Nat.le_trans h.size hg.size, fun k hk hn => (hg.block k (Nat.lt_of_lt_of_le hk h.size) (fun e => hn (hb k e.symm hk))).trans (h.block k hk hn)⟩

theorem heap_set {w : World} {g j : Nat} {cs : Array Value} {t : TypeId} {fr : Nat × Nat} (h : w.heap[g]? = some (.cells cs t fr)) (v : Value) : (w.setCell ⟨g, j, none⟩ v).heap[g]? = some (.cells (cs.setIfInBounds j v) t fr) := by
  simp [World.setCell, Array.getElem?_modify, h]

theorem heap_set_ne {w : World} {g j b : Nat} (v : Value) (h : b ≠ g) : (w.setCell ⟨g, j, none⟩ v).heap[b]? = w.heap[b]? := Below.heap_setCell w ⟨g, j, none⟩ v b h

theorem ne_of_cells {w : World} {a b : Nat} {c c' : Array Value} {t t' : TypeId} {f f' : Nat × Nat} (h : w.heap[a]? = some (.cells c t f)) (h' : w.heap[b]? = some (.cells c' t' f')) (hne : t ≠ t') : a ≠ b := by
  rintro rfl
  rw [h] at h'
  injection h' with h'
  injection h' with _ ht
  exact hne ht

theorem ne_of_map {w : World} {a b : Nat} {c : Array Value} {t : TypeId} {f : Nat × Nat} {es : Array MapEntry} {k : Nat} (h : w.heap[a]? = some (.cells c t f)) (h' : w.heap[b]? = some (.map es k)) : a ≠ b := by
  rintro rfl
  rw [h] at h'
  injection h' with h'
  cases h'

theorem RowAt.imp {w : World} {D D' : Nat → Prop} {r : Value} {row : List Val} (h : RowAt w D r row) (hd : ∀ b, b < w.heap.size → D b → D' b) : RowAt w D' r row := by
  obtain ⟨a, cap, rfl, hl, hx⟩ := h
  refine ⟨a, cap, rfl, hl, ?_⟩
  rcases hx with rfl | ⟨b, off, rfl, hb, hc⟩
  · exact .inl rfl
  · by_cases hrow : row = []
    · exact .inl hrow
    · have : 0 < row.length := List.length_pos_iff.2 hrow
      exact .inr ⟨b, off, rfl, hd b (cell_lt (hc 0 this).1) hb, hc⟩

def Gm.upd (m : Gm) (i : Nat) (x : Inp) : Gm := { m with inp := fun j => if j = i then x else m.inp j }

section
variable {w w' : World} {D : Nat → Prop} {gs : GS} {m : Gm}

theorem GateAt.G_ne_ib (h : GateAt w D gs m) {i : Nat} (hi : i < m.n) : gs.G ≠ gs.ib i := ne_of_cells h.hG (h.hib i hi) (by decide)
theorem GateAt.arr_ne_ib (h : GateAt w D gs m) {i : Nat} (hi : i < m.n) : gs.arr ≠ gs.ib i := by obtain ⟨cs, hc, _⟩ := h.harr; exact ne_of_cells hc (h.hib i hi) (by decide)
theorem GateAt.arr_ne_G (h : GateAt w D gs m) : gs.arr ≠ gs.G := by obtain ⟨cs, hc, _⟩ := h.harr; exact ne_of_cells hc h.hG (by decide)
theorem GateAt.ib_ne_map (h : GateAt w D gs m) {i : Nat} (hi : i < m.n) : gs.ib i ≠ gs.map := ne_of_map (h.hib i hi) h.hmap
theorem GateAt.G_ne_map (h : GateAt w D gs m) : gs.G ≠ gs.map := ne_of_map h.hG h.hmap
theorem GateAt.qb_cells (h : GateAt w D gs m) {i g : Nat} (hi : i < m.n) (hg : gs.qb i = some g) : ∃ cur, w.heap[g]? = some (.cells cur 34 (0, 0)) := by
  rcases (h.hq i hi).2 with ⟨_, _, hn⟩ | ⟨g', o, cap, cur, hb, _, hc, _⟩
  · rw [hg] at hn; cases hn
  · rw [hg] at hb; injection hb with hb; subst hb; exact ⟨cur, hc⟩
theorem GateAt.qb_ne (h : GateAt w D gs m) {i g b : Nat} (hi : i < m.n) (hg : gs.qb i = some g) {c : Array Value} {t : TypeId} {f : Nat × Nat} (hb : w.heap[b]? = some (.cells c t f)) (ht : t ≠ 34) : g ≠ b := by
  obtain ⟨cur, hc⟩ := h.qb_cells hi hg
  exact ne_of_cells hc hb (fun e => ht e.symm)

theorem own_ib (gs : GS) {n i : Nat} (hi : i < n) : gs.own n (gs.ib i) := .inr (.inr (.inr (.inl ⟨i, hi, rfl⟩)))
theorem own_G (gs : GS) (n : Nat) : gs.own n gs.G := .inl rfl
theorem own_qb (gs : GS) {n i g : Nat} (hi : i < n) (hg : gs.qb i = some g) : gs.own n g := .inr (.inr (.inr (.inr ⟨i, hi, hg⟩)))

/-- The gate's own cells turn: the barrier under way, the greatest one done. -/
theorem GateAt.setG (h : GateAt w D gs m) (u d : Int) (hG : w'.heap[gs.G]? = some (.cells (gcl gs { m with under := u, done := d }) 88 (0, 0))) (ho : ∀ b, b ≠ gs.G → w'.heap[b]? = w.heap[b]?) :
    GateAt w' D gs { m with under := u, done := d } := by
  have hG' := h.hG
  obtain ⟨cs, hc, hcs⟩ := h.harr
  refine ⟨h.pos, h.le, hG, ⟨cs, (ho _ h.arr_ne_G).trans hc, hcs⟩, fun i hi => (ho _ (Ne.symm (h.G_ne_ib hi))).trans (h.hib i hi), h.inj, fun i hi => (h.hq i hi).keep fun g hg => ho _ (h.qb_ne hi hg hG' (by decide)), h.qinj, ?_, h.hD, (ho _ (Ne.symm h.G_ne_map)).trans h.hmap⟩
  intro i hi p hp
  exact (h.hrow i hi p hp).keep fun b hb _ => ho b (fun e => h.hD b hb (e ▸ own_G gs m.n))

/-- An input's own cells turn; its queue stays. -/
theorem GateAt.setI (h : GateAt w D gs m) {i : Nat} (hi : i < m.n) (x : Inp) (hx : x.queue = (m.inp i).queue) (hI : w'.heap[gs.ib i]? = some (.cells (icl x (gs.qv i)) 92 (0, 0))) (ho : ∀ b, b ≠ gs.ib i → w'.heap[b]? = w.heap[b]?) :
    GateAt w' D gs (m.upd i x) := by
  have hI' := h.hib i hi
  obtain ⟨cs, hc, hcs⟩ := h.harr
  refine ⟨h.pos, h.le, (ho _ (h.G_ne_ib hi)).trans h.hG, ⟨cs, (ho _ (h.arr_ne_ib hi)).trans hc, hcs⟩, fun j hj => ?_, h.inj, fun j hj => ?_, h.qinj, fun j hj p hp => ?_, h.hD, (ho _ (Ne.symm (h.ib_ne_map hi))).trans h.hmap⟩
  · by_cases e : j = i
    · subst e; simpa [Gm.upd] using hI
    · have := (ho _ (fun e' => e (h.inj j i hj hi e'))).trans (h.hib j hj)
      simpa [Gm.upd, e] using this
  · have hk := (h.hq j hj).keep (w' := w') fun g hg => ho _ (h.qb_ne hj hg hI' (by decide))
    by_cases e : j = i
    · subst e; simpa [Gm.upd, hx] using hk
    · simpa [Gm.upd, e] using hk
  · have hp' : p ∈ (m.inp j).queue := by
      by_cases e : j = i
      · subst e; simpa [Gm.upd, hx] using hp
      · simpa [Gm.upd, e] using hp
    exact (h.hrow j hj p hp').keep fun b hb _ => ho b (fun e => h.hD b hb (e ▸ own_ib gs hi))
end

end Go.Proofs.Ytdnkfgnjeibjeaa

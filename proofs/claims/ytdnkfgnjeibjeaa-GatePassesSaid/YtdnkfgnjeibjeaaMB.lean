import Derived.Test.YtdnkfgnjeibjeaaMA
import Derived.Handy
import Derived.StillTailTactics
import Derived.RangeFuncNested
import Derived.RangeFuncBound
import Derived.RangeFuncCalls
import Derived.RangeFuncLeaves
import Derived.Shelf.Abstract
import Derived.Shelf.RegionOpen
import Derived.WalkKit
import Derived.OwnWalkIn
import Derived.TacticsInMore
import Derived.LoopNIn
import Derived.LoopIn
import Derived.Laws.EntriesVeiled

namespace Go.Proofs.Ytdnkfgnjeibjeaa
open Go.RowKit

/-- An element, with its row's slice value. -/
abbrev EV := Elem × Value

def ecl (p : EV) : List Value := [.int .i64 p.1.k, .int .i64 p.1.n, .int .i64 p.1.t, p.2, .int .i64 p.1.c]
theorem ecl_len (p : EV) : (ecl p).length = 5 := rfl

structure Inp where
  last : Int
  closed : Bool
  queue : List EV
  sent : Bool
  holds : Bool

/-- A gate, as the program has it. -/
structure Gm where
  n : Nat
  al : Bool
  inp : Nat → Inp
  under : Int
  done : Int

/-- Where a gate lies. -/
structure GS where
  G : Nat
  arr : Nat
  cap : Nat
  map : Nat
  clock : Nat
  ib : Nat → Nat
  qv : Nat → Value
  qb : Nat → Option Nat

/-- The blocks of a gate. -/
def GS.own (gs : GS) (n : Nat) (b : Nat) : Prop := b = gs.G ∨ b = gs.arr ∨ b = gs.map ∨ (∃ i, i < n ∧ b = gs.ib i) ∨ (∃ i, i < n ∧ gs.qb i = some b)

abbrev howV (al : Bool) : Value := .iface (if al then 89 else 82) (.agg #[])

abbrev gcl (gs : GS) (m : Gm) : Array Value := #[.slice (some ⟨gs.arr, 0, none⟩) m.n gs.cap, howV m.al, .int .i64 m.under, .int .i64 m.done, .map (some gs.map)]
abbrev icl (x : Inp) (qv : Value) : Array Value := #[.int .i64 x.last, .bool x.closed, qv, .bool x.sent, .bool x.holds]

structure GateAt (w : World) (D : Nat → Prop) (gs : GS) (m : Gm) : Prop where
  pos : 0 < m.n
  le : m.n ≤ 200
  hG : w.heap[gs.G]? = some (.cells (gcl gs m) 88 (0, 0))
  harr : ∃ cs, w.heap[gs.arr]? = some (.cells cs 90 (0, 0)) ∧ ∀ i, i < m.n → cs[i]? = some (.pointer (some ⟨gs.ib i, 0, none⟩))
  hib : ∀ i, i < m.n → w.heap[gs.ib i]? = some (.cells (icl (m.inp i) (gs.qv i)) 92 (0, 0))
  inj : ∀ i j, i < m.n → j < m.n → gs.ib i = gs.ib j → i = j
  hq : ∀ i, i < m.n → SlOwn w 34 5 (gs.qv i) (m.inp i).queue.length ((m.inp i).queue.flatMap ecl) (gs.qb i)
  qinj : ∀ i j g, i < m.n → j < m.n → gs.qb i = some g → gs.qb j = some g → i = j
  hrow : ∀ i, i < m.n → ∀ p ∈ (m.inp i).queue, RowAt w D p.2 p.1.row
  hD : ∀ b, D b → ¬ gs.own m.n b
  hmap : w.heap[gs.map]? = some (.map #[] gs.clock)

/-- No block of a gate is beyond the heap. -/
theorem GateAt.lt {w : World} {D : Nat → Prop} {gs : GS} {m : Gm} (h : GateAt w D gs m) {b : Nat} (hb : gs.own m.n b) : b < w.heap.size := by
  rcases hb with rfl | rfl | rfl | ⟨i, hi, rfl⟩ | ⟨i, hi, hb⟩
  · exact heap_lt h.hG
  · obtain ⟨cs, hc, _⟩ := h.harr; exact heap_lt hc
  · exact heap_lt h.hmap
  · exact heap_lt (h.hib i hi)
  · have := h.hq i hi
    rw [hb] at this
    exact this.blk_lt

/-- A gate whose blocks, and whose elements' rows, lie as they lay. -/
theorem GateAt.keep {w w' : World} {D : Nat → Prop} {gs : GS} {m : Gm} (h : GateAt w D gs m) (hk : ∀ b, b < w.heap.size → w'.heap[b]? = w.heap[b]?) : GateAt w' D gs m := by
  have hl : ∀ {b o}, w.heap[b]? = some o → w'.heap[b]? = some o := fun hb => (hk _ (heap_lt hb)).trans hb
  refine ⟨h.pos, h.le, hl h.hG, ?_, fun i hi => hl (h.hib i hi), h.inj, fun i hi => (h.hq i hi).keep fun g hg => hk g (h.lt (.inr (.inr (.inr (.inr ⟨i, hi, hg⟩))))), h.qinj, fun i hi p hp => (h.hrow i hi p hp).keep fun b _ hlt => hk b hlt, h.hD, hl h.hmap⟩
  obtain ⟨cs, hc, hcs⟩ := h.harr
  exact ⟨cs, hl hc, hcs⟩

theorem GateAt.below {w w' : World} {D : Nat → Prop} {gs : GS} {m : Gm} (h : GateAt w D gs m) (hb : Below w.heap.size w w') : GateAt w' D gs m := h.keep fun b hlt => hb.block b hlt

/-- The cells that a walk reads of a gate. -/
structure GCells (w : World) (gs : GS) (m : Gm) : Prop where
  g0 : w.cell? ⟨gs.G, 0, none⟩ = some (.slice (some ⟨gs.arr, 0, none⟩) m.n gs.cap)
  g1 : w.cell? ⟨gs.G, 1, none⟩ = some (howV m.al)
  g2 : w.cell? ⟨gs.G, 2, none⟩ = some (.int .i64 m.under)
  g3 : w.cell? ⟨gs.G, 3, none⟩ = some (.int .i64 m.done)
  g4 : w.cell? ⟨gs.G, 4, none⟩ = some (.map (some gs.map))
  gf : ∀ o, w.frozen? ⟨gs.G, o, none⟩ = false

theorem GateAt.cells {w : World} {D : Nat → Prop} {gs : GS} {m : Gm} (h : GateAt w D gs m) : GCells w gs m := by
  obtain ⟨h0, h1, h2, h3, h4, hf⟩ := blk5 h.hG
  exact ⟨h0, h1, h2, h3, h4, hf⟩

theorem GateAt.arr_cell {w : World} {D : Nat → Prop} {gs : GS} {m : Gm} (h : GateAt w D gs m) {i : Nat} (hi : i < m.n) : w.cell? ⟨gs.arr, i, none⟩ = some (.pointer (some ⟨gs.ib i, 0, none⟩)) := by
  obtain ⟨cs, hc, hcs⟩ := h.harr
  rw [cell_of_row w gs.arr i cs 90 (0, 0) hc]
  exact hcs i hi

structure ICells (w : World) (gs : GS) (m : Gm) (i : Nat) : Prop where
  a : w.cell? ⟨gs.arr, i, none⟩ = some (.pointer (some ⟨gs.ib i, 0, none⟩))
  i0 : w.cell? ⟨gs.ib i, 0, none⟩ = some (.int .i64 (m.inp i).last)
  i1 : w.cell? ⟨gs.ib i, 1, none⟩ = some (.bool (m.inp i).closed)
  i2 : w.cell? ⟨gs.ib i, 2, none⟩ = some (gs.qv i)
  i3 : w.cell? ⟨gs.ib i, 3, none⟩ = some (.bool (m.inp i).sent)
  i4 : w.cell? ⟨gs.ib i, 4, none⟩ = some (.bool (m.inp i).holds)
  fr : ∀ o, w.frozen? ⟨gs.ib i, o, none⟩ = false

theorem GateAt.icells {w : World} {D : Nat → Prop} {gs : GS} {m : Gm} (h : GateAt w D gs m) {i : Nat} (hi : i < m.n) : ICells w gs m i := by
  obtain ⟨h0, h1, h2, h3, h4, hf⟩ := blk5 (h.hib i hi)
  exact ⟨h.arr_cell hi, h0, h1, h2, h3, h4, hf⟩

section walks
set_option maxHeartbeats 400000
set_option maxRecDepth 100000

theorem f126_any (w : World) : Calls Try.prog 126 #[.agg #[]] w fun e w' => e = .returned (.bool true) ∧ Below w.heap.size w w' := by
  go_enter Try.func126, Try.ntmps126
  go_wp2
  go_ret
  exact ⟨rfl, (Below.refl _ _).alloc (Nat.le_refl _) _⟩

theorem f121_any (w : World) : Calls Try.prog 121 #[.agg #[]] w fun e w' => e = .returned (.bool false) ∧ Below w.heap.size w w' := by
  go_enter Try.func121, Try.ntmps121
  go_wp2
  go_ret
  exact ⟨rfl, (Below.refl _ _).alloc (Nat.le_refl _) _⟩

def Gm.blocked (m : Gm) (i : Nat) : Bool := m.al && decide (0 < m.under) && (m.inp i).sent

theorem f41_any (w : World) {D : Nat → Prop} (gs : GS) (m : Gm) (i : Nat) (h : GateAt w D gs m) (hi : i < m.n) :
    Calls Try.prog 41 #[.pointer (some ⟨gs.G, 0, none⟩), .int .i64 i] w fun e w' => e = .returned (.bool (m.blocked i)) ∧ Below w.heap.size w w' := by
  obtain ⟨g0, g1, g2, g3, g4, gf⟩ := h.cells
  have j1 : (0 : Int) ≤ (i : Int) := by omega
  have j2 : (i : Int) < (m.n : Int) := by omega
  have hK := fun (w' : World) (hb : Below w.heap.size w w') => And.intro (h.below hb).cells ((h.below hb).icells hi)
  have HK := Lib.hid hK
  clear hK h
  cases hal : m.al
  · rw [hal] at g1
    simp only [howV, Bool.false_eq_true, if_false] at g1
    go_enter Try.func41, Try.ntmps41
    go_wp2_with (go_at_call 121; refine (f121_any _).mono ?_; rintro e w' ⟨rfl, hb⟩)
    go_ret
    exact ⟨ret_bool (by simp [Gm.blocked, hal]), hb⟩
  · rw [hal] at g1
    simp only [howV, if_true] at g1
    rcases Int.lt_or_le 0 m.under with hu | hu
    · go_enter Try.func41, Try.ntmps41
      go_wp2_with (go_at_call 126; refine (f126_any _).mono ?_; rintro e w' ⟨rfl, hb⟩; obtain ⟨⟨g0, g1, g2, g3, g4, gf⟩, ⟨ia, i0, i1, i2, i3, i4, ifr⟩⟩ := HK.out _ hb)
      go_ret
      exact ⟨ret_bool (by simp [Gm.blocked, hal, hu]), hb⟩
    · have hu' : ¬ 0 < m.under := by omega
      go_enter Try.func41, Try.ntmps41
      go_wp2_with (go_at_call 126; refine (f126_any _).mono ?_; rintro e w' ⟨rfl, hb⟩; obtain ⟨⟨g0, g1, g2, g3, g4, gf⟩, ⟨ia, i0, i1, i2, i3, i4, ifr⟩⟩ := HK.out _ hb)
      go_ret
      exact ⟨ret_bool (by simp [Gm.blocked, hal]; omega), hb⟩

end walks
end Go.Proofs.Ytdnkfgnjeibjeaa

namespace Go.Proofs.Ytdnkfgnjeibjeaa
open Go.RowKit

/-- Of what was there only blocks of S have turned. -/
structure Only (S : Nat → Prop) (w w' : World) : Prop where
  os : w'.os = w.os
  tape : w'.tape = w.tape
  output : w'.output = w.output
  size : w.heap.size ≤ w'.heap.size
  block : ∀ k, k < w.heap.size → ¬ S k → w'.heap[k]? = w.heap[k]?

theorem Only.refl (S : Nat → Prop) (w : World) : Only S w w := ⟨rfl, rfl, rfl, Nat.le_refl _, fun _ _ _ => rfl⟩

theorem Only.trans {S S' : Nat → Prop} {a b c : World} (h : Only S a b) (k : Only S' b c) (hs : ∀ x, x < a.heap.size → S' x → S x) : Only S a c :=
  ⟨k.os.trans h.os, k.tape.trans h.tape, k.output.trans h.output, Nat.le_trans h.size k.size, fun i hi hn => (k.block i (Nat.lt_of_lt_of_le hi h.size) (fun e => hn (hs i hi e))).trans (h.block i hi hn)⟩

theorem Only.of_below {S : Nat → Prop} {w w' : World} (h : Below w.heap.size w w') : Only S w w' := ⟨h.os, h.tape, h.output, h.size, fun k hk _ => h.block k hk⟩

theorem Only.below {S : Nat → Prop} {w w' : World} {B : Nat} (h : Only S w w') (hB : B ≤ w.heap.size) (hs : ∀ x, S x → B ≤ x) : Below B w w' :=
  ⟨h.os, h.tape, h.output, h.size, fun k hk => h.block k (by omega) (fun e => by have := hs k e; omega)⟩

theorem Only.mono {S S' : Nat → Prop} {w w' : World} (h : Only S w w') (hs : ∀ x, x < w.heap.size → S x → S' x) : Only S' w w' :=
  ⟨h.os, h.tape, h.output, h.size, fun k hk hn => h.block k hk (fun e => hn (hs k hk e))⟩

theorem Only.setCell {S : Nat → Prop} {a w : World} (h : Only S a w) {p : Addr} (hp : p.block < a.heap.size → S p.block) (u : Value) : Only S a (w.setCell p u) :=
  ⟨h.os, h.tape, h.output, by simpa [World.setCell] using h.size, fun k hk hn => (Below.heap_setCell w p u k (fun e => hn (by subst e; exact hp hk))).trans (h.block k hk hn)⟩

theorem Only.alloc {S : Nat → Prop} {a w : World} (h : Only S a w) (o : Obj) : Only S a (w.alloc o) :=
  ⟨h.os, h.tape, h.output, Nat.le_trans h.size (by simp), fun k hk hn => (Below.heap_alloc w o k (Nat.lt_of_lt_of_le hk h.size)).trans (h.block k hk hn)⟩

theorem Only.drew {S : Nat → Prop} {a w : World} (h : Only S a w) : Only S a w.drew := ⟨h.os, h.tape, h.output, h.size, h.block⟩

theorem Only.grown {S : Nat → Prop} {a w w' : World} {blk : Option Nat} (h : Only S a w) (hg : w.grownBy w' blk) (hb : ∀ k, blk = some k → k < a.heap.size → S k) : Only S a w' :=
  ⟨hg.os.trans h.os, hg.tape.trans h.tape, hg.output.trans h.output, Nat.le_trans h.size hg.size, fun k hk hn => (hg.block k (Nat.lt_of_lt_of_le hk h.size) (fun e => hn (hb k e.symm hk))).trans (h.block k hk hn)⟩

theorem heap_set {w : World} {g j : Nat} {cs : Array Value} {t : TypeId} {fr : Nat × Nat} (h : w.heap[g]? = some (.cells cs t fr)) (v : Value) : (w.setCell ⟨g, j, none⟩ v).heap[g]? = some (.cells (cs.setIfInBounds j v) t fr) := by
  simp [World.setCell, Array.getElem?_modify, h]

theorem heap_set_ne {w : World} {g j b : Nat} (v : Value) (h : b ≠ g) : (w.setCell ⟨g, j, none⟩ v).heap[b]? = w.heap[b]? := Below.heap_setCell w ⟨g, j, none⟩ v b h

theorem ne_of_cells {w : World} {a b : Nat} {c c' : Array Value} {t t' : TypeId} {f f' : Nat × Nat} (h : w.heap[a]? = some (.cells c t f)) (h' : w.heap[b]? = some (.cells c' t' f')) (hne : t ≠ t') : a ≠ b := by
  rintro rfl
  rw [h] at h'
  injection h' with h'
  injection h' with _ ht
  exact hne ht

theorem ne_of_map {w : World} {a b : Nat} {c : Array Value} {t : TypeId} {f : Nat × Nat} {es : Array MapEntry} {k : Nat} (h : w.heap[a]? = some (.cells c t f)) (h' : w.heap[b]? = some (.map es k)) : a ≠ b := by
  rintro rfl
  rw [h] at h'
  injection h' with h'
  cases h'

theorem RowAt.imp {w : World} {D D' : Nat → Prop} {r : Value} {row : List Val} (h : RowAt w D r row) (hd : ∀ b, b < w.heap.size → D b → D' b) : RowAt w D' r row := by
  obtain ⟨a, cap, rfl, hl, hx⟩ := h
  refine ⟨a, cap, rfl, hl, ?_⟩
  rcases hx with rfl | ⟨b, off, rfl, hb, hc⟩
  · exact .inl rfl
  · by_cases hrow : row = []
    · exact .inl hrow
    · have : 0 < row.length := List.length_pos_iff.2 hrow
      exact .inr ⟨b, off, rfl, hd b (cell_lt (hc 0 this).1) hb, hc⟩

def Gm.upd (m : Gm) (i : Nat) (x : Inp) : Gm := { m with inp := fun j => if j = i then x else m.inp j }

section
variable {w w' : World} {D : Nat → Prop} {gs : GS} {m : Gm}

theorem GateAt.G_ne_ib (h : GateAt w D gs m) {i : Nat} (hi : i < m.n) : gs.G ≠ gs.ib i := ne_of_cells h.hG (h.hib i hi) (by decide)
theorem GateAt.arr_ne_ib (h : GateAt w D gs m) {i : Nat} (hi : i < m.n) : gs.arr ≠ gs.ib i := by obtain ⟨cs, hc, _⟩ := h.harr; exact ne_of_cells hc (h.hib i hi) (by decide)
theorem GateAt.arr_ne_G (h : GateAt w D gs m) : gs.arr ≠ gs.G := by obtain ⟨cs, hc, _⟩ := h.harr; exact ne_of_cells hc h.hG (by decide)
theorem GateAt.ib_ne_map (h : GateAt w D gs m) {i : Nat} (hi : i < m.n) : gs.ib i ≠ gs.map := ne_of_map (h.hib i hi) h.hmap
theorem GateAt.G_ne_map (h : GateAt w D gs m) : gs.G ≠ gs.map := ne_of_map h.hG h.hmap
theorem GateAt.qb_cells (h : GateAt w D gs m) {i g : Nat} (hi : i < m.n) (hg : gs.qb i = some g) : ∃ cur, w.heap[g]? = some (.cells cur 34 (0, 0)) := by
  rcases (h.hq i hi).2 with ⟨_, _, hn⟩ | ⟨g', o, cap, cur, hb, _, hc, _⟩
  · rw [hg] at hn; cases hn
  · rw [hg] at hb; injection hb with hb; subst hb; exact ⟨cur, hc⟩
theorem GateAt.qb_ne (h : GateAt w D gs m) {i g b : Nat} (hi : i < m.n) (hg : gs.qb i = some g) {c : Array Value} {t : TypeId} {f : Nat × Nat} (hb : w.heap[b]? = some (.cells c t f)) (ht : t ≠ 34) : g ≠ b := by
  obtain ⟨cur, hc⟩ := h.qb_cells hi hg
  exact ne_of_cells hc hb (fun e => ht e.symm)

theorem own_ib (gs : GS) {n i : Nat} (hi : i < n) : gs.own n (gs.ib i) := .inr (.inr (.inr (.inl ⟨i, hi, rfl⟩)))
theorem own_G (gs : GS) (n : Nat) : gs.own n gs.G := .inl rfl
theorem own_qb (gs : GS) {n i g : Nat} (hi : i < n) (hg : gs.qb i = some g) : gs.own n g := .inr (.inr (.inr (.inr ⟨i, hi, hg⟩)))

/-- The gate's own cells turn: the barrier under way, the greatest one done. -/
theorem GateAt.setG (h : GateAt w D gs m) (u d : Int) (hG : w'.heap[gs.G]? = some (.cells (gcl gs { m with under := u, done := d }) 88 (0, 0))) (ho : ∀ b, b ≠ gs.G → w'.heap[b]? = w.heap[b]?) :
    GateAt w' D gs { m with under := u, done := d } := by
  have hG' := h.hG
  obtain ⟨cs, hc, hcs⟩ := h.harr
  refine ⟨h.pos, h.le, hG, ⟨cs, (ho _ h.arr_ne_G).trans hc, hcs⟩, fun i hi => (ho _ (Ne.symm (h.G_ne_ib hi))).trans (h.hib i hi), h.inj, fun i hi => (h.hq i hi).keep fun g hg => ho _ (h.qb_ne hi hg hG' (by decide)), h.qinj, ?_, h.hD, (ho _ (Ne.symm h.G_ne_map)).trans h.hmap⟩
  intro i hi p hp
  exact (h.hrow i hi p hp).keep fun b hb _ => ho b (fun e => h.hD b hb (e ▸ own_G gs m.n))

/-- An input's own cells turn; its queue stays. -/
theorem GateAt.setI (h : GateAt w D gs m) {i : Nat} (hi : i < m.n) (x : Inp) (hx : x.queue = (m.inp i).queue) (hI : w'.heap[gs.ib i]? = some (.cells (icl x (gs.qv i)) 92 (0, 0))) (ho : ∀ b, b ≠ gs.ib i → w'.heap[b]? = w.heap[b]?) :
    GateAt w' D gs (m.upd i x) := by
  have hI' := h.hib i hi
  obtain ⟨cs, hc, hcs⟩ := h.harr
  refine ⟨h.pos, h.le, (ho _ (h.G_ne_ib hi)).trans h.hG, ⟨cs, (ho _ (h.arr_ne_ib hi)).trans hc, hcs⟩, fun j hj => ?_, h.inj, fun j hj => ?_, h.qinj, fun j hj p hp => ?_, h.hD, (ho _ (Ne.symm (h.ib_ne_map hi))).trans h.hmap⟩
  · by_cases e : j = i
    · subst e; simpa [Gm.upd] using hI
    · have := (ho _ (fun e' => e (h.inj j i hj hi e'))).trans (h.hib j hj)
      simpa [Gm.upd, e] using this
  · have hk := (h.hq j hj).keep (w' := w') fun g hg => ho _ (h.qb_ne hj hg hI' (by decide))
    by_cases e : j = i
    · subst e; simpa [Gm.upd, hx] using hk
    · simpa [Gm.upd, e] using hk
  · have hp' : p ∈ (m.inp j).queue := by
      by_cases e : j = i
      · subst e; simpa [Gm.upd, hx] using hp
      · simpa [Gm.upd, e] using hp
    exact (h.hrow j hj p hp').keep fun b hb _ => ho b (fun e => h.hD b hb (e ▸ own_ib gs hi))
end

end Go.Proofs.Ytdnkfgnjeibjeaa

namespace Go.Proofs.Ytdnkfgnjeibjeaa
open Go.RowKit

def Inp.unsent (x : Inp) : Inp := { x with sent := false }

def Gm.endsTo (m : Gm) (k : Nat) : Gm := { m with under := 0, done := max m.done m.under, inp := fun i => if i < k then (m.inp i).unsent else m.inp i }
def Gm.ends (m : Gm) : Gm := { m with under := 0, done := max m.done m.under, inp := fun i => (m.inp i).unsent }

theorem GateAt.congr {w : World} {D : Nat → Prop} {gs : GS} {m m' : Gm} (h : GateAt w D gs m) (h1 : m'.n = m.n) (h2 : m'.al = m.al) (h3 : m'.under = m.under) (h4 : m'.done = m.done) (h5 : ∀ i, i < m.n → m'.inp i = m.inp i) : GateAt w D gs m' := by
  obtain ⟨n, al, inp, u, d⟩ := m
  obtain ⟨n', al', inp', u', d'⟩ := m'
  subst h1 h2 h3 h4
  dsimp only at h5
  refine ⟨h.pos, h.le, h.hG, h.harr, fun i hi => ?_, h.inj, fun i hi => ?_, h.qinj, fun i hi p hp => ?_, h.hD, h.hmap⟩
  · have := h.hib i hi; dsimp only at this ⊢; rw [h5 i hi]; exact this
  · have := h.hq i hi; dsimp only at this ⊢; rw [h5 i hi]; exact this
  · dsimp only at hp; rw [h5 i hi] at hp; exact h.hrow i hi p hp

section walks
set_option maxHeartbeats 800000
set_option maxRecDepth 100000

theorem f54_any (w : World) {D : Nat → Prop} (gs : GS) (m : Gm) (h : GateAt w D gs m) :
    Calls Try.prog 54 #[.pointer (some ⟨gs.G, 0, none⟩)] w fun e w' => e = .returned (.tuple #[]) ∧ GateAt w' D gs m.ends ∧ Only (gs.own m.n) w w' := by
  obtain ⟨g0, g1, g2, g3, g4, gf⟩ := h.cells
  have H := Lib.hid h
  have hle := h.le
  clear h
  go_enter Try.func54, Try.ntmps54
  go_wp2_with fail
  go_still_tail 12, (by kernel_rfl)
  change wpList _ _ _ _ _ w.drew
  have hdr : Below w.heap.size w w.drew := (Below.refl _ _).drew
  generalize w.drew = w2 at hdr
  have h2 := H.out.below hdr
  obtain ⟨g0, g1, g2, g3, g4, gf⟩ := h2.cells
  have HD := Lib.hid hdr
  have H2 := Lib.hid h2
  clear hdr h2
  go_wp2_with fail
  all_goals
    go_loopw [24] (fun i wr => ∃ k : Nat, k ≤ m.n ∧ i = .int .i64 k ∧ GateAt wr D gs (m.endsTo k) ∧ Only (gs.own m.n) w wr) (fun i _ => m.n - (intOf i).toNat)
    case atStart =>
      refine ⟨0, Nat.zero_le _, rfl, ?_, ((Only.of_below HD.out).setCell (fun _ => own_G gs _) _).setCell (fun _ => own_G gs _) _⟩
      have hh := heap_set (j := 2) (heap_set (j := 3) H2.out.hG (.int .i64 (max m.done m.under))) (.int .i64 0)
      have hm := H2.out.setG 0 (max m.done m.under) (by simpa using hh) (fun b hb => (heap_set_ne _ hb).trans (heap_set_ne _ hb))
      have hmx := hm.congr (m' := m.endsTo 0) rfl rfl rfl rfl (fun i _ => by simp [Gm.endsTo])
      first
        | (have e : max m.done m.under = m.under := by omega
           rw [e] at hmx; exact hmx)
        | (have e : max m.done m.under = m.done := by omega
           rw [e] at hmx; exact hmx)
    case round =>
      obtain ⟨k, hk, rfl, hg, ho⟩ := hrel
      have HG := Lib.hid hg
      have HO := Lib.hid ho
      by_cases hlt : k < m.n
      · obtain ⟨ia, i0, i1, i2, i3, i4, ifr⟩ := hg.icells (i := k) hlt
        clear hg ho
        have j1 : (0 : Int) ≤ (k : Int) := by omega
        have j2 : (k : Int) < (m.n : Int) := by omega
        go_wp2_with fail
        go_roundw
        case rel =>
          refine ⟨k + 1, by omega, by go_num, ?_, HO.out.setCell (fun _ => own_ib gs hlt) _⟩
          have hh := heap_set (j := 3) (HG.out.hib k hlt) (.bool false)
          have hm := HG.out.setI hlt (m.inp k).unsent (by simp [Gm.endsTo, Inp.unsent]) (by simpa [Gm.endsTo, Inp.unsent] using hh) (fun b hb => heap_set_ne _ hb)
          refine hm.congr rfl rfl rfl rfl (fun i _ => ?_)
          simp only [Gm.endsTo, Gm.upd]
          by_cases e : i = k
          · subst e; simp
          · by_cases e2 : i < k
            · rw [if_pos (by omega), if_neg e, if_pos e2]
            · rw [if_neg (by omega), if_neg e, if_neg e2]
        case measure => simp [intOf]; omega
      · clear hg ho
        go_wp2_with fail
        go_end0
        refine ⟨rfl, HG.out.congr rfl rfl rfl rfl (fun i hi => ?_), HO.out⟩
        have : i < k := by have : i < m.n := hi; omega
        simp [Gm.endsTo, Gm.ends, this]

end walks
end Go.Proofs.Ytdnkfgnjeibjeaa

namespace Go.Proofs.Ytdnkfgnjeibjeaa
open Go.RowKit Go.Shelf

/-- How a round of the loop ends: it goes on. -/
def goesOn {α : Type} (B : Nat) (I : List α → World → Prop) (xs : List α) (W : World) : Exit → Act → World → Prop
  | .normal, _, W' => KeepsFrom B W W' ∧ I xs W'
  | _, _, _ => False

/-- A loop over an iterator whose rounds always go on; the iterator may lean on what the loop says of the state. -/
theorem range_law {P : Program} {n : Nat} {α : Type} {g : Operand} {ps : Array Tmp} {assign body : Code} {Q : Exit → Act → World → Prop} {a : Act} {w : World} {gf : Nat} {lb : Array Value}
    (hg : a.eval g = .func (.func gf) #[] lb) (eg : ∀ args w, (callFunc gf args).run P w = .ok (.enter gf args) w)
    (encs : α → Array Value) (hps : ∀ x, (encs x).size = ps.size)
    (I : List α → World → Prop) (hI : OwnFrom w.heap.size I) (h0 : I [] w) (Nx : List α → α → Prop) (S : List α → Prop)
    (hiter : ∀ (l : Nat) (J : List α → World → Prop) (W : World), (∀ pre W, J pre W → I pre W) → (∀ pre A B, J pre A → Below A.heap.size A B → J pre B) →
      (∀ pre x W1, J pre W1 → Nx pre x → YieldAt Fence.wide (n - 1 - 1) P l (encs x) W1 fun e W' => e = .returned (.bool true) ∧ J (pre ++ [x]) W') → J [] W →
      CallsIn Fence.wide (n - 1) P gf (#[.func (.yield l) #[] #[]] ++ lb) W fun e W' => (∃ v, e = .returned v) ∧ ∃ xs, S xs ∧ J xs W')
    (a₁ : α → Act)
    (hassign : ∀ (l : Nat) (x : α) (W : World) (K : Act → World → Prop), K (a₁ x) W →
      assign.wpIn (Fence.wide.inRound l) (n - 1 - 1) P (Exit.then K (fun _ _ _ => False)) { tmps := (ps.zip (encs x)).foldl (fun t (p, v) => t.setIfInBounds p v) a.tmps, defers := [] } W)
    (hbody : ∀ (l : Nat) (pre : List α) (x : α) (W : World), I pre W → Nx pre x → body.wpIn (Fence.wide.inRound l) (n - 1 - 1) P (goesOn w.heap.size I (pre ++ [x]) W) (a₁ x) W)
    (hdone : ∀ (D : Nat) (xs : List α) (W : World), w.heap.size ≤ D → S xs → I xs W → W.heap[D]? = some (.deferred (some [])) → Q .normal { a with defers := { target := .collected D, args := #[] } :: a.defers } W) :
    (Code.rangeFunc g ps assign body).wpIn Fence.wide n P Q a w := by
  refine wpIn_rangeFunc ?_
  intro fn _
  obtain ⟨rec, hrec⟩ : ∃ rec : LoopState → Option Code → Loop, rec = fun st pe => { state := st, pending := pe, fn, tmps := a.tmps, params := ps, assign, body, defers := w.heap.size } := ⟨_, rfl⟩
  obtain ⟨W1, hW1⟩ : ∃ W1, (w.alloc (.deferred (some []))).alloc (.loop (rec .ready none)) = W1 := ⟨_, rfl⟩
  have hL1 : W1.heap[w.heap.size + 1]? = some (.loop (rec .ready none)) := by
    rw [← hW1]
    have := World.alloc_heap_new (w.alloc (.deferred (some []))) (.loop (rec .ready none))
    rwa [World.size_alloc] at this
  have hK1 : W1.heap[w.heap.size]? = some (.deferred (some [])) := by
    rw [← hW1]; exact (Below.heap_alloc _ _ _ (by simp)).trans (World.alloc_heap_new w _)
  have hI1 : I [] W1 := by rw [← hW1]; exact hI.alloc _ (hI.alloc _ h0)
  refine ⟨w.heap.size + 1, [{ target := .collected w.heap.size, args := #[] }], W1, { target := .fn (.func gf) lb, args := #[.func (.yield (w.heap.size + 1)) #[] #[]] }, W1, gf,
    #[.func (.yield (w.heap.size + 1)) #[] #[]] ++ lb, W1, ?_, ?_, fun _ _ => trivial, ?_, fun h => by simp [Fence.wide] at h, ?_⟩
  · rw [← hW1, hrec]; exact run_enterLoop_outer _ _ _ _ _
  · simp only [resolve, hg]
    simp [go_sem]
  · simp [invoke, go_sem, eg]
  · refine (hiter (w.heap.size + 1)
      (fun pre W => I pre W ∧ W.heap[w.heap.size + 1]? = some (.loop (rec .ready none)) ∧ W.heap[w.heap.size]? = some (.deferred (some [])))
      W1 (fun _ _ h => h.1) ?_ ?_ ⟨hI1, hL1, hK1⟩).mono ?_
    · rintro pre A B ⟨hi, hl, hk⟩ hb
      exact ⟨hI pre A B none hi ⟨hb.os, hb.tape, hb.output, hb.size, fun k hk _ => hb.block k hk⟩ (fun r e => by cases e), (hb.block _ (Array.getElem?_eq_some_iff.1 hl).1).trans hl, (hb.block _ (Array.getElem?_eq_some_iff.1 hk).1).trans hk⟩
    · rintro pre x W ⟨hi, hl, hk⟩ hnx
      have hlt : w.heap.size + 1 < W.heap.size := (Array.getElem?_eq_some_iff.1 hl).1
      have hy := run_yield (P := P) (args := encs x) hl (by rw [hrec]; exact hps x)
      rw [hrec] at hy
      refine ⟨fn, _, assign, body, hy, roundIn_of_wpIn trivial (hassign _ x W _ ⟨_, run_beginRound hl (by rw [hrec]), ?_⟩)⟩
      have hl2 : (W.putObj (w.heap.size + 1) (.loop { rec .ready none with state := .busy })).heap[w.heap.size + 1]? = some (.loop { rec .ready none with state := .busy }) := World.putObj_heap_same hlt
      have hk2 : (W.putObj (w.heap.size + 1) (.loop { rec .ready none with state := .busy })).heap[w.heap.size]? = some (.deferred (some [])) := (World.putObj_heap_other (by omega)).trans hk
      refine wpIn_mono (hbody _ pre x _ (hI.putObj _ hi (by omega) hl rfl) hnx) ?_
      rintro e a3 W3 hp
      cases e with
      | normal =>
        obtain ⟨hk3, hi3⟩ := hp
        have hl3 := hk3.same _ _ (by omega) hl2 rfl
        have hr := run_endRound (P := P) none hl3
        rw [hrec] at hr
        refine ⟨_, _, hr, rfl, hI.putObj _ hi3 (by omega) hl3 rfl, ?_, (World.putObj_heap_other (by omega)).trans (hk3.same _ _ (Nat.le_refl _) hk2 rfl)⟩
        rw [World.putObj_heap_same (Array.getElem?_eq_some_iff.1 hl3).1, hrec]
        rfl
      | ret => exact hp.elim
      | exit id => exact hp.elim
      | goto t => exact hp.elim
      | panic ch => exact hp.elim
      | outgrown => exact hp.elim
    · rintro e W2 ⟨⟨v, rfl⟩, xs, hS, hi, hl, hk⟩
      have hend := run_endLoop (P := P) hl (by rw [hrec]; simp)
      rw [hrec] at hend
      exact ⟨none, _, hend, hdone _ xs _ (Nat.le_refl _) hS (hI.putObj _ hi (by omega) hl rfl) ((World.putObj_heap_other (by omega)).trans hk)⟩

end Go.Proofs.Ytdnkfgnjeibjeaa

namespace Go.Proofs.Ytdnkfgnjeibjeaa
open Go.RowKit Go.Shelf

/-- One gate's place, its queues aside. -/
structure GS.like (gs gs' : GS) : Prop where
  G : gs'.G = gs.G
  arr : gs'.arr = gs.arr
  cap : gs'.cap = gs.cap
  map : gs'.map = gs.map
  ib : gs'.ib = gs.ib
  qb : gs'.qb = gs.qb

theorem GS.like.refl (gs : GS) : gs.like gs := ⟨rfl, rfl, rfl, rfl, rfl, rfl⟩
theorem GS.like.trans {a b c : GS} (h : a.like b) (k : b.like c) : a.like c := ⟨k.G.trans h.G, k.arr.trans h.arr, k.cap.trans h.cap, k.map.trans h.map, k.ib.trans h.ib, k.qb.trans h.qb⟩

def EV.plain (p : EV) : Bool := p.1.k != 3

def Inp.drained (x : Inp) : Inp := { x with queue := x.queue.dropWhile EV.plain }

def Gm.waits (m : Gm) (i : Nat) : Bool := !(m.inp i).holds && !m.blocked i && decide (0 < (m.inp i).queue.length)

def Gm.drainTo (m : Gm) (pre : List Nat) : Gm := pre.foldl (fun m i => m.upd i (m.inp i).drained) m

theorem Gm.drainTo_snoc (m : Gm) (pre : List Nat) (i : Nat) : m.drainTo (pre ++ [i]) = (m.drainTo pre).upd i ((m.drainTo pre).inp i).drained := by
  simp [Gm.drainTo, List.foldl_append]

theorem Gm.drainTo_al (m : Gm) (pre : List Nat) : (m.drainTo pre).al = m.al ∧ (m.drainTo pre).n = m.n ∧ (m.drainTo pre).under = m.under ∧ (m.drainTo pre).done = m.done := by
  induction pre generalizing m with
  | nil => exact ⟨rfl, rfl, rfl, rfl⟩
  | cons i pre ih => exact ih (m.upd i (m.inp i).drained)

theorem Gm.drainTo_inp (m : Gm) (pre : List Nat) (k : Nat) (h : k ∉ pre) : (m.drainTo pre).inp k = m.inp k := by
  induction pre generalizing m with
  | nil => rfl
  | cons i pre ih =>
    simp only [List.mem_cons, not_or] at h
    show (Gm.drainTo (m.upd i (m.inp i).drained) pre).inp k = m.inp k
    rw [ih _ h.2]
    simp [Gm.upd, h.1]

def Gm.list (m : Gm) (k : Nat) : List Nat := (List.range k).filter m.waits

theorem Gm.list_succ (m : Gm) (k : Nat) : m.list (k + 1) = m.list k ++ if m.waits k then [k] else [] := by
  unfold Gm.list
  rw [List.range_succ, List.filter_append]
  by_cases h : m.waits k <;> simp [h]

theorem Gm.not_mem_list (m : Gm) (k : Nat) : k ∉ m.list k := by simp [Gm.list]

attribute [local go_sem] Oper.semAt_some

theorem SlOwn.form {w : World} {e : TypeId} {size : Nat} {v : Value} {n : Nat} {xs : List Value} {blk : Option Nat} (h : SlOwn w e size v n xs blk) : ∃ a c, v = .slice a n c := by
  rcases h.2 with ⟨rfl, rfl, _⟩ | ⟨g, o, cap, cur, _, rfl, _⟩
  · exact ⟨_, _, rfl⟩
  · exact ⟨_, _, rfl⟩

structure LCells (w : World) (gs : GS) (i : Nat) (x : Inp) : Prop where
  a : w.cell? ⟨gs.arr, i, none⟩ = some (.pointer (some ⟨gs.ib i, 0, none⟩))
  i0 : w.cell? ⟨gs.ib i, 0, none⟩ = some (.int .i64 x.last)
  i1 : w.cell? ⟨gs.ib i, 1, none⟩ = some (.bool x.closed)
  i2 : ∃ a c, w.cell? ⟨gs.ib i, 2, none⟩ = some (.slice a x.queue.length c)
  i3 : w.cell? ⟨gs.ib i, 3, none⟩ = some (.bool x.sent)
  i4 : w.cell? ⟨gs.ib i, 4, none⟩ = some (.bool x.holds)
  fr : ∀ o, w.frozen? ⟨gs.ib i, o, none⟩ = false

theorem GateAt.lcells {w : World} {D : Nat → Prop} {gs gs' : GS} {m : Gm} (h : GateAt w D gs' m) (hl : gs.like gs') {i : Nat} (hi : i < m.n) : LCells w gs i (m.inp i) := by
  obtain ⟨a, i0, i1, i2, i3, i4, fr⟩ := h.icells hi
  obtain ⟨q, c, hq⟩ := (h.hq i hi).form
  rw [hl.ib, hl.arr] at a
  rw [hl.ib] at i0 i1 i2 i3 i4 fr
  exact ⟨a, i0, i1, ⟨q, c, by rw [i2, hq]⟩, i3, i4, fr⟩

section walks
set_option maxHeartbeats 1000000
set_option maxRecDepth 100000

theorem f93_in (n l Bg : Nat) {D : Nat → Prop} (gs : GS) (m : Gm) (J : List Nat → World → Prop) (W : World)
    (hJ : ∀ pre W, J pre W → ∃ gs', GateAt W D gs' (m.drainTo pre) ∧ gs.like gs' ∧ W.cell? ⟨Bg, 0, none⟩ = some (.pointer (some ⟨gs.G, 0, none⟩)))
    (hJb : ∀ pre A B, J pre A → Below A.heap.size A B → J pre B)
    (hY : ∀ i W1, J (m.list i) W1 → i < m.n → m.waits i = true → YieldAt Fence.wide (n - 1 - 1) Try.prog l #[.int .i64 i, .pointer (some ⟨gs.ib i, 0, none⟩)] W1 fun e W' => e = .returned (.bool true) ∧ J (m.list i ++ [i]) W')
    (h0 : J [] W) :
    CallsIn Fence.wide (n - 1) Try.prog 93 #[.func (.yield l) #[] #[], .pointer (some ⟨Bg, 0, none⟩)] W fun e W' => (∃ v, e = .returned v) ∧ ∃ xs, xs = m.list m.n ∧ J xs W' := by
  obtain ⟨gs0, hg0, hl0, hb0⟩ := hJ [] W h0
  obtain ⟨g0, g1, g2, g3, g4, gf⟩ := hg0.cells
  have hle : m.n ≤ 200 := hg0.le
  rw [hl0.G, hl0.arr] at g0
  have e1 : (m.drainTo []).n = m.n := rfl
  rw [e1] at g0
  clear e1 hg0 g1 g2 g3 g4 gf
  have HJ := Lib.hid hJ
  have HJB := Lib.hid hJb
  have HY := Lib.hid hY
  have HL := Lib.hid hl0
  clear hJ hJb hY hl0
  have hF : ∀ f, Fence.wide.fn f = True := fun _ => rfl
  have hD : Fence.wide.depth.isSome = false := rfl
  refine callsIn_of_wp Try.func93 rfl trivial ?_ rfl
  simp only [Try.ntmps93, List.size_toArray, List.length_cons, List.length_nil, Nat.reduceAdd, Nat.reduceSub, Array.replicate_succ, Array.replicate_zero, List.push_toArray, List.append_toArray, List.nil_append, List.cons_append]
  gi_wp2
  gi_loopw [10] (fun i wr => ∃ k : Nat, k ≤ m.n ∧ i = .int .i64 k ∧ J (m.list k) wr) (fun i _ => m.n - (intOf i).toNat)
  case atStart => exact ⟨0, Nat.zero_le _, rfl, h0⟩
  case round =>
    obtain ⟨k, hk, rfl, hJk⟩ := hrel
    by_cases hlt : k < m.n
    · obtain ⟨gs1, hg, hl, hb⟩ := HJ.out _ _ hJk
      obtain ⟨al, an, au, ad⟩ := m.drainTo_al (m.list k)
      have hlt' : k < (m.drainTo (m.list k)).n := by rw [an]; exact hlt
      have hin : (m.drainTo (m.list k)).inp k = m.inp k := m.drainTo_inp _ _ (m.not_mem_list k)
      have hbl : (m.drainTo (m.list k)).blocked k = m.blocked k := by simp [Gm.blocked, hin, al, au]
      have hR := fun (A : World) (hA : Below wr.heap.size wr A) => (hg.below hA).lcells hl hlt'
      have hB := (callsIn_wide (n := n - 1 - 1)).2 (f41_any wr gs1 _ k hg hlt')
      have hls := m.list_succ k
      rw [hin] at hR
      rw [hbl, hl.G] at hB
      have HR := Lib.hid hR
      have HB := Lib.hid hB
      have HS := Lib.hid hls
      clear hR hB hls hin hbl al an au ad hg hlt'
      obtain ⟨ia, i0, i1, ⟨qa, qc, i2⟩, i3, i4, ifr⟩ := HR.out wr (Below.refl _ _)
      clear hl
      cases hh : (m.inp k).holds
      · rw [hh] at i4
        cases hbk : m.blocked k
        · rw [hbk] at HB
          by_cases hq : 0 < (m.inp k).queue.length
          · have hw : m.waits k = true := by simp [Gm.waits, hh, hbk, hq]
            have hq' : (0 : Int) < ((m.inp k).queue.length : Int) := by omega
            have HW := Lib.hid hw
            clear hw hbk hh
            gi_wp2_with (gi_at_call 41; refine HB.out.mono ?_; rintro e w' ⟨rfl, hb1⟩; obtain ⟨ia', i0', i1', ⟨qa', qc', i2'⟩, i3', i4', ifr'⟩ := HR.out _ hb1; obtain ⟨fn, tmps, assign, body, hy, hRd⟩ := HY.out k _ (HJB.out _ _ _ hJk hb1) hlt HW.out)
            refine hRd.mono ?_
            rintro e W3 ⟨rfl, hJ3⟩
            gi_wp2
            go_roundw
            case rel => exact ⟨k + 1, by omega, by go_num, by rw [HS.out, HW.out]; simpa using hJ3⟩
            case measure => simp [intOf]; omega
          · have hw : m.waits k = false := by simp [Gm.waits, hq]
            have hq0 : (m.inp k).queue.length = 0 := by omega
            rw [hq0] at i2
            have HW := Lib.hid hw
            clear hw hbk hh
            gi_wp2_with (gi_at_call 41; refine HB.out.mono ?_; rintro e w' ⟨rfl, hb1⟩; obtain ⟨ia', i0', i1', ⟨qa', qc', i2'⟩, i3', i4', ifr'⟩ := HR.out _ hb1)
            go_roundw
            case rel => exact ⟨k + 1, by omega, by go_num, by rw [HS.out, HW.out]; simpa using HJB.out _ _ _ hJk hb1⟩
            case measure => simp [intOf]; omega
        · have hw : m.waits k = false := by simp [Gm.waits, hbk]
          rw [hbk] at HB
          have HW := Lib.hid hw
          clear hw hbk
          gi_wp2_with (gi_at_call 41; refine HB.out.mono ?_; rintro e w' ⟨rfl, hb1⟩)
          go_roundw
          case rel => exact ⟨k + 1, by omega, by go_num, by rw [HS.out, HW.out]; simpa using HJB.out _ _ _ hJk hb1⟩
          case measure => simp [intOf]; omega
      · have hw : m.waits k = false := by simp [Gm.waits, hh]
        rw [hh] at i4
        have HW := Lib.hid hw
        clear hw hh
        gi_wp2
        go_roundw
        case rel => exact ⟨k + 1, by omega, by go_num, by rw [HS.out, HW.out]; simpa using hJk⟩
        case measure => simp [intOf]; omega
    · gi_wp2
      go_end0
      refine ⟨⟨_, rfl⟩, _, ?_, hJk⟩
      have : k = m.n := by omega
      rw [this]
end walks
end Go.Proofs.Ytdnkfgnjeibjeaa

namespace Go.Proofs.Ytdnkfgnjeibjeaa
open Go.RowKit Go.Shelf

abbrev OV := Nat × EV
def ocl (o : OV) : List Value := .int .i64 o.1 :: ecl o.2
theorem ocl_len (o : OV) : (ocl o).length = 6 := rfl

/-- No cell of what passed is more than one cell. -/
def okCells (l : List Value) : Prop := ∀ u ∈ l, u.oneCell' = true

/-- The box of what has passed so far. -/
structure OutBox (w : World) (Bo : Nat) (outs : List OV) (v : Value) (blk : Option Nat) : Prop where
  box : w.heap[Bo]? = some (.cells #[v] 37 (0, 0))
  own : SlOwn w 44 6 v outs.length (outs.flatMap ocl) blk

theorem OutBox.ne {w : World} {Bo : Nat} {outs : List OV} {v : Value} {blk : Option Nat} (h : OutBox w Bo outs v blk) : blk ≠ some Bo := by
  intro e
  subst e
  rcases h.own.2 with ⟨_, _, hn⟩ | ⟨g', o, cap, cur, hb, _, hg, _⟩
  · cases hn
  · injection hb with hb
    subst hb
    exact ne_of_cells hg h.box (by decide) rfl

theorem info44 : (Try.prog.info? 44).map (fun i => (i.zero, i.size, i.bytes)) = some (some (.agg #[.int .i64 0, .int .i64 0, .int .i64 0, .int .i64 0, .slice none 0 0, .int .i64 0]), 6, 64) := by kernel_rfl

/-- What a call of 'pass' leaves. -/
def Passes (w : World) (Bo : Nat) (outs news : List OV) (blk : Option Nat) (e : Ending) (w' : World) : Prop :=
  e = .returned (.tuple #[]) ∧ ∃ v' blk', OutBox w' Bo (outs ++ news) v' blk' ∧ Only (fun b => b = Bo ∨ blk = some b) w w' ∧ (blk' = blk ∨ ∃ g, blk' = some g ∧ w.heap.size ≤ g)

theorem run_checkKey_succ (n : Nat) (b : Bool) (k : Int) (W : World) : (Instr.checkKey b (n + 1) 3 (.int .i64 k)).run Try.prog W = .ok () W := by
  have u3 := Try.underlying3
  simp [Instr.checkKey, run_underlying u3]

theorem run_checkKey_int (b : Bool) (k : Int) (W : World) : (Instr.checkKey b 10000 3 (.int .i64 k)).run Try.prog W = .ok () W := run_checkKey_succ 9999 b k W

theorem lookup_empty (W : World) (r clock : Nat) (k : Int) (h : W.heap[r]? = some (.map #[] clock)) : (Instr.lookup 83 (.map (some r)) (.int .i64 k) false).run Try.prog W = .ok (.pointer none) W := by
  have hz : ∀ w, (zeroValue 93).run Try.prog w = .ok (.pointer none) w := fun w => by kernel_rfl
  have u := Try.underlying83
  have u3 := Try.underlying3
  have ho : (getObj r).run Try.prog W = .ok (.map #[] clock) W := by simp [getObj, Sem.run, h]
  simp [Instr.lookup, run_underlying u, run_underlying u3, ho, run_checkKey_int, Instr.findKey, Instr.findNow, hz]

section walks
set_option maxHeartbeats 1000000
set_option maxRecDepth 100000

theorem f78_any (w : World) (Bo : Nat) (outs news : List OV) (v x : Value) (blk : Option Nat) (h : OutBox w Bo outs v blk) (hs : Src w 6 x news.length (news.flatMap ocl)) (h1 : okCells (news.flatMap ocl)) (hb : outs.length + news.length ≤ 1000000) :
    Calls Try.prog 78 #[x, .pointer (some ⟨Bo, 0, none⟩)] w (Passes w Bo outs news blk) := by
  obtain ⟨c0, cf⟩ := blk1 h.box
  obtain ⟨a, c, rfl⟩ := h.own.form
  have hne := h.ne
  have hlt := heap_lt h.box
  obtain ⟨i0, hi0, hz0, hz1, hz2⟩ := info_parts info44
  have HO := Lib.hid h.own
  have HS := Lib.hid hs
  have H1 := Lib.hid h1
  have HB := Lib.hid h.box
  have HN := Lib.hid hne
  clear h hs h1 hne
  go_enter Try.func78, Try.ntmps78
  go_wp2_with (at_builtin; refine wpList_append_S rfl (.tmp 3) (.tmp 4) 37 rfl 44 i0 _ 6 64 Try.underlying37 hi0 hz0 hz1 hz2 rfl (by omega) (.slice a outs.length c) outs.length (outs.flatMap ocl) blk rfl HO.out x news.length (news.flatMap ocl) rfl HS.out H1.out (by simp only [maxLen]; omega) (by omega) ?_; intro v1 w1 bk1 hown1 hgrow1 hat1; obtain ⟨a1, c1, rfl⟩ := hown1.form; have hb1 : w1.heap[Bo]? = some (.cells #[.slice a outs.length c] 37 (0, 0)) := (hgrow1.block Bo hlt (fun e => HN.out e.symm)).trans HB.out; obtain ⟨d0, df⟩ := blk1 hb1; have HO1 := Lib.hid hown1; have HG1 := Lib.hid hgrow1; have HA1 := Lib.hid hat1; have HB1 := Lib.hid hb1; clear hown1 hgrow1 hat1 hb1)
  go_end0
  refine ⟨rfl, .slice a1 (outs.length + news.length) c1, bk1, ⟨?_, ?_⟩, ?_, ?_⟩
  · have := heap_set (j := 0) HB1.out (.slice a1 (outs.length + news.length) c1)
    simpa using this
  · have hk := HO1.out.keep (w' := w1.setCell ⟨Bo, 0, none⟩ (.slice a1 (outs.length + news.length) c1)) fun g hg => heap_set_ne _ ?_
    · simpa using hk
    · rintro rfl
      rcases HA1.out with e | e
      · exact HN.out (e.symm.trans hg)
      · rw [hg] at e
        injection e with e
        omega
  · exact ((Only.refl _ w).grown HG1.out (fun k hk _ => .inr hk)).setCell (fun _ => .inl rfl) _
  · rcases HA1.out with e | e
    · exact .inl e
    · exact .inr ⟨_, e, Nat.le_refl _⟩

theorem f77_any (w : World) (gs : GS) :
    Calls Try.prog 77 #[.pointer (some ⟨gs.G, 0, none⟩)] w fun e w' => e = .returned (.func (.func 93) #[] #[.pointer (some ⟨w.heap.size, 0, none⟩)]) ∧ w' = w.alloc (.cells #[.pointer (some ⟨gs.G, 0, none⟩)] 25) := by
  go_enter Try.func77, Try.ntmps77
  go_wp2
  go_ret
  exact ⟨rfl, rfl⟩

/-- A slice of its own of what passed. -/
def GivesOuts (w : World) (outs : List OV) (e : Ending) (w' : World) : Prop :=
  ∃ v blk, e = .returned v ∧ SlOwn w' 44 6 v outs.length (outs.flatMap ocl) blk ∧ (∀ g, blk = some g → w.heap.size ≤ g) ∧ Below w.heap.size w w'

/-- A record or a mark, looked at while nothing is noted: it passes. -/
theorem f44_plain (w : World) {D : Nat → Prop} (gs : GS) (m : Gm) (i : Nat) (e : Elem) (a : Option Addr) (len cap : Nat) (h : GateAt w D gs m) (_hi : i < m.n) (hk : (e.k == 3) = false) :
    Calls Try.prog 44 #[.pointer (some ⟨gs.G, 0, none⟩), .int .i64 i, ev e (.slice a len cap)] w (GivesOuts w [(i, (e, .slice a len cap))]) := by
  obtain ⟨g0, g1, g2, g3, g4, gf⟩ := h.cells
  have hk' : (e.k != 3) = true := by simp [bne, hk]
  have hmap := h.hmap
  have HM := Lib.hid hmap
  clear hmap
  go_enter Try.func44, Try.ntmps44
  go_wp2_with fail
  have hb0 : Below w.heap.size w ((w.alloc (Obj.cells #[Value.int IntKind.i64 e.k, Value.int IntKind.i64 e.n, Value.int IntKind.i64 e.t, Value.slice a len cap, Value.int IntKind.i64 e.c] 34)).alloc (Obj.cells #[Value.int IntKind.i64 ↑i, Value.int IntKind.i64 e.k, Value.int IntKind.i64 e.n, Value.int IntKind.i64 e.t, Value.slice a len cap, Value.int IntKind.i64 e.c] 44)) :=
    ((Below.refl _ _).alloc (Nat.le_refl _) _).alloc (by simp) _
  have hn0 := box2_snd w (Obj.cells #[Value.int IntKind.i64 e.k, Value.int IntKind.i64 e.n, Value.int IntKind.i64 e.t, Value.slice a len cap, Value.int IntKind.i64 e.c] 34) (Obj.cells #[Value.int IntKind.i64 ↑i, Value.int IntKind.i64 e.k, Value.int IntKind.i64 e.n, Value.int IntKind.i64 e.t, Value.slice a len cap, Value.int IntKind.i64 e.c] 44)
  generalize ((w.alloc (Obj.cells #[Value.int IntKind.i64 e.k, Value.int IntKind.i64 e.n, Value.int IntKind.i64 e.t, Value.slice a len cap, Value.int IntKind.i64 e.c] 34)).alloc (Obj.cells #[Value.int IntKind.i64 ↑i, Value.int IntKind.i64 e.k, Value.int IntKind.i64 e.n, Value.int IntKind.i64 e.t, Value.slice a len cap, Value.int IntKind.i64 e.c] 44)) = W0 at hb0 hn0 ⊢
  have h0 := h.below hb0
  obtain ⟨g0, g1, g2, g3, g4, gf⟩ := h0.cells
  have hlk := fun n => lookup_empty (W0.drewN n) gs.map gs.clock m.under h0.hmap
  have HN := Lib.hid hn0
  have HB := Lib.hid hb0
  clear h h0 hn0 hb0
  go_quiet (fail)
  clear hlk
  have hfin : GivesOuts w [(i, (e, .slice a len cap))] (.returned (.slice (some ⟨w.heap.size + 1, 0, none⟩) 1 1)) (W0.drewN nq) := by
    refine ⟨_, some (w.heap.size + 1), rfl, ⟨rfl, .inr ⟨_, 0, 1, _, rfl, rfl, HN.out, Nat.le_refl _, by simp [maxLen], by simp, rfl⟩⟩, fun g hg => by cases hg; omega, ?_⟩
    exact HB.out.trans ⟨rfl, rfl, rfl, Nat.le_refl _, fun _ _ => rfl⟩
  have HF := Lib.hid hfin
  clear hfin
  have hpn : ∀ W : World, (binOp .neq 93 (.pointer none) (.pointer none)).run Try.prog W = .ok (.bool false) W := fun W => by kernel_rfl
  rcases Int.lt_or_le 0 m.under with hu | hu
  · go_wp2_with fail
    go_ret
    exact HF.out
  · go_wp2_with fail
    go_ret
    exact HF.out

end walks
end Go.Proofs.Ytdnkfgnjeibjeaa

namespace Go.Proofs.Ytdnkfgnjeibjeaa
open Go.RowKit Go.Shelf

theorem size34 : ∀ W : World, (sizeOf 34).run Try.prog W = .ok 5 W := fun W => by kernel_rfl

/-- 'q = q[1:]' of a queue that is not empty. -/
theorem slice_tail {w : World} {g o n cap : Nat} {xs : List Value} {blk : Option Nat} (h : SlOwn w 34 5 (.slice (some ⟨g, o, none⟩) n cap) n xs blk) (hn : 0 < n) :
    ∃ a', (∀ W : World, (Instr.slice 49 (.slice (some ⟨g, o, none⟩) n cap) (some (.int .i64 1)) none none).run Try.prog W = .ok (.slice (some a') (n - 1) (cap - 1)) W) ∧
      SlOwn w 34 5 (.slice (some a') (n - 1) (cap - 1)) (n - 1) (xs.drop 5) blk := by
  rcases h.2 with ⟨h, _⟩ | ⟨g', o', cap', cur, hb, hv, hg, hnc, hcm, hcs, htk⟩
  · cases h
  injection hv with ha _ hc
  injection ha with ha
  injection ha with hgg ho _
  subst hgg ho hc
  refine ⟨if cap = 1 then ⟨g, o, none⟩ else ⟨g, o + 5, none⟩, ?_, ?_⟩
  · intro W
    have u := Try.underlying49
    have h1 : ¬ n < 1 := by omega
    have h2 : (1 : Int) ≤ (n : Int) := by omega
    have e : (if cap = 1 then (some (⟨g, o, none⟩ : Addr)) else Option.map (fun x => x.add (1 * 5)) (some (⟨g, o, none⟩ : Addr))) = some (if cap = 1 then ⟨g, o, none⟩ else ⟨g, o + 5, none⟩) := by
      by_cases hc : cap = 1
      · rw [if_pos hc, if_pos hc]
      · rw [if_neg hc, if_neg hc]; rfl
    simp [Instr.slice, run_underlying u, Instr.sliceBounds, Instr.sliceBound, asIntOf, h2]
    simpa using e
  · have hl : xs.length = n * 5 := h.1
    refine ⟨by rw [List.length_drop, hl]; omega, .inr ⟨g, if cap = 1 then o else o + 5, cap - 1, cur, hb, ?_, hg, by omega, by simp only [maxLen] at hcm ⊢; omega, ?_, ?_⟩⟩
    · by_cases hc : cap = 1
      · rw [if_pos hc, if_pos hc]
      · rw [if_neg hc, if_neg hc]
    · split <;> omega
    · by_cases hc : cap = 1
      · have : n = 1 := by omega
        subst this
        simp [hl]
      · rw [if_neg hc, ← htk, List.drop_take, List.drop_drop]
        congr 1
        omega

def Inp.pop (x : Inp) (j : Nat) : Inp := { x with queue := x.queue.drop j }

/-- How many elements pass of a queue. -/
def plainLen (q : List EV) : Nat := (q.takeWhile EV.plain).length

theorem plainLen_le (q : List EV) : plainLen q ≤ q.length := by
  unfold plainLen
  exact (List.takeWhile_prefix _).length_le

theorem drop_plainLen (q : List EV) : q.drop (plainLen q) = q.dropWhile EV.plain := by
  unfold plainLen
  conv => lhs; arg 2; rw [← List.takeWhile_append_dropWhile (p := EV.plain) (l := q)]
  rw [List.drop_left]

theorem take_plainLen (q : List EV) : q.take (plainLen q) = q.takeWhile EV.plain := by
  unfold plainLen
  conv => lhs; arg 2; rw [← List.takeWhile_append_dropWhile (p := EV.plain) (l := q)]
  rw [List.take_left]

theorem plain_lt (q : List EV) (j : Nat) (hj : j < plainLen q) : ∃ h : j < q.length, q[j].plain = true := by
  have hl := plainLen_le q
  refine ⟨by omega, ?_⟩
  have hm : q[j] ∈ q.takeWhile EV.plain := by
    rw [← take_plainLen]
    exact List.mem_take_iff_getElem.2 ⟨j, by omega, rfl⟩
  exact List.all_eq_true.1 (List.all_takeWhile (p := EV.plain) (l := q)) _ hm

theorem plain_end (q : List EV) (h : plainLen q < q.length) : q[plainLen q].plain = false := by
  have hd := drop_plainLen q
  have hc := List.drop_eq_getElem_cons h
  rw [hd] at hc
  have := List.head?_dropWhile_not EV.plain q
  rw [hc] at this
  simpa [List.getElem?_eq_getElem h] using this

/-- A queue's beginning is taken away. -/
theorem GateAt.setQ {w w' : World} {D : Nat → Prop} {gs : GS} {m : Gm} (h : GateAt w D gs m) {i : Nat} (hi : i < m.n) (v' : Value) (q' : List EV) (hs : SlOwn w 34 5 v' q'.length (q'.flatMap ecl) (gs.qb i)) (hsub : ∀ p ∈ q', p ∈ (m.inp i).queue)
    (hI : w'.heap[gs.ib i]? = some (.cells (icl { m.inp i with queue := q' } v') 92 (0, 0))) (ho : ∀ b, b ≠ gs.ib i → w'.heap[b]? = w.heap[b]?) :
    GateAt w' D { gs with qv := fun j => if j = i then v' else gs.qv j } (m.upd i { m.inp i with queue := q' }) := by
  have hI' := h.hib i hi
  obtain ⟨cs, hc, hcs⟩ := h.harr
  refine ⟨h.pos, h.le, (ho _ (h.G_ne_ib hi)).trans h.hG, ⟨cs, (ho _ (h.arr_ne_ib hi)).trans hc, hcs⟩, fun j hj => ?_, h.inj, fun j hj => ?_, h.qinj, fun j hj p hp => ?_, h.hD, (ho _ (Ne.symm (h.ib_ne_map hi))).trans h.hmap⟩
  · by_cases e : j = i
    · subst e; simpa [Gm.upd] using hI
    · have := (ho _ (fun e' => e (h.inj j i hj hi e'))).trans (h.hib j hj)
      simpa [Gm.upd, e] using this
  · by_cases e : j = i
    · subst e
      have hk := hs.keep (w' := w') fun g hg => ho _ (h.qb_ne hj hg hI' (by decide))
      simpa [Gm.upd] using hk
    · have hk := (h.hq j hj).keep (w' := w') fun g hg => ho _ (h.qb_ne hj hg hI' (by decide))
      simpa [Gm.upd, e] using hk
  · have hp' : p ∈ (m.inp j).queue := by
      by_cases e : j = i
      · subst e; exact hsub p (by simpa [Gm.upd] using hp)
      · simpa [Gm.upd, e] using hp
    exact (h.hrow j hj p hp').keep fun b hb _ => ho b (fun e => h.hD b hb (e ▸ own_ib gs hi))

/-- The state of 'goOn' while it goes on: the gate, what has passed, its boxes. -/
structure AGood (B : Nat) (D : Nat → Prop) (gs gs' : GS) (Bo Bg Ba Bp Bn : Nat) (w0 : World) (m : Gm) (outs : List OV) (nx : Int) (v : Value) (blk : Option Nat) (W : World) : Prop where
  gate : GateAt W D gs' m
  like : gs.like gs'
  box : OutBox W Bo outs v blk
  new : ∀ g, blk = some g → B ≤ g
  hg : W.heap[Bg]? = some (.cells #[.pointer (some ⟨gs.G, 0, none⟩)] 25 (0, 0))
  ha : W.heap[Ba]? = some (.cells #[.func (.func 76) #[] #[.pointer (some ⟨Bg, 0, none⟩), .pointer (some ⟨Ba, 0, none⟩)]] 134 (0, 0))
  hp : W.heap[Bp]? = some (.cells #[.func (.func 78) #[] #[.pointer (some ⟨Bo, 0, none⟩)]] 135 (0, 0))
  hn : W.heap[Bn]? = some (.cells #[.int .i64 nx] 3 (0, 0))
  rows : ∀ o ∈ outs, RowAt W D o.2.2 o.2.1.row
  only : Only (fun b => gs.own m.n b ∨ B ≤ b) w0 W

/-- What does not turn from call to call. -/
structure ABase (B : Nat) (D : Nat → Prop) (Bo Bg Ba Bp Bn : Nat) (w0 : World) : Prop where
  hD : ∀ b, D b → b < B
  hB : B ≤ w0.heap.size
  bo : B ≤ Bo
  bg : B ≤ Bg
  ba : B ≤ Ba
  bp : B ≤ Bp
  bn : B ≤ Bn

section
variable {B : Nat} {D : Nat → Prop} {gs gs' : GS} {Bo Bg Ba Bp Bn : Nat} {w0 : World} {m : Gm} {outs : List OV} {nx : Int} {v : Value} {blk : Option Nat} {W W' : World}

theorem like_own (h : gs.like gs') (n b : Nat) : gs'.own n b ↔ gs.own n b := by
  unfold GS.own
  rw [h.G, h.arr, h.map, h.ib, h.qb]

theorem AGood.below (h : AGood B D gs gs' Bo Bg Ba Bp Bn w0 m outs nx v blk W) (hb : Below W.heap.size W W') : AGood B D gs gs' Bo Bg Ba Bp Bn w0 m outs nx v blk W' := by
  have hl : ∀ {b o}, W.heap[b]? = some o → W'.heap[b]? = some o := fun hh => (hb.block _ (heap_lt hh)).trans hh
  refine ⟨h.gate.below hb, h.like, ⟨hl h.box.box, h.box.own.keep fun g hg => ?_⟩, h.new, hl h.hg, hl h.ha, hl h.hp, hl h.hn, fun o ho => (h.rows o ho).below hb, h.only.trans (Only.of_below (S := fun _ => False) hb) (fun _ _ hf => hf.elim)⟩
  have := h.box.own
  subst hg
  exact hb.block _ this.blk_lt

/-- A step that turns the box of what passed, and its row. -/
theorem AGood.passed (hA : ABase B D Bo Bg Ba Bp Bn w0) (h : AGood B D gs gs' Bo Bg Ba Bp Bn w0 m outs nx v blk W) {news : List OV} {v' : Value} {blk' : Option Nat}
    (hbox : OutBox W' Bo (outs ++ news) v' blk') (ho : Only (fun b => b = Bo ∨ blk = some b) W W') (hblk : blk' = blk ∨ ∃ g, blk' = some g ∧ W.heap.size ≤ g) (hrows : ∀ o ∈ news, RowAt W D o.2.2 o.2.1.row) :
    AGood B D gs gs' Bo Bg Ba Bp Bn w0 m (outs ++ news) nx v' blk' W' := by
  have hne : ∀ {b : Nat} {c : Array Value} {t : TypeId} {f : Nat × Nat}, W.heap[b]? = some (Obj.cells c t f) → t ≠ 37 → t ≠ 44 → ¬ (b = Bo ∨ blk = some b) := by
    intro b c t f hb h1 h2 hh
    rcases hh with rfl | hh
    · exact ne_of_cells hb h.box.box h1 rfl
    · have := h.box.own
      rw [hh] at this
      rcases this.2 with ⟨_, _, hx⟩ | ⟨g', o, cap, cur, hx, _, hg, _⟩
      · cases hx
      · injection hx with hx; subst hx; exact ne_of_cells hb hg h2 rfl
  have hl : ∀ {b : Nat} {c : Array Value} {t : TypeId} {f : Nat × Nat}, W.heap[b]? = some (Obj.cells c t f) → t ≠ 37 → t ≠ 44 → W'.heap[b]? = some (Obj.cells c t f) := fun hb h1 h2 => (ho.block _ (heap_lt hb) (hne hb h1 h2)).trans hb
  have hsz : B ≤ W.heap.size := Nat.le_trans hA.hB h.only.size
  have hown : ∀ b, gs'.own m.n b → W'.heap[b]? = W.heap[b]? := by
    intro b hb
    rcases hb with rfl | rfl | rfl | ⟨i, hi, rfl⟩ | ⟨i, hi, hb⟩
    · exact (hl h.gate.hG (by decide) (by decide)).trans h.gate.hG.symm
    · obtain ⟨cs, hc, _⟩ := h.gate.harr; exact (hl hc (by decide) (by decide)).trans hc.symm
    · refine ho.block _ (heap_lt h.gate.hmap) ?_
      rintro (hh | hh)
      · exact ne_of_map h.box.box h.gate.hmap hh.symm
      · have := h.box.own
        rw [hh] at this
        rcases this.2 with ⟨_, _, hx⟩ | ⟨g', o, cap, cur, hx, _, hg, _⟩
        · cases hx
        · injection hx with hx; exact ne_of_map hg h.gate.hmap hx.symm
    · exact (hl (h.gate.hib i hi) (by decide) (by decide)).trans (h.gate.hib i hi).symm
    · obtain ⟨cur, hc⟩ := h.gate.qb_cells hi hb
      exact (hl hc (by decide) (by decide)).trans hc.symm
  have hrow : ∀ {r row}, RowAt W D r row → RowAt W' D r row := fun hr => hr.keep fun b hb hlt => ho.block b hlt (fun hh => by
    have := hA.hD b hb
    rcases hh with rfl | hh
    · have := hA.bo; omega
    · have := h.new b hh; omega)
  refine ⟨?_, h.like, hbox, ?_, hl h.hg (by decide) (by decide), hl h.ha (by decide) (by decide), hl h.hp (by decide) (by decide), hl h.hn (by decide) (by decide), fun o hm => ?_, h.only.trans ho (fun x _ hx => ?_)⟩
  · have g := h.gate
    obtain ⟨cs, hc, hcs⟩ := g.harr
    exact ⟨g.pos, g.le, hl g.hG (by decide) (by decide), ⟨cs, hl hc (by decide) (by decide), hcs⟩, fun i hi => hl (g.hib i hi) (by decide) (by decide), g.inj, fun i hi => (g.hq i hi).keep fun b hb => hown b (own_qb gs' hi hb), g.qinj, fun i hi p hp => hrow (g.hrow i hi p hp), g.hD, (hown _ (.inr (.inr (.inl rfl)))).trans g.hmap⟩
  · intro g hg
    rcases hblk with e | ⟨g', e, hle⟩
    · exact h.new g (e ▸ hg)
    · rw [hg] at e; injection e with e; omega
  · rcases List.mem_append.1 hm with hm | hm
    · exact hrow (h.rows o hm)
    · exact hrow (hrows o hm)
  · rcases hx with rfl | hx
    · exact .inr hA.bo
    · exact .inr (h.new x hx)

/-- A step that turns one of the gate's own blocks. -/
theorem AGood.owned (h : AGood B D gs gs' Bo Bg Ba Bp Bn w0 m outs nx v blk W) {gs2 : GS} {m2 : Gm} (hn : m2.n = m.n) (hl2 : gs.like gs2) (hgate : GateAt W' D gs2 m2) (ho : Only (gs'.own m.n) W W') :
    AGood B D gs gs2 Bo Bg Ba Bp Bn w0 m2 outs nx v blk W' := by
  have hne : ∀ {b : Nat} {c : Array Value} {t : TypeId} {f : Nat × Nat}, W.heap[b]? = some (Obj.cells c t f) → t ≠ 88 → t ≠ 90 → t ≠ 92 → t ≠ 34 → ¬ gs'.own m.n b := by
    intro b c t f hb h1 h2 h3 h4 hh
    rcases hh with rfl | rfl | rfl | ⟨i, hi, rfl⟩ | ⟨i, hi, hq⟩
    · exact ne_of_cells hb h.gate.hG h1 rfl
    · obtain ⟨cs, hc, _⟩ := h.gate.harr; exact ne_of_cells hb hc h2 rfl
    · exact ne_of_map hb h.gate.hmap rfl
    · exact ne_of_cells hb (h.gate.hib i hi) h3 rfl
    · obtain ⟨cur, hc⟩ := h.gate.qb_cells hi hq; exact ne_of_cells hb hc h4 rfl
  have hl : ∀ {b : Nat} {c : Array Value} {t : TypeId} {f : Nat × Nat}, W.heap[b]? = some (Obj.cells c t f) → t ≠ 88 → t ≠ 90 → t ≠ 92 → t ≠ 34 → W'.heap[b]? = some (Obj.cells c t f) := fun hb h1 h2 h3 h4 => (ho.block _ (heap_lt hb) (hne hb h1 h2 h3 h4)).trans hb
  refine ⟨hgate, hl2, ⟨hl h.box.box (by decide) (by decide) (by decide) (by decide), h.box.own.keep fun g hg => ?_⟩, h.new, hl h.hg (by decide) (by decide) (by decide) (by decide), hl h.ha (by decide) (by decide) (by decide) (by decide), hl h.hp (by decide) (by decide) (by decide) (by decide), hl h.hn (by decide) (by decide) (by decide) (by decide), fun o hm => (h.rows o hm).keep fun b hb hlt => ho.block b hlt (fun hh => h.gate.hD b hb hh), ?_⟩
  · have := h.box.own
    rw [hg] at this
    rcases this.2 with ⟨_, _, hx⟩ | ⟨g', o, cap, cur, hx, _, hgg, _⟩
    · cases hx
    · injection hx with hx
      subst hx
      exact ho.block _ (heap_lt hgg) (hne hgg (by decide) (by decide) (by decide) (by decide))
  · rw [hn]
    exact h.only.trans ho (fun x _ hx => .inl ((like_own h.like _ _).1 hx))
end

end Go.Proofs.Ytdnkfgnjeibjeaa

namespace Go.Proofs.Ytdnkfgnjeibjeaa
open Go.RowKit Go.Shelf

theorem count_set {l : List Bool} {i : Nat} (h : l[i]? = some false) : ((l.set i true).filter (! ·)).length + 1 = (l.filter (! ·)).length := by
  induction l generalizing i with
  | nil => simp at h
  | cons b l ih =>
    cases i with
    | zero =>
      simp only [List.getElem?_cons_zero, Option.some.injEq] at h
      subst h
      simp
    | succ i =>
      simp only [List.getElem?_cons_succ] at h
      have := ih h
      cases b <;> simp [List.set_cons_succ] <;> omega

/-- What has been carried out holds what it waited for. -/
def Closed (md : Region.Mode) (ops : Array Oper) (listed : Array Bool) : Prop :=
  ∀ j o, ops[j]? = some o → listed.getD j false = true → ∀ e ∈ o.after, Region.binds md e = true → listed.getD e.on false = true

theorem getD_set_true {listed : Array Bool} {i j : Nat} (h : listed.getD j false = true) : (listed.setIfInBounds i true).getD j false = true := by
  by_cases e : i = j
  · subst e
    rcases Nat.lt_or_ge i listed.size with h' | h'
    · simp [h']
    · simp [Array.getElem?_eq_none h'] at h
  · simpa [Array.getElem?_setIfInBounds, e] using h

theorem Closed.step {md : Region.Mode} {ops : Array Oper} {listed : Array Bool} {i : Nat} {o : Oper} (h : Closed md ops listed) (ho : ops[i]? = some o) (hd : ∀ e ∈ o.after, Region.binds md e = true → listed.getD e.on false = true) : Closed md ops (listed.setIfInBounds i true) := by
  intro j oj hj hl e he hb
  by_cases c : i = j
  · subst c
    rw [ho] at hj
    injection hj with hj
    subst hj
    exact getD_set_true (hd e he hb)
  · refine getD_set_true (h j oj hj ?_ e he hb)
    simpa [Array.getElem?_setIfInBounds, c] using hl

/-- A region that draws its order: one invariant for whatever has been carried out. -/
theorem wpAnyIn_inv {F : Fence} {n : Nat} {P : Program} {md : Region.Mode} {ops : Array Oper} {Q : Exit → Act → World → Prop} (St : Array Bool → Act → World → Prop)
    (hstep : ∀ listed a w i o, St listed a w → Closed md ops listed → ops[i]? = some o → listed.getD i true = false → (∀ e ∈ o.after, Region.binds md e = true → listed.getD e.on false = true) →
      wpOpIn F n P ops Q i (fun a' w' => St (listed.setIfInBounds i true) a' w') a w)
    (hend : ∀ listed a w, St listed a w → Region.ready md ops listed = [] → Q .normal a w) :
    ∀ (fuel : Nat) (listed : Array Bool) (a : Act) (w : World), St listed a w → Closed md ops listed → (listed.toList.filter (! ·)).length ≤ fuel → wpAnyIn F n P md ops Q fuel listed a w := by
  intro fuel
  induction fuel with
  | zero =>
    intro listed a w hs _ hc
    have hr : Region.ready md ops listed = [] := by
      cases hr : Region.ready md ops listed with
      | nil => rfl
      | cons j js =>
        exfalso
        have hj : j ∈ Region.ready md ops listed := by rw [hr]; exact List.mem_cons_self
        have h0 := (mem_ready.1 hj).1
        have hx : listed.toList[j]? = some false := by
          rcases Nat.lt_or_ge j listed.size with h' | h'
          · simp [h'] at h0 ⊢; exact h0
          · simp [Array.getElem?_eq_none h'] at h0
        have := count_set hx
        omega
    exact ⟨hr, hend _ _ _ hs hr⟩
  | succ fuel ih =>
    intro listed a w hs hcl hc
    refine ⟨fun hr => hend _ _ _ hs hr, fun i hi => ?_⟩
    obtain ⟨h0, o, ho, hd⟩ := mem_ready.1 hi
    refine wpOpIn_mono (fun a' w' hs' => ih _ a' w' hs' (hcl.step ho hd) ?_) (hstep _ _ _ _ _ hs hcl ho h0 hd)
    have hx : listed.toList[i]? = some false := by
      rcases Nat.lt_or_ge i listed.size with h' | h'
      · simp [h'] at h0 ⊢; exact h0
      · simp [Array.getElem?_eq_none h'] at h0
    have := count_set hx
    rw [Array.toList_setIfInBounds]
    omega

/-- The frame while slots d, d + 1, .. are filled in whatever order. -/
def fillT (base : Array Value) (d k : Nat) (val : Nat → Value) (listed : Array Bool) : Array Value :=
  base.mapIdx fun s v => if d ≤ s ∧ s < d + k ∧ listed.getD (s - d) false = true then val (s - d) else v

theorem fillT_size (base : Array Value) (d k : Nat) (val : Nat → Value) (listed : Array Bool) : (fillT base d k val listed).size = base.size := by simp [fillT]

theorem fillT_old {base : Array Value} {d k : Nat} {val : Nat → Value} {listed : Array Bool} {s : Nat} (h : s < d ∨ d + k ≤ s) : (fillT base d k val listed)[s]? = base[s]? := by
  simp only [fillT, Array.getElem?_mapIdx]
  cases base[s]? with
  | none => rfl
  | some v => simp only [Option.map_some]; rw [if_neg (by omega)]

theorem fillT_new {base : Array Value} {d k : Nat} {val : Nat → Value} {listed : Array Bool} {i : Nat} (h : i < k) (hs : d + k ≤ base.size) (hl : listed.getD i false = true) : (fillT base d k val listed)[d + i]? = some (val i) := by
  simp only [fillT, Array.getElem?_mapIdx]
  have : base[d + i]? = some (base[d + i]'(by omega)) := Array.getElem?_eq_getElem (by omega)
  rw [this]
  simp only [Option.map_some]
  have e : d + i - d = i := by omega
  rw [if_pos ⟨by omega, by omega, by rw [e]; exact hl⟩, e]

theorem fillT_put {base : Array Value} {d k : Nat} {val : Nat → Value} {listed : Array Bool} {i : Nat} (h : i < k) (hk : k ≤ listed.size) (hs : d + k ≤ base.size) :
    (fillT base d k val listed).setIfInBounds (d + i) (val i) = fillT base d k val (listed.setIfInBounds i true) := by
  apply Array.ext_getElem?
  intro s
  rw [Array.getElem?_setIfInBounds]
  by_cases e : d + i = s
  · subst e
    rw [if_pos rfl, if_pos (by rw [fillT_size]; omega)]
    rw [fillT_new h hs (by simp; omega)]
  · rw [if_neg e]
    simp only [fillT, Array.getElem?_mapIdx]
    cases base[s]? with
    | none => rfl
    | some v =>
      simp only [Option.map_some]
      by_cases hh : d ≤ s ∧ s < d + k
      · have e2 : i ≠ s - d := by omega
        have e3 : (listed.setIfInBounds i true).getD (s - d) false = listed.getD (s - d) false := by
          simp [e2]
        rw [e3]
      · rw [if_neg (by omega), if_neg (by omega)]

/-- Another value in a slot that is not filled yet. -/
theorem fillT_congr {base : Array Value} {d k : Nat} {val val' : Nat → Value} {listed : Array Bool} (h : ∀ i, i < k → listed.getD i false = true → val i = val' i) : fillT base d k val listed = fillT base d k val' listed := by
  apply Array.ext_getElem?
  intro s
  simp only [fillT, Array.getElem?_mapIdx]
  cases base[s]? with
  | none => rfl
  | some v =>
    simp only [Option.map_some]
    by_cases hh : d ≤ s ∧ s < d + k ∧ listed.getD (s - d) false = true
    · rw [if_pos hh, if_pos hh, h (s - d) (by omega) hh.2.2]
    · rw [if_neg hh, if_neg hh]

end Go.Proofs.Ytdnkfgnjeibjeaa

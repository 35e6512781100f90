import Derived.Test.YtdnkfgnjeibjeaaA6
import Derived.Handy
namespace Go.Proofs.Ytdnkfgnjeibjeaa
open Go.RowKit

/-- An element, with its row's slice value. -/
abbrev EV := Elem × Value

def ecl (p : EV) : List Value := [.int .i64 p.1.k, .int .i64 p.1.n, .int .i64 p.1.t, p.2, .int .i64 p.1.c]
theorem ecl_len (p : EV) : (ecl p).length = 5 := rfl

structure Inp where
  last : Int
  closed : Bool
  queue : List EV
  sent : Bool
  holds : Bool

/-- A gate, as the program has it. -/
structure Gm where
  n : Nat
  al : Bool
  inp : Nat → Inp
  under : Int
  done : Int

/-- Where a gate lies. -/
structure GS where
  G : Nat
  arr : Nat
  cap : Nat
  map : Nat
  clock : Nat
  ib : Nat → Nat
  qv : Nat → Value
  qb : Nat → Option Nat

/-- The blocks of a gate. -/
def GS.own (gs : GS) (n : Nat) (b : Nat) : Prop := b = gs.G ∨ b = gs.arr ∨ b = gs.map ∨ (∃ i, i < n ∧ b = gs.ib i) ∨ (∃ i, i < n ∧ gs.qb i = some b)

abbrev howV (al : Bool) : Value := .iface (if al then 89 else 82) (.agg #[])

abbrev gcl (gs : GS) (m : Gm) : Array Value := #[.slice (some ⟨gs.arr, 0, none⟩) m.n gs.cap, howV m.al, .int .i64 m.under, .int .i64 m.done, .map (some gs.map)]
abbrev icl (x : Inp) (qv : Value) : Array Value := #[.int .i64 x.last, .bool x.closed, qv, .bool x.sent, .bool x.holds]

structure GateAt (w : World) (D : Nat → Prop) (gs : GS) (m : Gm) : Prop where
  pos : 0 < m.n
  le : m.n ≤ 200
  hG : w.heap[gs.G]? = some (.cells (gcl gs m) 88 (0, 0))
  harr : ∃ cs, w.heap[gs.arr]? = some (.cells cs 90 (0, 0)) ∧ ∀ i, i < m.n → cs[i]? = some (.pointer (some ⟨gs.ib i, 0, none⟩))
  hib : ∀ i, i < m.n → w.heap[gs.ib i]? = some (.cells (icl (m.inp i) (gs.qv i)) 92 (0, 0))
  inj : ∀ i j, i < m.n → j < m.n → gs.ib i = gs.ib j → i = j
  hq : ∀ i, i < m.n → SlOwn w 34 5 (gs.qv i) (m.inp i).queue.length ((m.inp i).queue.flatMap ecl) (gs.qb i)
  qinj : ∀ i j g, i < m.n → j < m.n → gs.qb i = some g → gs.qb j = some g → i = j
  hrow : ∀ i, i < m.n → ∀ p ∈ (m.inp i).queue, RowAt w D p.2 p.1.row
  hD : ∀ b, D b → ¬ gs.own m.n b
  hmap : w.heap[gs.map]? = some (.map #[] gs.clock)

/-- No block of a gate is beyond the heap. -/
theorem GateAt.lt {w : World} {D : Nat → Prop} {gs : GS} {m : Gm} (h : GateAt w D gs m) {b : Nat} (hb : gs.own m.n b) : b < w.heap.size := by
  rcases hb with rfl | rfl | rfl | ⟨i, hi, rfl⟩ | ⟨i, hi, hb⟩
  · exact heap_lt h.hG
  · obtain ⟨cs, hc, _⟩ := h.harr; exact heap_lt hc
  · exact heap_lt h.hmap
  · exact heap_lt (h.hib i hi)
  · have := h.hq i hi
    rw [hb] at this
    exact this.blk_lt

/-- A gate whose blocks, and whose elements' rows, lie as they lay. -/
theorem GateAt.keep {w w' : World} {D : Nat → Prop} {gs : GS} {m : Gm} (h : GateAt w D gs m) (hk : ∀ b, b < w.heap.size → w'.heap[b]? = w.heap[b]?) : GateAt w' D gs m := by
  have hl : ∀ {b o}, w.heap[b]? = some o → w'.heap[b]? = some o := fun hb => (hk _ (heap_lt hb)).trans hb
  refine ⟨h.pos, h.le, hl h.hG, ?_, fun i hi => hl (h.hib i hi), h.inj, fun i hi => (h.hq i hi).keep fun g hg => hk g (h.lt (.inr (.inr (.inr (.inr ⟨i, hi, hg⟩))))), h.qinj, fun i hi p hp => (h.hrow i hi p hp).keep fun b _ hlt => hk b hlt, h.hD, hl h.hmap⟩
  obtain ⟨cs, hc, hcs⟩ := h.harr
  exact ⟨cs, hl hc, hcs⟩

theorem GateAt.below {w w' : World} {D : Nat → Prop} {gs : GS} {m : Gm} (h : GateAt w D gs m) (hb : Below w.heap.size w w') : GateAt w' D gs m := h.keep fun b hlt => hb.block b hlt

/-- The cells that a walk reads of a gate. -/
structure GCells (w : World) (gs : GS) (m : Gm) : Prop where
  g0 : w.cell? ⟨gs.G, 0, none⟩ = some (.slice (some ⟨gs.arr, 0, none⟩) m.n gs.cap)
  g1 : w.cell? ⟨gs.G, 1, none⟩ = some (howV m.al)
  g2 : w.cell? ⟨gs.G, 2, none⟩ = some (.int .i64 m.under)
  g3 : w.cell? ⟨gs.G, 3, none⟩ = some (.int .i64 m.done)
  g4 : w.cell? ⟨gs.G, 4, none⟩ = some (.map (some gs.map))
  gf : ∀ o, w.frozen? ⟨gs.G, o, none⟩ = false

theorem GateAt.cells {w : World} {D : Nat → Prop} {gs : GS} {m : Gm} (h : GateAt w D gs m) : GCells w gs m := by
  obtain ⟨h0, h1, h2, h3, h4, hf⟩ := blk5 h.hG
  exact ⟨h0, h1, h2, h3, h4, hf⟩

theorem GateAt.arr_cell {w : World} {D : Nat → Prop} {gs : GS} {m : Gm} (h : GateAt w D gs m) {i : Nat} (hi : i < m.n) : w.cell? ⟨gs.arr, i, none⟩ = some (.pointer (some ⟨gs.ib i, 0, none⟩)) := by
  obtain ⟨cs, hc, hcs⟩ := h.harr
  rw [cell_of_row w gs.arr i cs 90 (0, 0) hc]
  exact hcs i hi

structure ICells (w : World) (gs : GS) (m : Gm) (i : Nat) : Prop where
  a : w.cell? ⟨gs.arr, i, none⟩ = some (.pointer (some ⟨gs.ib i, 0, none⟩))
  i0 : w.cell? ⟨gs.ib i, 0, none⟩ = some (.int .i64 (m.inp i).last)
  i1 : w.cell? ⟨gs.ib i, 1, none⟩ = some (.bool (m.inp i).closed)
  i2 : w.cell? ⟨gs.ib i, 2, none⟩ = some (gs.qv i)
  i3 : w.cell? ⟨gs.ib i, 3, none⟩ = some (.bool (m.inp i).sent)
  i4 : w.cell? ⟨gs.ib i, 4, none⟩ = some (.bool (m.inp i).holds)
  fr : ∀ o, w.frozen? ⟨gs.ib i, o, none⟩ = false

theorem GateAt.icells {w : World} {D : Nat → Prop} {gs : GS} {m : Gm} (h : GateAt w D gs m) {i : Nat} (hi : i < m.n) : ICells w gs m i := by
  obtain ⟨h0, h1, h2, h3, h4, hf⟩ := blk5 (h.hib i hi)
  exact ⟨h.arr_cell hi, h0, h1, h2, h3, h4, hf⟩

section walks
set_option maxHeartbeats 400000
set_option maxRecDepth 100000

theorem f126_any (w : World) : Calls Try.prog 126 #[.agg #[]] w fun e w' => e = .returned (.bool true) ∧ Below w.heap.size w w' := by
  go_enter Try.func126, Try.ntmps126
  go_wp2
  go_ret
  exact ⟨rfl, (Below.refl _ _).alloc (Nat.le_refl _) _⟩

theorem f121_any (w : World) : Calls Try.prog 121 #[.agg #[]] w fun e w' => e = .returned (.bool false) ∧ Below w.heap.size w w' := by
  go_enter Try.func121, Try.ntmps121
  go_wp2
  go_ret
  exact ⟨rfl, (Below.refl _ _).alloc (Nat.le_refl _) _⟩

def Gm.blocked (m : Gm) (i : Nat) : Bool := m.al && decide (0 < m.under) && (m.inp i).sent

theorem f41_any (w : World) {D : Nat → Prop} (gs : GS) (m : Gm) (i : Nat) (h : GateAt w D gs m) (hi : i < m.n) :
    Calls Try.prog 41 #[.pointer (some ⟨gs.G, 0, none⟩), .int .i64 i] w fun e w' => e = .returned (.bool (m.blocked i)) ∧ Below w.heap.size w w' := by
  obtain ⟨g0, g1, g2, g3, g4, gf⟩ := h.cells
  have j1 : (0 : Int) ≤ (i : Int) := by omega
  have j2 : (i : Int) < (m.n : Int) := by omega
  have hK := fun (w' : World) (hb : Below w.heap.size w w') => And.intro (h.below hb).cells ((h.below hb).icells hi)
  have HK := Lib.hid hK
  clear hK h
  cases hal : m.al
  · rw [hal] at g1
    simp only [howV, Bool.false_eq_true, if_false] at g1
    go_enter Try.func41, Try.ntmps41
    go_wp2_with (go_at_call 121; refine (f121_any _).mono ?_; rintro e w' ⟨rfl, hb⟩)
    go_ret
    exact ⟨ret_bool (by simp [Gm.blocked, hal]), hb⟩
  · rw [hal] at g1
    simp only [howV, if_true] at g1
    rcases Int.lt_or_le 0 m.under with hu | hu
    · go_enter Try.func41, Try.ntmps41
      go_wp2_with (go_at_call 126; refine (f126_any _).mono ?_; rintro e w' ⟨rfl, hb⟩; obtain ⟨⟨g0, g1, g2, g3, g4, gf⟩, ⟨ia, i0, i1, i2, i3, i4, ifr⟩⟩ := HK.out _ hb)
      go_ret
      exact ⟨ret_bool (by simp [Gm.blocked, hal, hu]), hb⟩
    · have hu' : ¬ 0 < m.under := by omega
      go_enter Try.func41, Try.ntmps41
      go_wp2_with (go_at_call 126; refine (f126_any _).mono ?_; rintro e w' ⟨rfl, hb⟩; obtain ⟨⟨g0, g1, g2, g3, g4, gf⟩, ⟨ia, i0, i1, i2, i3, i4, ifr⟩⟩ := HK.out _ hb)
      go_ret
      exact ⟨ret_bool (by simp [Gm.blocked, hal]; omega), hb⟩

end walks
end Go.Proofs.Ytdnkfgnjeibjeaa

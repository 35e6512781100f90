import Derived.Test.YtdnkfgnjeibjeaaMF
import Derived.Test.YtdnkfgnjeibjeaaJ1
namespace Go.Proofs.Ytdnkfgnjeibjeaa.W
open Go.RowKit Go.Shelf
/-- Where a gate lies. -/
structure GS where
  G : Nat
  arr : Nat
  cap : Nat
  map : Nat
  clock : Nat
  ents : Array MapEntry
  ib : Nat → Nat
  qv : Nat → Value
  qb : Nat → Option Nat

/-- The blocks of a gate. -/
def GS.own (gs : GS) (n : Nat) (b : Nat) : Prop := b = gs.G ∨ b = gs.arr ∨ b = gs.map ∨ (∃ i, i < n ∧ b = gs.ib i) ∨ (∃ i, i < n ∧ gs.qb i = some b)

abbrev gcl (gs : GS) (m : Gm) : Array Value := #[.slice (some ⟨gs.arr, 0, none⟩) m.n gs.cap, howV m.al, .int .i64 m.under, .int .i64 m.done, .map (some gs.map)]
structure GateAt (w : World) (D : Nat → Prop) (gs : GS) (m : Gm) : Prop where
  pos : 0 < m.n
  le : m.n ≤ 200
  hG : w.heap[gs.G]? = some (.cells (gcl gs m) 88 (0, 0))
  harr : ∃ cs, w.heap[gs.arr]? = some (.cells cs 90 (0, 0)) ∧ ∀ i, i < m.n → cs[i]? = some (.pointer (some ⟨gs.ib i, 0, none⟩))
  hib : ∀ i, i < m.n → w.heap[gs.ib i]? = some (.cells (icl (m.inp i) (gs.qv i)) 92 (0, 0))
  inj : ∀ i j, i < m.n → j < m.n → gs.ib i = gs.ib j → i = j
  hq : ∀ i, i < m.n → SlOwn w 34 5 (gs.qv i) (m.inp i).queue.length ((m.inp i).queue.flatMap ecl) (gs.qb i)
  qinj : ∀ i j g, i < m.n → j < m.n → gs.qb i = some g → gs.qb j = some g → i = j
  hrow : ∀ i, i < m.n → ∀ p ∈ (m.inp i).queue, RowAt w D p.2 p.1.row
  hD : ∀ b, D b → ¬ gs.own m.n b
  hmap : w.heap[gs.map]? = some (.map gs.ents gs.clock)

/-- No block of a gate is beyond the heap. -/
theorem GateAt.lt {w : World} {D : Nat → Prop} {gs : GS} {m : Gm} (h : GateAt w D gs m) {b : Nat} (hb : gs.own m.n b) : b < w.heap.size := by
  rcases hb with rfl | rfl | rfl | ⟨i, hi, rfl⟩ | ⟨i, hi, hb⟩
  · exact heap_lt h.hG
  · obtain ⟨cs, hc, _⟩ := h.harr; exact heap_lt hc
  · exact heap_lt h.hmap
  · exact heap_lt (h.hib i hi)
  · have := h.hq i hi
    rw [hb] at this
    exact this.blk_lt

/-- A gate whose blocks, and whose elements' rows, lie as they lay. -/
theorem GateAt.keep {w w' : World} {D : Nat → Prop} {gs : GS} {m : Gm} (h : GateAt w D gs m) (hk : ∀ b, b < w.heap.size → w'.heap[b]? = w.heap[b]?) : GateAt w' D gs m := by
  have hl : ∀ {b o}, w.heap[b]? = some o → w'.heap[b]? = some o := fun hb => (hk _ (heap_lt hb)).trans hb
  refine ⟨h.pos, h.le, hl h.hG, ?_, fun i hi => hl (h.hib i hi), h.inj, fun i hi => (h.hq i hi).keep fun g hg => hk g (h.lt (.inr (.inr (.inr (.inr ⟨i, hi, hg⟩))))), h.qinj, fun i hi p hp => (h.hrow i hi p hp).keep fun b _ hlt => hk b hlt, h.hD, hl h.hmap⟩
  obtain ⟨cs, hc, hcs⟩ := h.harr
  exact ⟨cs, hl hc, hcs⟩

theorem GateAt.below {w w' : World} {D : Nat → Prop} {gs : GS} {m : Gm} (h : GateAt w D gs m) (hb : Below w.heap.size w w') : GateAt w' D gs m := h.keep fun b hlt => hb.block b hlt

/-- The cells that a walk reads of a gate. -/
structure GCells (w : World) (gs : GS) (m : Gm) : Prop where
  g0 : w.cell? ⟨gs.G, 0, none⟩ = some (.slice (some ⟨gs.arr, 0, none⟩) m.n gs.cap)
  g1 : w.cell? ⟨gs.G, 1, none⟩ = some (howV m.al)
  g2 : w.cell? ⟨gs.G, 2, none⟩ = some (.int .i64 m.under)
  g3 : w.cell? ⟨gs.G, 3, none⟩ = some (.int .i64 m.done)
  g4 : w.cell? ⟨gs.G, 4, none⟩ = some (.map (some gs.map))
  gf : ∀ o, w.frozen? ⟨gs.G, o, none⟩ = false

theorem GateAt.cells {w : World} {D : Nat → Prop} {gs : GS} {m : Gm} (h : GateAt w D gs m) : GCells w gs m := by
  obtain ⟨h0, h1, h2, h3, h4, hf⟩ := blk5 h.hG
  exact ⟨h0, h1, h2, h3, h4, hf⟩

theorem GateAt.arr_cell {w : World} {D : Nat → Prop} {gs : GS} {m : Gm} (h : GateAt w D gs m) {i : Nat} (hi : i < m.n) : w.cell? ⟨gs.arr, i, none⟩ = some (.pointer (some ⟨gs.ib i, 0, none⟩)) := by
  obtain ⟨cs, hc, hcs⟩ := h.harr
  rw [cell_of_row w gs.arr i cs 90 (0, 0) hc]
  exact hcs i hi

structure ICells (w : World) (gs : GS) (m : Gm) (i : Nat) : Prop where
  a : w.cell? ⟨gs.arr, i, none⟩ = some (.pointer (some ⟨gs.ib i, 0, none⟩))
  i0 : w.cell? ⟨gs.ib i, 0, none⟩ = some (.int .i64 (m.inp i).last)
  i1 : w.cell? ⟨gs.ib i, 1, none⟩ = some (.bool (m.inp i).closed)
  i2 : w.cell? ⟨gs.ib i, 2, none⟩ = some (gs.qv i)
  i3 : w.cell? ⟨gs.ib i, 3, none⟩ = some (.bool (m.inp i).sent)
  i4 : w.cell? ⟨gs.ib i, 4, none⟩ = some (.bool (m.inp i).holds)
  fr : ∀ o, w.frozen? ⟨gs.ib i, o, none⟩ = false

theorem GateAt.icells {w : World} {D : Nat → Prop} {gs : GS} {m : Gm} (h : GateAt w D gs m) {i : Nat} (hi : i < m.n) : ICells w gs m i := by
  obtain ⟨h0, h1, h2, h3, h4, hf⟩ := blk5 (h.hib i hi)
  exact ⟨h.arr_cell hi, h0, h1, h2, h3, h4, hf⟩

section walks
set_option maxHeartbeats 400000
set_option maxRecDepth 100000

theorem f41_any (w : World) {D : Nat → Prop} (gs : GS) (m : Gm) (i : Nat) (h : GateAt w D gs m) (hi : i < m.n) :
    Calls Try.prog 41 #[.pointer (some ⟨gs.G, 0, none⟩), .int .i64 i] w fun e w' => e = .returned (.bool (m.blocked i)) ∧ Below w.heap.size w w' := by
  obtain ⟨g0, g1, g2, g3, g4, gf⟩ := h.cells
  have j1 : (0 : Int) ≤ (i : Int) := by omega
  have j2 : (i : Int) < (m.n : Int) := by omega
  have hK := fun (w' : World) (hb : Below w.heap.size w w') => And.intro (h.below hb).cells ((h.below hb).icells hi)
  have HK := Lib.hid hK
  clear hK h
  cases hal : m.al
  · rw [hal] at g1
    simp only [howV, Bool.false_eq_true, if_false] at g1
    go_enter Try.func41, Try.ntmps41
    go_wp2_with (go_at_call 121; refine (f121_any _).mono ?_; rintro e w' ⟨rfl, hb⟩)
    go_ret
    exact ⟨ret_bool (by simp [Gm.blocked, hal]), hb⟩
  · rw [hal] at g1
    simp only [howV, if_true] at g1
    rcases Int.lt_or_le 0 m.under with hu | hu
    · go_enter Try.func41, Try.ntmps41
      go_wp2_with (go_at_call 126; refine (f126_any _).mono ?_; rintro e w' ⟨rfl, hb⟩; obtain ⟨⟨g0, g1, g2, g3, g4, gf⟩, ⟨ia, i0, i1, i2, i3, i4, ifr⟩⟩ := HK.out _ hb)
      go_ret
      exact ⟨ret_bool (by simp [Gm.blocked, hal, hu]), hb⟩
    · have hu' : ¬ 0 < m.under := by omega
      go_enter Try.func41, Try.ntmps41
      go_wp2_with (go_at_call 126; refine (f126_any _).mono ?_; rintro e w' ⟨rfl, hb⟩; obtain ⟨⟨g0, g1, g2, g3, g4, gf⟩, ⟨ia, i0, i1, i2, i3, i4, ifr⟩⟩ := HK.out _ hb)
      go_ret
      exact ⟨ret_bool (by simp [Gm.blocked, hal]; omega), hb⟩

end walks
section
variable {w w' : World} {D : Nat → Prop} {gs : GS} {m : Gm}

theorem GateAt.G_ne_ib (h : GateAt w D gs m) {i : Nat} (hi : i < m.n) : gs.G ≠ gs.ib i := ne_of_cells h.hG (h.hib i hi) (by decide)
theorem GateAt.arr_ne_ib (h : GateAt w D gs m) {i : Nat} (hi : i < m.n) : gs.arr ≠ gs.ib i := by obtain ⟨cs, hc, _⟩ := h.harr; exact ne_of_cells hc (h.hib i hi) (by decide)
theorem GateAt.arr_ne_G (h : GateAt w D gs m) : gs.arr ≠ gs.G := by obtain ⟨cs, hc, _⟩ := h.harr; exact ne_of_cells hc h.hG (by decide)
theorem GateAt.ib_ne_map (h : GateAt w D gs m) {i : Nat} (hi : i < m.n) : gs.ib i ≠ gs.map := ne_of_map (h.hib i hi) h.hmap
theorem GateAt.G_ne_map (h : GateAt w D gs m) : gs.G ≠ gs.map := ne_of_map h.hG h.hmap
theorem GateAt.qb_cells (h : GateAt w D gs m) {i g : Nat} (hi : i < m.n) (hg : gs.qb i = some g) : ∃ cur, w.heap[g]? = some (.cells cur 34 (0, 0)) := by
  rcases (h.hq i hi).2 with ⟨_, _, hn⟩ | ⟨g', o, cap, cur, hb, _, hc, _⟩
  · rw [hg] at hn; cases hn
  · rw [hg] at hb; injection hb with hb; subst hb; exact ⟨cur, hc⟩
theorem GateAt.qb_ne (h : GateAt w D gs m) {i g b : Nat} (hi : i < m.n) (hg : gs.qb i = some g) {c : Array Value} {t : TypeId} {f : Nat × Nat} (hb : w.heap[b]? = some (.cells c t f)) (ht : t ≠ 34) : g ≠ b := by
  obtain ⟨cur, hc⟩ := h.qb_cells hi hg
  exact ne_of_cells hc hb (fun e => ht e.symm)

theorem own_ib (gs : GS) {n i : Nat} (hi : i < n) : gs.own n (gs.ib i) := .inr (.inr (.inr (.inl ⟨i, hi, rfl⟩)))
theorem own_G (gs : GS) (n : Nat) : gs.own n gs.G := .inl rfl
theorem own_qb (gs : GS) {n i g : Nat} (hi : i < n) (hg : gs.qb i = some g) : gs.own n g := .inr (.inr (.inr (.inr ⟨i, hi, hg⟩)))

/-- The gate's own cells turn: the barrier under way, the greatest one done. -/
theorem GateAt.setG (h : GateAt w D gs m) (u d : Int) (hG : w'.heap[gs.G]? = some (.cells (gcl gs { m with under := u, done := d }) 88 (0, 0))) (ho : ∀ b, b ≠ gs.G → w'.heap[b]? = w.heap[b]?) :
    GateAt w' D gs { m with under := u, done := d } := by
  have hG' := h.hG
  obtain ⟨cs, hc, hcs⟩ := h.harr
  refine ⟨h.pos, h.le, hG, ⟨cs, (ho _ h.arr_ne_G).trans hc, hcs⟩, fun i hi => (ho _ (Ne.symm (h.G_ne_ib hi))).trans (h.hib i hi), h.inj, fun i hi => (h.hq i hi).keep fun g hg => ho _ (h.qb_ne hi hg hG' (by decide)), h.qinj, ?_, h.hD, (ho _ (Ne.symm h.G_ne_map)).trans h.hmap⟩
  intro i hi p hp
  exact (h.hrow i hi p hp).keep fun b hb _ => ho b (fun e => h.hD b hb (e ▸ own_G gs m.n))

/-- An input's own cells turn; its queue stays. -/
theorem GateAt.setI (h : GateAt w D gs m) {i : Nat} (hi : i < m.n) (x : Inp) (hx : x.queue = (m.inp i).queue) (hI : w'.heap[gs.ib i]? = some (.cells (icl x (gs.qv i)) 92 (0, 0))) (ho : ∀ b, b ≠ gs.ib i → w'.heap[b]? = w.heap[b]?) :
    GateAt w' D gs (m.upd i x) := by
  have hI' := h.hib i hi
  obtain ⟨cs, hc, hcs⟩ := h.harr
  refine ⟨h.pos, h.le, (ho _ (h.G_ne_ib hi)).trans h.hG, ⟨cs, (ho _ (h.arr_ne_ib hi)).trans hc, hcs⟩, fun j hj => ?_, h.inj, fun j hj => ?_, h.qinj, fun j hj p hp => ?_, h.hD, (ho _ (Ne.symm (h.ib_ne_map hi))).trans h.hmap⟩
  · by_cases e : j = i
    · subst e; simpa [Gm.upd] using hI
    · have := (ho _ (fun e' => e (h.inj j i hj hi e'))).trans (h.hib j hj)
      simpa [Gm.upd, e] using this
  · have hk := (h.hq j hj).keep (w' := w') fun g hg => ho _ (h.qb_ne hj hg hI' (by decide))
    by_cases e : j = i
    · subst e; simpa [Gm.upd, hx] using hk
    · simpa [Gm.upd, e] using hk
  · have hp' : p ∈ (m.inp j).queue := by
      by_cases e : j = i
      · subst e; simpa [Gm.upd, hx] using hp
      · simpa [Gm.upd, e] using hp
    exact (h.hrow j hj p hp').keep fun b hb _ => ho b (fun e => h.hD b hb (e ▸ own_ib gs hi))
end

theorem GateAt.congr {w : World} {D : Nat → Prop} {gs : GS} {m m' : Gm} (h : GateAt w D gs m) (h1 : m'.n = m.n) (h2 : m'.al = m.al) (h3 : m'.under = m.under) (h4 : m'.done = m.done) (h5 : ∀ i, i < m.n → m'.inp i = m.inp i) : GateAt w D gs m' := by
  obtain ⟨n, al, inp, u, d⟩ := m
  obtain ⟨n', al', inp', u', d'⟩ := m'
  subst h1 h2 h3 h4
  dsimp only at h5
  refine ⟨h.pos, h.le, h.hG, h.harr, fun i hi => ?_, h.inj, fun i hi => ?_, h.qinj, fun i hi p hp => ?_, h.hD, h.hmap⟩
  · have := h.hib i hi; dsimp only at this ⊢; rw [h5 i hi]; exact this
  · have := h.hq i hi; dsimp only at this ⊢; rw [h5 i hi]; exact this
  · dsimp only at hp; rw [h5 i hi] at hp; exact h.hrow i hi p hp

section walks
set_option maxHeartbeats 800000
set_option maxRecDepth 100000

theorem f54_any (w : World) {D : Nat → Prop} (gs : GS) (m : Gm) (h : GateAt w D gs m) :
    Calls Try.prog 54 #[.pointer (some ⟨gs.G, 0, none⟩)] w fun e w' => e = .returned (.tuple #[]) ∧ GateAt w' D gs m.ends ∧ Only (gs.own m.n) w w' := by
  obtain ⟨g0, g1, g2, g3, g4, gf⟩ := h.cells
  have H := Lib.hid h
  have hle := h.le
  clear h
  go_enter Try.func54, Try.ntmps54
  go_wp2_with fail
  go_still_tail 12, (by kernel_rfl)
  change wpList _ _ _ _ _ w.drew
  have hdr : Below w.heap.size w w.drew := (Below.refl _ _).drew
  generalize w.drew = w2 at hdr
  have h2 := H.out.below hdr
  obtain ⟨g0, g1, g2, g3, g4, gf⟩ := h2.cells
  have HD := Lib.hid hdr
  have H2 := Lib.hid h2
  clear hdr h2
  go_wp2_with fail
  all_goals
    go_loopw [24] (fun i wr => ∃ k : Nat, k ≤ m.n ∧ i = .int .i64 k ∧ GateAt wr D gs (m.endsTo k) ∧ Only (gs.own m.n) w wr) (fun i _ => m.n - (intOf i).toNat)
    case atStart =>
      refine ⟨0, Nat.zero_le _, rfl, ?_, ((Only.of_below HD.out).setCell (fun _ => own_G gs _) _).setCell (fun _ => own_G gs _) _⟩
      have hh := heap_set (j := 2) (heap_set (j := 3) H2.out.hG (.int .i64 (max m.done m.under))) (.int .i64 0)
      have hm := H2.out.setG 0 (max m.done m.under) (by simpa using hh) (fun b hb => (heap_set_ne _ hb).trans (heap_set_ne _ hb))
      have hmx := hm.congr (m' := m.endsTo 0) rfl rfl rfl rfl (fun i _ => by simp [Gm.endsTo])
      first
        | (have e : max m.done m.under = m.under := by omega
           rw [e] at hmx; exact hmx)
        | (have e : max m.done m.under = m.done := by omega
           rw [e] at hmx; exact hmx)
    case round =>
      obtain ⟨k, hk, rfl, hg, ho⟩ := hrel
      have HG := Lib.hid hg
      have HO := Lib.hid ho
      by_cases hlt : k < m.n
      · obtain ⟨ia, i0, i1, i2, i3, i4, ifr⟩ := hg.icells (i := k) hlt
        clear hg ho
        have j1 : (0 : Int) ≤ (k : Int) := by omega
        have j2 : (k : Int) < (m.n : Int) := by omega
        go_wp2_with fail
        go_roundw
        case rel =>
          refine ⟨k + 1, by omega, by go_num, ?_, HO.out.setCell (fun _ => own_ib gs hlt) _⟩
          have hh := heap_set (j := 3) (HG.out.hib k hlt) (.bool false)
          have hm := HG.out.setI hlt (m.inp k).unsent (by simp [Gm.endsTo, Inp.unsent]) (by simpa [Gm.endsTo, Inp.unsent] using hh) (fun b hb => heap_set_ne _ hb)
          refine hm.congr rfl rfl rfl rfl (fun i _ => ?_)
          simp only [Gm.endsTo, Gm.upd]
          by_cases e : i = k
          · subst e; simp
          · by_cases e2 : i < k
            · rw [if_pos (by omega), if_neg e, if_pos e2]
            · rw [if_neg (by omega), if_neg e, if_neg e2]
        case measure => simp [intOf]; omega
      · clear hg ho
        go_wp2_with fail
        go_end0
        refine ⟨rfl, HG.out.congr rfl rfl rfl rfl (fun i hi => ?_), HO.out⟩
        have : i < k := by have : i < m.n := hi; omega
        simp [Gm.endsTo, Gm.ends, this]

end walks
/-- One gate's place, its queues aside. -/
structure GS.like (gs gs' : GS) : Prop where
  G : gs'.G = gs.G
  arr : gs'.arr = gs.arr
  cap : gs'.cap = gs.cap
  map : gs'.map = gs.map
  ib : gs'.ib = gs.ib
  qb : gs'.qb = gs.qb
  ents : gs'.ents = gs.ents

theorem GS.like.refl (gs : GS) : gs.like gs := ⟨rfl, rfl, rfl, rfl, rfl, rfl, rfl⟩
theorem GS.like.trans {a b c : GS} (h : a.like b) (k : b.like c) : a.like c := ⟨k.G.trans h.G, k.arr.trans h.arr, k.cap.trans h.cap, k.map.trans h.map, k.ib.trans h.ib, k.qb.trans h.qb, k.ents.trans h.ents⟩

attribute [local go_sem] Oper.semAt_some

structure LCells (w : World) (gs : GS) (i : Nat) (x : Inp) : Prop where
  a : w.cell? ⟨gs.arr, i, none⟩ = some (.pointer (some ⟨gs.ib i, 0, none⟩))
  i0 : w.cell? ⟨gs.ib i, 0, none⟩ = some (.int .i64 x.last)
  i1 : w.cell? ⟨gs.ib i, 1, none⟩ = some (.bool x.closed)
  i2 : ∃ a c, w.cell? ⟨gs.ib i, 2, none⟩ = some (.slice a x.queue.length c)
  i3 : w.cell? ⟨gs.ib i, 3, none⟩ = some (.bool x.sent)
  i4 : w.cell? ⟨gs.ib i, 4, none⟩ = some (.bool x.holds)
  fr : ∀ o, w.frozen? ⟨gs.ib i, o, none⟩ = false

theorem GateAt.lcells {w : World} {D : Nat → Prop} {gs gs' : GS} {m : Gm} (h : GateAt w D gs' m) (hl : gs.like gs') {i : Nat} (hi : i < m.n) : LCells w gs i (m.inp i) := by
  obtain ⟨a, i0, i1, i2, i3, i4, fr⟩ := h.icells hi
  obtain ⟨q, c, hq⟩ := (h.hq i hi).form
  rw [hl.ib, hl.arr] at a
  rw [hl.ib] at i0 i1 i2 i3 i4 fr
  exact ⟨a, i0, i1, ⟨q, c, by rw [i2, hq]⟩, i3, i4, fr⟩

section walks
set_option maxHeartbeats 1000000
set_option maxRecDepth 100000

theorem f93_in (n l Bg : Nat) {D : Nat → Prop} (gs : GS) (m : Gm) (J : List Nat → World → Prop) (W : World)
    (hJ : ∀ pre W, J pre W → ∃ gs', GateAt W D gs' (m.drainTo pre) ∧ gs.like gs' ∧ W.cell? ⟨Bg, 0, none⟩ = some (.pointer (some ⟨gs.G, 0, none⟩)))
    (hJb : ∀ pre A B, J pre A → Below A.heap.size A B → J pre B)
    (hY : ∀ i W1, J (m.list i) W1 → i < m.n → m.waits i = true → YieldAt Fence.wide (n - 1 - 1) Try.prog l #[.int .i64 i, .pointer (some ⟨gs.ib i, 0, none⟩)] W1 fun e W' => e = .returned (.bool true) ∧ J (m.list i ++ [i]) W')
    (h0 : J [] W) :
    CallsIn Fence.wide (n - 1) Try.prog 93 #[.func (.yield l) #[] #[], .pointer (some ⟨Bg, 0, none⟩)] W fun e W' => (∃ v, e = .returned v) ∧ ∃ xs, xs = m.list m.n ∧ J xs W' := by
  obtain ⟨gs0, hg0, hl0, hb0⟩ := hJ [] W h0
  obtain ⟨g0, g1, g2, g3, g4, gf⟩ := hg0.cells
  have hle : m.n ≤ 200 := hg0.le
  rw [hl0.G, hl0.arr] at g0
  have e1 : (m.drainTo []).n = m.n := rfl
  rw [e1] at g0
  clear e1 hg0 g1 g2 g3 g4 gf
  have HJ := Lib.hid hJ
  have HJB := Lib.hid hJb
  have HY := Lib.hid hY
  have HL := Lib.hid hl0
  clear hJ hJb hY hl0
  have hF : ∀ f, Fence.wide.fn f = True := fun _ => rfl
  have hD : Fence.wide.depth.isSome = false := rfl
  refine callsIn_of_wp Try.func93 rfl trivial ?_ rfl
  simp only [Try.ntmps93, List.size_toArray, List.length_cons, List.length_nil, Nat.reduceAdd, Nat.reduceSub, Array.replicate_succ, Array.replicate_zero, List.push_toArray, List.append_toArray, List.nil_append, List.cons_append]
  gi_wp2
  gi_loopw [10] (fun i wr => ∃ k : Nat, k ≤ m.n ∧ i = .int .i64 k ∧ J (m.list k) wr) (fun i _ => m.n - (intOf i).toNat)
  case atStart => exact ⟨0, Nat.zero_le _, rfl, h0⟩
  case round =>
    obtain ⟨k, hk, rfl, hJk⟩ := hrel
    by_cases hlt : k < m.n
    · obtain ⟨gs1, hg, hl, hb⟩ := HJ.out _ _ hJk
      obtain ⟨al, an, au, ad⟩ := m.drainTo_al (m.list k)
      have hlt' : k < (m.drainTo (m.list k)).n := by rw [an]; exact hlt
      have hin : (m.drainTo (m.list k)).inp k = m.inp k := m.drainTo_inp _ _ (m.not_mem_list k)
      have hbl : (m.drainTo (m.list k)).blocked k = m.blocked k := by simp [Gm.blocked, hin, al, au]
      have hR := fun (A : World) (hA : Below wr.heap.size wr A) => (hg.below hA).lcells hl hlt'
      have hB := (callsIn_wide (n := n - 1 - 1)).2 (f41_any wr gs1 _ k hg hlt')
      have hls := m.list_succ k
      rw [hin] at hR
      rw [hbl, hl.G] at hB
      have HR := Lib.hid hR
      have HB := Lib.hid hB
      have HS := Lib.hid hls
      clear hR hB hls hin hbl al an au ad hg hlt'
      obtain ⟨ia, i0, i1, ⟨qa, qc, i2⟩, i3, i4, ifr⟩ := HR.out wr (Below.refl _ _)
      clear hl
      cases hh : (m.inp k).holds
      · rw [hh] at i4
        cases hbk : m.blocked k
        · rw [hbk] at HB
          by_cases hq : 0 < (m.inp k).queue.length
          · have hw : m.waits k = true := by simp [Gm.waits, hh, hbk, hq]
            have hq' : (0 : Int) < ((m.inp k).queue.length : Int) := by omega
            have HW := Lib.hid hw
            clear hw hbk hh
            gi_wp2_with (gi_at_call 41; refine HB.out.mono ?_; rintro e w' ⟨rfl, hb1⟩; obtain ⟨ia', i0', i1', ⟨qa', qc', i2'⟩, i3', i4', ifr'⟩ := HR.out _ hb1; obtain ⟨fn, tmps, assign, body, hy, hRd⟩ := HY.out k _ (HJB.out _ _ _ hJk hb1) hlt HW.out)
            refine hRd.mono ?_
            rintro e W3 ⟨rfl, hJ3⟩
            gi_wp2
            go_roundw
            case rel => exact ⟨k + 1, by omega, by go_num, by rw [HS.out, HW.out]; simpa using hJ3⟩
            case measure => simp [intOf]; omega
          · have hw : m.waits k = false := by simp [Gm.waits, hq]
            have hq0 : (m.inp k).queue.length = 0 := by omega
            rw [hq0] at i2
            have HW := Lib.hid hw
            clear hw hbk hh
            gi_wp2_with (gi_at_call 41; refine HB.out.mono ?_; rintro e w' ⟨rfl, hb1⟩; obtain ⟨ia', i0', i1', ⟨qa', qc', i2'⟩, i3', i4', ifr'⟩ := HR.out _ hb1)
            go_roundw
            case rel => exact ⟨k + 1, by omega, by go_num, by rw [HS.out, HW.out]; simpa using HJB.out _ _ _ hJk hb1⟩
            case measure => simp [intOf]; omega
        · have hw : m.waits k = false := by simp [Gm.waits, hbk]
          rw [hbk] at HB
          have HW := Lib.hid hw
          clear hw hbk
          gi_wp2_with (gi_at_call 41; refine HB.out.mono ?_; rintro e w' ⟨rfl, hb1⟩)
          go_roundw
          case rel => exact ⟨k + 1, by omega, by go_num, by rw [HS.out, HW.out]; simpa using HJB.out _ _ _ hJk hb1⟩
          case measure => simp [intOf]; omega
      · have hw : m.waits k = false := by simp [Gm.waits, hh]
        rw [hh] at i4
        have HW := Lib.hid hw
        clear hw hh
        gi_wp2
        go_roundw
        case rel => exact ⟨k + 1, by omega, by go_num, by rw [HS.out, HW.out]; simpa using hJk⟩
        case measure => simp [intOf]; omega
    · gi_wp2
      go_end0
      refine ⟨⟨_, rfl⟩, _, ?_, hJk⟩
      have : k = m.n := by omega
      rw [this]
end walks
section walks
set_option maxHeartbeats 1000000
set_option maxRecDepth 100000

theorem f77_any (w : World) (gs : GS) :
    Calls Try.prog 77 #[.pointer (some ⟨gs.G, 0, none⟩)] w fun e w' => e = .returned (.func (.func 93) #[] #[.pointer (some ⟨w.heap.size, 0, none⟩)]) ∧ w' = w.alloc (.cells #[.pointer (some ⟨gs.G, 0, none⟩)] 25) := by
  go_enter Try.func77, Try.ntmps77
  go_wp2
  go_ret
  exact ⟨rfl, rfl⟩

end walks
/-- A queue's beginning is taken away. -/
theorem GateAt.setQ {w w' : World} {D : Nat → Prop} {gs : GS} {m : Gm} (h : GateAt w D gs m) {i : Nat} (hi : i < m.n) (v' : Value) (q' : List EV) (hs : SlOwn w 34 5 v' q'.length (q'.flatMap ecl) (gs.qb i)) (hsub : ∀ p ∈ q', p ∈ (m.inp i).queue)
    (hI : w'.heap[gs.ib i]? = some (.cells (icl { m.inp i with queue := q' } v') 92 (0, 0))) (ho : ∀ b, b ≠ gs.ib i → w'.heap[b]? = w.heap[b]?) :
    GateAt w' D { gs with qv := fun j => if j = i then v' else gs.qv j } (m.upd i { m.inp i with queue := q' }) := by
  have hI' := h.hib i hi
  obtain ⟨cs, hc, hcs⟩ := h.harr
  refine ⟨h.pos, h.le, (ho _ (h.G_ne_ib hi)).trans h.hG, ⟨cs, (ho _ (h.arr_ne_ib hi)).trans hc, hcs⟩, fun j hj => ?_, h.inj, fun j hj => ?_, h.qinj, fun j hj p hp => ?_, h.hD, (ho _ (Ne.symm (h.ib_ne_map hi))).trans h.hmap⟩
  · by_cases e : j = i
    · subst e; simpa [Gm.upd] using hI
    · have := (ho _ (fun e' => e (h.inj j i hj hi e'))).trans (h.hib j hj)
      simpa [Gm.upd, e] using this
  · by_cases e : j = i
    · subst e
      have hk := hs.keep (w' := w') fun g hg => ho _ (h.qb_ne hj hg hI' (by decide))
      simpa [Gm.upd] using hk
    · have hk := (h.hq j hj).keep (w' := w') fun g hg => ho _ (h.qb_ne hj hg hI' (by decide))
      simpa [Gm.upd, e] using hk
  · have hp' : p ∈ (m.inp j).queue := by
      by_cases e : j = i
      · subst e; exact hsub p (by simpa [Gm.upd] using hp)
      · simpa [Gm.upd, e] using hp
    exact (h.hrow j hj p hp').keep fun b hb _ => ho b (fun e => h.hD b hb (e ▸ own_ib gs hi))

/-- The state of 'goOn' while it goes on: the gate, what has passed, its boxes. -/
structure AGood (B : Nat) (D : Nat → Prop) (gs gs' : GS) (Bo Bg Ba Bp Bn : Nat) (w0 : World) (m : Gm) (outs : List OV) (nx : Int) (v : Value) (blk : Option Nat) (W : World) : Prop where
  gate : GateAt W D gs' m
  like : gs.like gs'
  box : OutBox W Bo outs v blk
  new : ∀ g, blk = some g → B ≤ g
  hg : W.heap[Bg]? = some (.cells #[.pointer (some ⟨gs.G, 0, none⟩)] 25 (0, 0))
  ha : W.heap[Ba]? = some (.cells #[.func (.func 76) #[] #[.pointer (some ⟨Bg, 0, none⟩), .pointer (some ⟨Ba, 0, none⟩)]] 134 (0, 0))
  hp : W.heap[Bp]? = some (.cells #[.func (.func 78) #[] #[.pointer (some ⟨Bo, 0, none⟩)]] 135 (0, 0))
  hn : W.heap[Bn]? = some (.cells #[.int .i64 nx] 3 (0, 0))
  rows : ∀ o ∈ outs, RowAt W D o.2.2 o.2.1.row
  only : Only (fun b => gs.own m.n b ∨ B ≤ b) w0 W

section
variable {B : Nat} {D : Nat → Prop} {gs gs' : GS} {Bo Bg Ba Bp Bn : Nat} {w0 : World} {m : Gm} {outs : List OV} {nx : Int} {v : Value} {blk : Option Nat} {W W' : World}

theorem like_own (h : gs.like gs') (n b : Nat) : gs'.own n b ↔ gs.own n b := by
  unfold GS.own
  rw [h.G, h.arr, h.map, h.ib, h.qb]

theorem AGood.below (h : AGood B D gs gs' Bo Bg Ba Bp Bn w0 m outs nx v blk W) (hb : Below W.heap.size W W') : AGood B D gs gs' Bo Bg Ba Bp Bn w0 m outs nx v blk W' := by
  have hl : ∀ {b o}, W.heap[b]? = some o → W'.heap[b]? = some o := fun hh => (hb.block _ (heap_lt hh)).trans hh
  refine ⟨h.gate.below hb, h.like, ⟨hl h.box.box, h.box.own.keep fun g hg => ?_⟩, h.new, hl h.hg, hl h.ha, hl h.hp, hl h.hn, fun o ho => (h.rows o ho).below hb, h.only.trans (Only.of_below (S := fun _ => False) hb) (fun _ _ hf => hf.elim)⟩
  have := h.box.own
  subst hg
  exact hb.block _ this.blk_lt

/-- A step that turns the box of what passed, and its row. -/
theorem AGood.passed (hA : ABase B D Bo Bg Ba Bp Bn w0) (h : AGood B D gs gs' Bo Bg Ba Bp Bn w0 m outs nx v blk W) {news : List OV} {v' : Value} {blk' : Option Nat}
    (hbox : OutBox W' Bo (outs ++ news) v' blk') (ho : Only (fun b => b = Bo ∨ blk = some b) W W') (hblk : blk' = blk ∨ ∃ g, blk' = some g ∧ W.heap.size ≤ g) (hrows : ∀ o ∈ news, RowAt W D o.2.2 o.2.1.row) :
    AGood B D gs gs' Bo Bg Ba Bp Bn w0 m (outs ++ news) nx v' blk' W' := by
  have hne : ∀ {b : Nat} {c : Array Value} {t : TypeId} {f : Nat × Nat}, W.heap[b]? = some (Obj.cells c t f) → t ≠ 37 → t ≠ 44 → ¬ (b = Bo ∨ blk = some b) := by
    intro b c t f hb h1 h2 hh
    rcases hh with rfl | hh
    · exact ne_of_cells hb h.box.box h1 rfl
    · have := h.box.own
      rw [hh] at this
      rcases this.2 with ⟨_, _, hx⟩ | ⟨g', o, cap, cur, hx, _, hg, _⟩
      · cases hx
      · injection hx with hx; subst hx; exact ne_of_cells hb hg h2 rfl
  have hl : ∀ {b : Nat} {c : Array Value} {t : TypeId} {f : Nat × Nat}, W.heap[b]? = some (Obj.cells c t f) → t ≠ 37 → t ≠ 44 → W'.heap[b]? = some (Obj.cells c t f) := fun hb h1 h2 => (ho.block _ (heap_lt hb) (hne hb h1 h2)).trans hb
  have hsz : B ≤ W.heap.size := Nat.le_trans hA.hB h.only.size
  have hown : ∀ b, gs'.own m.n b → W'.heap[b]? = W.heap[b]? := by
    intro b hb
    rcases hb with rfl | rfl | rfl | ⟨i, hi, rfl⟩ | ⟨i, hi, hb⟩
    · exact (hl h.gate.hG (by decide) (by decide)).trans h.gate.hG.symm
    · obtain ⟨cs, hc, _⟩ := h.gate.harr; exact (hl hc (by decide) (by decide)).trans hc.symm
    · refine ho.block _ (heap_lt h.gate.hmap) ?_
      rintro (hh | hh)
      · exact ne_of_map h.box.box h.gate.hmap hh.symm
      · have := h.box.own
        rw [hh] at this
        rcases this.2 with ⟨_, _, hx⟩ | ⟨g', o, cap, cur, hx, _, hg, _⟩
        · cases hx
        · injection hx with hx; exact ne_of_map hg h.gate.hmap hx.symm
    · exact (hl (h.gate.hib i hi) (by decide) (by decide)).trans (h.gate.hib i hi).symm
    · obtain ⟨cur, hc⟩ := h.gate.qb_cells hi hb
      exact (hl hc (by decide) (by decide)).trans hc.symm
  have hrow : ∀ {r row}, RowAt W D r row → RowAt W' D r row := fun hr => hr.keep fun b hb hlt => ho.block b hlt (fun hh => by
    have := hA.hD b hb
    rcases hh with rfl | hh
    · have := hA.bo; omega
    · have := h.new b hh; omega)
  refine ⟨?_, h.like, hbox, ?_, hl h.hg (by decide) (by decide), hl h.ha (by decide) (by decide), hl h.hp (by decide) (by decide), hl h.hn (by decide) (by decide), fun o hm => ?_, h.only.trans ho (fun x _ hx => ?_)⟩
  · have g := h.gate
    obtain ⟨cs, hc, hcs⟩ := g.harr
    exact ⟨g.pos, g.le, hl g.hG (by decide) (by decide), ⟨cs, hl hc (by decide) (by decide), hcs⟩, fun i hi => hl (g.hib i hi) (by decide) (by decide), g.inj, fun i hi => (g.hq i hi).keep fun b hb => hown b (own_qb gs' hi hb), g.qinj, fun i hi p hp => hrow (g.hrow i hi p hp), g.hD, (hown _ (.inr (.inr (.inl rfl)))).trans g.hmap⟩
  · intro g hg
    rcases hblk with e | ⟨g', e, hle⟩
    · exact h.new g (e ▸ hg)
    · rw [hg] at e; injection e with e; omega
  · rcases List.mem_append.1 hm with hm | hm
    · exact hrow (h.rows o hm)
    · exact hrow (hrows o hm)
  · rcases hx with rfl | hx
    · exact .inr hA.bo
    · exact .inr (h.new x hx)

/-- A step that turns one of the gate's own blocks. -/
theorem AGood.owned (h : AGood B D gs gs' Bo Bg Ba Bp Bn w0 m outs nx v blk W) {gs2 : GS} {m2 : Gm} (hn : m2.n = m.n) (hl2 : gs.like gs2) (hgate : GateAt W' D gs2 m2) (ho : Only (gs'.own m.n) W W') :
    AGood B D gs gs2 Bo Bg Ba Bp Bn w0 m2 outs nx v blk W' := by
  have hne : ∀ {b : Nat} {c : Array Value} {t : TypeId} {f : Nat × Nat}, W.heap[b]? = some (Obj.cells c t f) → t ≠ 88 → t ≠ 90 → t ≠ 92 → t ≠ 34 → ¬ gs'.own m.n b := by
    intro b c t f hb h1 h2 h3 h4 hh
    rcases hh with rfl | rfl | rfl | ⟨i, hi, rfl⟩ | ⟨i, hi, hq⟩
    · exact ne_of_cells hb h.gate.hG h1 rfl
    · obtain ⟨cs, hc, _⟩ := h.gate.harr; exact ne_of_cells hb hc h2 rfl
    · exact ne_of_map hb h.gate.hmap rfl
    · exact ne_of_cells hb (h.gate.hib i hi) h3 rfl
    · obtain ⟨cur, hc⟩ := h.gate.qb_cells hi hq; exact ne_of_cells hb hc h4 rfl
  have hl : ∀ {b : Nat} {c : Array Value} {t : TypeId} {f : Nat × Nat}, W.heap[b]? = some (Obj.cells c t f) → t ≠ 88 → t ≠ 90 → t ≠ 92 → t ≠ 34 → W'.heap[b]? = some (Obj.cells c t f) := fun hb h1 h2 h3 h4 => (ho.block _ (heap_lt hb) (hne hb h1 h2 h3 h4)).trans hb
  refine ⟨hgate, hl2, ⟨hl h.box.box (by decide) (by decide) (by decide) (by decide), h.box.own.keep fun g hg => ?_⟩, h.new, hl h.hg (by decide) (by decide) (by decide) (by decide), hl h.ha (by decide) (by decide) (by decide) (by decide), hl h.hp (by decide) (by decide) (by decide) (by decide), hl h.hn (by decide) (by decide) (by decide) (by decide), fun o hm => (h.rows o hm).keep fun b hb hlt => ho.block b hlt (fun hh => h.gate.hD b hb hh), ?_⟩
  · have := h.box.own
    rw [hg] at this
    rcases this.2 with ⟨_, _, hx⟩ | ⟨g', o, cap, cur, hx, _, hgg, _⟩
    · cases hx
    · injection hx with hx
      subst hx
      exact ho.block _ (heap_lt hgg) (hne hgg (by decide) (by decide) (by decide) (by decide))
  · rw [hn]
    exact h.only.trans ho (fun x _ hx => .inl ((like_own h.like _ _).1 hx))
end

end Go.Proofs.Ytdnkfgnjeibjeaa.W

import Derived.Test.YtdnkfgnjeibjeaaG3
import Derived.Test.YtdnkfgnjeibjeaaR1
namespace Go.Proofs.Ytdnkfgnjeibjeaa
open Go.RowKit Go.Shelf

/-- One gate's place, its queues aside. -/
structure GS.like (gs gs' : GS) : Prop where
  G : gs'.G = gs.G
  arr : gs'.arr = gs.arr
  cap : gs'.cap = gs.cap
  map : gs'.map = gs.map
  ib : gs'.ib = gs.ib
  qb : gs'.qb = gs.qb

theorem GS.like.refl (gs : GS) : gs.like gs := ⟨rfl, rfl, rfl, rfl, rfl, rfl⟩
theorem GS.like.trans {a b c : GS} (h : a.like b) (k : b.like c) : a.like c := ⟨k.G.trans h.G, k.arr.trans h.arr, k.cap.trans h.cap, k.map.trans h.map, k.ib.trans h.ib, k.qb.trans h.qb⟩

def EV.plain (p : EV) : Bool := p.1.k != 3

def Inp.drained (x : Inp) : Inp := { x with queue := x.queue.dropWhile EV.plain }

def Gm.waits (m : Gm) (i : Nat) : Bool := !(m.inp i).holds && !m.blocked i && decide (0 < (m.inp i).queue.length)

def Gm.drainTo (m : Gm) (pre : List Nat) : Gm := pre.foldl (fun m i => m.upd i (m.inp i).drained) m

theorem Gm.drainTo_snoc (m : Gm) (pre : List Nat) (i : Nat) : m.drainTo (pre ++ [i]) = (m.drainTo pre).upd i ((m.drainTo pre).inp i).drained := by
  simp [Gm.drainTo, List.foldl_append]

theorem Gm.drainTo_al (m : Gm) (pre : List Nat) : (m.drainTo pre).al = m.al ∧ (m.drainTo pre).n = m.n ∧ (m.drainTo pre).under = m.under ∧ (m.drainTo pre).done = m.done := by
  induction pre generalizing m with
  | nil => exact ⟨rfl, rfl, rfl, rfl⟩
  | cons i pre ih => exact ih (m.upd i (m.inp i).drained)

theorem Gm.drainTo_inp (m : Gm) (pre : List Nat) (k : Nat) (h : k ∉ pre) : (m.drainTo pre).inp k = m.inp k := by
  induction pre generalizing m with
  | nil => rfl
  | cons i pre ih =>
    simp only [List.mem_cons, not_or] at h
    show (Gm.drainTo (m.upd i (m.inp i).drained) pre).inp k = m.inp k
    rw [ih _ h.2]
    simp [Gm.upd, h.1]

def Gm.list (m : Gm) (k : Nat) : List Nat := (List.range k).filter m.waits

theorem Gm.list_succ (m : Gm) (k : Nat) : m.list (k + 1) = m.list k ++ if m.waits k then [k] else [] := by
  unfold Gm.list
  rw [List.range_succ, List.filter_append]
  by_cases h : m.waits k <;> simp [h]

theorem Gm.not_mem_list (m : Gm) (k : Nat) : k ∉ m.list k := by simp [Gm.list]

attribute [local go_sem] Oper.semAt_some

theorem SlOwn.form {w : World} {e : TypeId} {size : Nat} {v : Value} {n : Nat} {xs : List Value} {blk : Option Nat} (h : SlOwn w e size v n xs blk) : ∃ a c, v = .slice a n c := by
  rcases h.2 with ⟨rfl, rfl, _⟩ | ⟨g, o, cap, cur, _, rfl, _⟩
  · exact ⟨_, _, rfl⟩
  · exact ⟨_, _, rfl⟩

structure LCells (w : World) (gs : GS) (i : Nat) (x : Inp) : Prop where
  a : w.cell? ⟨gs.arr, i, none⟩ = some (.pointer (some ⟨gs.ib i, 0, none⟩))
  i0 : w.cell? ⟨gs.ib i, 0, none⟩ = some (.int .i64 x.last)
  i1 : w.cell? ⟨gs.ib i, 1, none⟩ = some (.bool x.closed)
  i2 : ∃ a c, w.cell? ⟨gs.ib i, 2, none⟩ = some (.slice a x.queue.length c)
  i3 : w.cell? ⟨gs.ib i, 3, none⟩ = some (.bool x.sent)
  i4 : w.cell? ⟨gs.ib i, 4, none⟩ = some (.bool x.holds)
  fr : ∀ o, w.frozen? ⟨gs.ib i, o, none⟩ = false

theorem GateAt.lcells {w : World} {D : Nat → Prop} {gs gs' : GS} {m : Gm} (h : GateAt w D gs' m) (hl : gs.like gs') {i : Nat} (hi : i < m.n) : LCells w gs i (m.inp i) := by
  obtain ⟨a, i0, i1, i2, i3, i4, fr⟩ := h.icells hi
  obtain ⟨q, c, hq⟩ := (h.hq i hi).form
  rw [hl.ib, hl.arr] at a
  rw [hl.ib] at i0 i1 i2 i3 i4 fr
  exact ⟨a, i0, i1, ⟨q, c, by rw [i2, hq]⟩, i3, i4, fr⟩

section walks
set_option maxHeartbeats 1000000
set_option maxRecDepth 100000

theorem f93_in (n l Bg : Nat) {D : Nat → Prop} (gs : GS) (m : Gm) (J : List Nat → World → Prop) (W : World)
    (hJ : ∀ pre W, J pre W → ∃ gs', GateAt W D gs' (m.drainTo pre) ∧ gs.like gs' ∧ W.cell? ⟨Bg, 0, none⟩ = some (.pointer (some ⟨gs.G, 0, none⟩)))
    (hJb : ∀ pre A B, J pre A → Below A.heap.size A B → J pre B)
    (hY : ∀ i W1, J (m.list i) W1 → i < m.n → m.waits i = true → YieldAt Fence.wide (n - 1 - 1) Try.prog l #[.int .i64 i, .pointer (some ⟨gs.ib i, 0, none⟩)] W1 fun e W' => e = .returned (.bool true) ∧ J (m.list i ++ [i]) W')
    (h0 : J [] W) :
    CallsIn Fence.wide (n - 1) Try.prog 93 #[.func (.yield l) #[] #[], .pointer (some ⟨Bg, 0, none⟩)] W fun e W' => (∃ v, e = .returned v) ∧ ∃ xs, xs = m.list m.n ∧ J xs W' := by
  obtain ⟨gs0, hg0, hl0, hb0⟩ := hJ [] W h0
  obtain ⟨g0, g1, g2, g3, g4, gf⟩ := hg0.cells
  have hle : m.n ≤ 200 := hg0.le
  rw [hl0.G, hl0.arr] at g0
  have e1 : (m.drainTo []).n = m.n := rfl
  rw [e1] at g0
  clear e1 hg0 g1 g2 g3 g4 gf
  have HJ := Lib.hid hJ
  have HJB := Lib.hid hJb
  have HY := Lib.hid hY
  have HL := Lib.hid hl0
  clear hJ hJb hY hl0
  have hF : ∀ f, Fence.wide.fn f = True := fun _ => rfl
  have hD : Fence.wide.depth.isSome = false := rfl
  refine callsIn_of_wp Try.func93 rfl trivial ?_ rfl
  simp only [Try.ntmps93, List.size_toArray, List.length_cons, List.length_nil, Nat.reduceAdd, Nat.reduceSub, Array.replicate_succ, Array.replicate_zero, List.push_toArray, List.append_toArray, List.nil_append, List.cons_append]
  gi_wp2
  gi_loopw [10] (fun i wr => ∃ k : Nat, k ≤ m.n ∧ i = .int .i64 k ∧ J (m.list k) wr) (fun i _ => m.n - (intOf i).toNat)
  case atStart => exact ⟨0, Nat.zero_le _, rfl, h0⟩
  case round =>
    obtain ⟨k, hk, rfl, hJk⟩ := hrel
    by_cases hlt : k < m.n
    · obtain ⟨gs1, hg, hl, hb⟩ := HJ.out _ _ hJk
      obtain ⟨al, an, au, ad⟩ := m.drainTo_al (m.list k)
      have hlt' : k < (m.drainTo (m.list k)).n := by rw [an]; exact hlt
      have hin : (m.drainTo (m.list k)).inp k = m.inp k := m.drainTo_inp _ _ (m.not_mem_list k)
      have hbl : (m.drainTo (m.list k)).blocked k = m.blocked k := by simp [Gm.blocked, hin, al, au]
      have hR := fun (A : World) (hA : Below wr.heap.size wr A) => (hg.below hA).lcells hl hlt'
      have hB := (callsIn_wide (n := n - 1 - 1)).2 (f41_any wr gs1 _ k hg hlt')
      have hls := m.list_succ k
      rw [hin] at hR
      rw [hbl, hl.G] at hB
      have HR := Lib.hid hR
      have HB := Lib.hid hB
      have HS := Lib.hid hls
      clear hR hB hls hin hbl al an au ad hg hlt'
      obtain ⟨ia, i0, i1, ⟨qa, qc, i2⟩, i3, i4, ifr⟩ := HR.out wr (Below.refl _ _)
      clear hl
      cases hh : (m.inp k).holds
      · rw [hh] at i4
        cases hbk : m.blocked k
        · rw [hbk] at HB
          by_cases hq : 0 < (m.inp k).queue.length
          · have hw : m.waits k = true := by simp [Gm.waits, hh, hbk, hq]
            have hq' : (0 : Int) < ((m.inp k).queue.length : Int) := by omega
            have HW := Lib.hid hw
            clear hw hbk hh
            gi_wp2_with (gi_at_call 41; refine HB.out.mono ?_; rintro e w' ⟨rfl, hb1⟩; obtain ⟨ia', i0', i1', ⟨qa', qc', i2'⟩, i3', i4', ifr'⟩ := HR.out _ hb1; obtain ⟨fn, tmps, assign, body, hy, hRd⟩ := HY.out k _ (HJB.out _ _ _ hJk hb1) hlt HW.out)
            refine hRd.mono ?_
            rintro e W3 ⟨rfl, hJ3⟩
            gi_wp2
            go_roundw
            case rel => exact ⟨k + 1, by omega, by go_num, by rw [HS.out, HW.out]; simpa using hJ3⟩
            case measure => simp [intOf]; omega
          · have hw : m.waits k = false := by simp [Gm.waits, hq]
            have hq0 : (m.inp k).queue.length = 0 := by omega
            rw [hq0] at i2
            have HW := Lib.hid hw
            clear hw hbk hh
            gi_wp2_with (gi_at_call 41; refine HB.out.mono ?_; rintro e w' ⟨rfl, hb1⟩; obtain ⟨ia', i0', i1', ⟨qa', qc', i2'⟩, i3', i4', ifr'⟩ := HR.out _ hb1)
            go_roundw
            case rel => exact ⟨k + 1, by omega, by go_num, by rw [HS.out, HW.out]; simpa using HJB.out _ _ _ hJk hb1⟩
            case measure => simp [intOf]; omega
        · have hw : m.waits k = false := by simp [Gm.waits, hbk]
          rw [hbk] at HB
          have HW := Lib.hid hw
          clear hw hbk
          gi_wp2_with (gi_at_call 41; refine HB.out.mono ?_; rintro e w' ⟨rfl, hb1⟩)
          go_roundw
          case rel => exact ⟨k + 1, by omega, by go_num, by rw [HS.out, HW.out]; simpa using HJB.out _ _ _ hJk hb1⟩
          case measure => simp [intOf]; omega
      · have hw : m.waits k = false := by simp [Gm.waits, hh]
        rw [hh] at i4
        have HW := Lib.hid hw
        clear hw hh
        gi_wp2
        go_roundw
        case rel => exact ⟨k + 1, by omega, by go_num, by rw [HS.out, HW.out]; simpa using hJk⟩
        case measure => simp [intOf]; omega
    · gi_wp2
      go_end0
      refine ⟨⟨_, rfl⟩, _, ?_, hJk⟩
      have : k = m.n := by omega
      rw [this]
end walks
end Go.Proofs.Ytdnkfgnjeibjeaa

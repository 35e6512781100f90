import Derived.Test.YtdnkfgnjeibjeaaJA
namespace Go.Proofs.Ytdnkfgnjeibjeaa.W
open Go.RowKit Go.Shelf

def noteSum (ns : List NoteC) : Nat := (ns.map fun y => y.outs.length).sum
def seenSum (ns : List NoteC) (seen : Array Nat) : Nat := noteSum (ns.filter fun y => seen.contains y.born)

theorem noteSum_filter (ns : List NoteC) (p : NoteC → Bool) : noteSum (ns.filter p) ≤ noteSum ns := by
  induction ns with
  | nil => exact Nat.le_refl _
  | cons x ns ih =>
    simp only [noteSum, List.filter_cons, List.map_cons, List.sum_cons] at *
    split
    · simp only [List.map_cons, List.sum_cons]; omega
    · omega

theorem seenSum_push {ns : List NoteC} (hp : ns.Pairwise fun x y => x.k ≠ y.k ∧ x.born ≠ y.born ∧ ∀ b, x.own b → ¬ y.own b) {seen : Array Nat} {y : NoteC} (hy : y ∈ ns) (hs : seen.contains y.born = false) : seenSum ns (seen.push y.born) = seenSum ns seen + y.outs.length := by
  induction ns with
  | nil => cases hy
  | cons x ns ih =>
    obtain ⟨h1, h2⟩ := List.pairwise_cons.1 hp
    have hall : ∀ l : List NoteC, (∀ z ∈ l, z.born ≠ y.born) → l.filter (fun z => (seen.push y.born).contains z.born) = l.filter fun z => seen.contains z.born := fun l hl => List.filter_congr fun z hz => by
      have := hl z hz
      simp [Array.mem_push, this]
    simp only [seenSum, List.filter_cons] at *
    rcases List.mem_cons.1 hy with rfl | hy'
    · have e1 : (seen.push y.born).contains y.born = true := by simp
      rw [e1, hs, hall ns fun z hz => fun e => (h1 z hz).2.1 e.symm]
      simp only [if_true, Bool.false_eq_true, if_false, noteSum, List.map_cons, List.sum_cons]
      omega
    · have hne : x.born ≠ y.born := (h1 y hy').2.1
      have e1 : (seen.push y.born).contains x.born = seen.contains x.born := by simp [Array.mem_push, hne]
      have := ih h2 hy'
      rw [e1]
      cases seen.contains x.born
      · simpa using this
      · simp only [if_true, noteSum, List.map_cons, List.sum_cons] at *
        omega

theorem seenSum_nil (ns : List NoteC) : seenSum ns #[] = 0 := by
  have : ns.filter (fun y => (#[] : Array Nat).contains y.born) = [] := List.filter_eq_nil_iff.2 fun y _ => by simp
  unfold seenSum
  rw [this]; rfl

/-- A range that only reads leaves all as it was. -/
theorem Rng.below {w wr : World} {mp clock : Nat} {ns : List NoteC} {seen : Array Nat} {c0 : Nat} {o : Obj} (h : Rng (w.alloc o) wr mp w.heap.size clock ns seen c0) (hm : w.heap[mp]? = some (.map (ns.map NoteC.entry).toArray clock)) : Below w.heap.size w wr :=
  ⟨h.only.os, h.only.tape, h.only.output, Nat.le_trans (by simp) h.only.size, fun b hb => by
    by_cases e : b = mp
    · subst e; exact h.hm.trans hm.symm
    · exact (h.only.block b (by rw [World.size_alloc]; omega) (by rintro (e' | e'); exact e e'; omega)).trans (Below.heap_alloc _ _ _ hb)⟩

section walks
set_option maxHeartbeats 1000000
set_option maxRecDepth 100000

theorem f42_free (w : World) {D : Nat → Prop} (gs : GS) (m : Gm) (ns : List NoteC) (h : FreeAt w D gs m ns) (hq : noteSum ns ≤ 1000000) :
    Calls Try.prog 42 #[.pointer (some ⟨gs.G, 0, none⟩)] w fun e w' => ∃ v : Nat, e = .returned (.int .i64 v) ∧ v ≤ noteSum ns ∧ Below w.heap.size w w' := by
  obtain ⟨g0, g1, g2, g3, g4, gf⟩ := h.gate.cells
  have hm := h.gate.hmap
  have hle := h.gate.le
  rw [h.ents] at hm
  have hr := run_range_map (P := Try.prog) w 83 3 93 gs.map _ gs.clock Try.underlying83 hm
  have hR0 : Rng (w.alloc (.mapIter (some gs.map) gs.clock #[] gs.clock)) (w.alloc (.mapIter (some gs.map) gs.clock #[] gs.clock)) gs.map w.heap.size gs.clock ns #[] gs.clock :=
    ⟨(Below.heap_alloc _ _ _ (heap_lt hm)).trans hm, World.alloc_heap_new _ _, Nat.le_refl _, Only.refl _ _⟩
  have HR0 := Lib.hid hR0
  have HM := Lib.hid hm
  have H := Lib.hid h
  clear h hm hR0
  go_enter Try.func42, Try.ntmps42
  go_wp2_with fail
  go_loopw [3, 13] (fun s i wr => ∃ k : Nat, k ≤ m.n ∧ i = .int .i64 k ∧ s = .int .i64 0 ∧ wr = w) (fun _ i _ => m.n - (intOf i).toNat)
  case atStart => exact ⟨0, Nat.zero_le _, rfl, rfl, rfl⟩
  case round =>
    obtain ⟨k, hk, rfl, rfl, rfl⟩ := hrel
    by_cases hlt : k < m.n
    · obtain ⟨ia, x0, x1, x2, x3, x4, xf⟩ := H.out.gate.lcells (GS.like.refl gs) hlt
      obtain ⟨qa, qc, x2⟩ := x2
      rw [H.out.emp k hlt] at x2
      simp only [List.length_nil] at x2
      go_wp2_with fail
      go_roundw
      case rel => exact ⟨k + 1, by omega, by go_num, rfl, by first | trivial | rfl⟩
      case measure => simp [intOf]; omega
    · have hkn : k = m.n := by omega
      subst hkn
      go_wp2_with fail
      go_loopw [3, 7] (fun s _ wx => ∃ seen c0, Rng (wr.alloc (.mapIter (some gs.map) gs.clock #[] gs.clock)) wx gs.map wr.heap.size gs.clock ns seen c0 ∧ s = .int .i64 (seenSum ns seen)) (fun _ _ wx => wx.rangeLeft gs.map wr.heap.size)
      case atStart => exact ⟨#[], gs.clock, HR0.out, by rw [seenSum_nil]; rfl⟩
      case round =>
        obtain ⟨seen, c0, hR, rfl⟩ := hrel
        have hB := hR.below HM.out
        rcases hR.next H.out.stamp H.out.apart 0 with ⟨hall, hrun⟩ | ⟨y, hy, hys, w2, hrun, hR2, hlt2, hen, hon⟩
        · have HBB := Lib.hid hB
          clear hR hall hB
          go_wp2_with fail
          go_ret
          exact ⟨_, rfl, noteSum_filter _ _, HBB.out⟩
        · have hB2 := hR2.below HM.out
          have hna := (H.out.below hB2).notes y hy
          obtain ⟨na, nc, hnv⟩ := hna.own.form
          obtain ⟨n0, n1, nf⟩ := blk2 hna.box
          rw [hnv] at n0
          have hnl := heap_lt hna.box
          have hsp := seenSum_push H.out.apart hy hys
          have hsb : seenSum ns (seen.push y.born) ≤ noteSum ns := noteSum_filter _ _
          have hwr : IntKind.i64.wrap ((seenSum ns seen : Int) + (y.outs.length : Int)) = ((seenSum ns (seen.push y.born) : Nat) : Int) := by rw [IntKind.wrap_i64]; omega
          have hw1 : ((seenSum ns seen : Int) + (y.outs.length : Int)) = ((seenSum ns (seen.push y.born) : Nat) : Int) := by omega
          have HR2 := Lib.hid hR2
          have HL2 := Lib.hid hlt2
          have HW1 := Lib.hid hw1
          have hb1 : (0 : Int) ≤ (seenSum ns seen : Int) := by omega
          have hb2 : (seenSum ns seen : Int) ≤ 1000000 := by omega
          have hb3 : (y.outs.length : Int) ≤ 1000000 := by omega
          clear hR hB hB2 hna hnv hsp hsb hR2 hlt2 hw1 hy hys
          go_wp2_with fail
          go_roundw
          case rel => exact ⟨_, _, HR2.out, by first | rfl | rw [HW1.out]⟩
          case measure => exact HL2.out
end walks
end Go.Proofs.Ytdnkfgnjeibjeaa.W

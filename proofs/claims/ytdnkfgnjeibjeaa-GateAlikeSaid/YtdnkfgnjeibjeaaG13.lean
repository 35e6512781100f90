import Derived.Test.YtdnkfgnjeibjeaaG12
import Derived.Laws.IdiomRangeMap
namespace Go.Proofs.Ytdnkfgnjeibjeaa
open Go.RowKit Go.Shelf

theorem next_empty {P : Program} (w : World) (ty : TypeId) (bm clock : Nat) (hb : w.heap[bm]? = some (.map #[] clock)) :
    (Instr.next (.pointer (some ⟨w.heap.size, 0, none⟩)) false ty).run P (w.alloc (.mapIter (some bm) clock #[] clock)) = .ok (.tuple #[.bool false]) (w.alloc (.mapIter (some bm) clock #[] clock)) := by
  rcases run_next_map (P := P) w ty bm clock clock #[] #[] clock hb (fun x hx => by cases hx) (Nat.le_refl _) with ⟨_, h⟩ | ⟨e, he, _⟩
  · exact h
  · simp [leftOf] at he

section walks
set_option maxHeartbeats 1000000
set_option maxRecDepth 100000

theorem f42_any (w : World) {D : Nat → Prop} (gs : GS) (m : Gm) (h : GateAt w D gs m) (hq : qsum m m.n ≤ 1000000) :
    Calls Try.prog 42 #[.pointer (some ⟨gs.G, 0, none⟩)] w fun e w' => e = .returned (.int .i64 (qsum m m.n)) ∧ Below w.heap.size w w' := by
  obtain ⟨g0, g1, g2, g3, g4, gf⟩ := h.cells
  have hm := h.hmap
  have hle := h.le
  have hr := run_range_map (P := Try.prog) w 83 3 93 gs.map #[] gs.clock Try.underlying83 hm
  have hn := fun ty => next_empty (P := Try.prog) w ty gs.map gs.clock hm
  have H := Lib.hid h
  clear h hm
  go_enter Try.func42, Try.ntmps42
  go_wp2_with fail
  go_loopw [3, 13] (fun s i wr => ∃ k : Nat, k ≤ m.n ∧ i = .int .i64 k ∧ s = .int .i64 (qsum m k) ∧ wr = w) (fun _ i _ => m.n - (intOf i).toNat)
  case atStart => exact ⟨0, Nat.zero_le _, rfl, rfl, rfl⟩
  case round =>
    obtain ⟨k, hk, rfl, rfl, rfl⟩ := hrel
    by_cases hlt : k < m.n
    · obtain ⟨ia, x0, x1, x2, x3, x4, xf⟩ := H.out.lcells (GS.like.refl gs) hlt
      obtain ⟨qa, qc, x2⟩ := x2
      have hs : qsum m (k + 1) ≤ qsum m m.n := qsum_mono m hlt
      have hs' : qsum m (k + 1) = qsum m k + (m.inp k).queue.length := rfl
      have hw1 : ((qsum m k : Int) + ((m.inp k).queue.length : Int)) = ((qsum m (k + 1) : Nat) : Int) := by omega
      have hwr : IntKind.i64.wrap ((qsum m k : Int) + ((m.inp k).queue.length : Int)) = ((qsum m (k + 1) : Nat) : Int) := by rw [IntKind.wrap_i64]; omega
      clear hw1 hs' hs
      go_wp2_with fail
      go_roundw
      case rel => exact ⟨k + 1, by omega, by go_num, rfl, by first | trivial | rfl⟩
      case measure => simp [intOf]; omega
    · have hkn : k = m.n := by omega
      subst hkn
      go_wp2_with fail
      go_loopw [3] (fun s wx => s = .int .i64 (qsum m m.n) ∧ wx = wr.alloc (.mapIter (some gs.map) gs.clock #[] gs.clock)) (fun _ _ => 0)
      case atStart => exact ⟨rfl, rfl⟩
      case round =>
        obtain ⟨rfl, rfl⟩ := hrel
        go_wp2_with fail
        go_ret
        exact ⟨rfl, (Below.refl _ _).alloc (Nat.le_refl _) _⟩
end walks
end Go.Proofs.Ytdnkfgnjeibjeaa

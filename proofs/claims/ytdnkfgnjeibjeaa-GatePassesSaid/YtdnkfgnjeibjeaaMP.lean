import Derived.Test.YtdnkfgnjeibjeaaMA
import Derived.ProofKit
import Derived.Deep.Strs
import Derived.Deep.Slices
import Derived.Test.YtdnkfgnjeibjeaaMF

namespace Go.Proofs.Ytdnkfgnjeibjeaa
open Go.ChangeShapes Go.WideShapes Go.ChangeAt Go.RowKit Go.Deep

section opening
variable {H : Type} {enc : TypeId × Value → H} {w : World} {base : Nat} {spare : Nat → Bool} {held : Bool} {fuel : Nat} {cs : List Value} {x : DataW H × List MemPlace}

theorem cells3 : Try.prog.cellsOf 3 = 1 := by kernel_rfl
theorem cells5 : Try.prog.cellsOf 5 = 1 := by kernel_rfl
theorem cells9 : Try.prog.cellsOf 9 = 1 := by kernel_rfl
theorem cells30 : Try.prog.cellsOf 30 = 1 := by kernel_rfl
theorem cells32 : Try.prog.cellsOf 32 = 3 := by kernel_rfl
theorem cells34 : Try.prog.cellsOf 34 = 5 := by kernel_rfl
theorem cells36 : Try.prog.cellsOf 36 = 7 := by kernel_rfl
theorem cells112 : Try.prog.cellsOf 112 = 3 := by kernel_rfl

theorem trod_val (h : DataW.trod enc Try.prog w base spare held fuel 112 cs = some x) : ∃ v : Val, cs = [.int .i64 v.k, .int .i64 v.n, .string v.s] := by
  obtain ⟨y0, y1, y2, n, _, hl, h0, h1, h2⟩ := trod_struct3 Try.underlying112 h
  rw [cells112] at hl
  simp only [cells3, cells9] at h0 h1 h2
  obtain ⟨k, e0, _⟩ := DataW.trod_int Try.underlying3 h0
  obtain ⟨n', e1, _⟩ := DataW.trod_int Try.underlying3 h1
  obtain ⟨s, e2, _⟩ := DataW.trod_string Try.underlying9 h2
  match cs, hl with
  | [a, b, c], _ =>
    simp only [List.drop_zero, List.take_succ_cons, List.take_zero, List.drop_succ_cons, List.cons.injEq, and_true] at e0 e1 e2
    exact ⟨⟨k, n', s⟩, by rw [e0, e1, e2]⟩

theorem trod_row (h : DataW.trod enc Try.prog w base spare held fuel 30 cs = some x) : ∃ (r : Value) (row : List Val), cs = [r] ∧ RowAt w (fun b => b < w.heap.size) r row := by
  rcases Deep.open_slice Try.underlying30 h with ⟨rfl, _⟩ | ⟨a, len, cap, m, n, D, Pl, rfl, _, hlc, hcm, hm, _, hx⟩
  · exact ⟨_, [], rfl, none, 0, rfl, by simp, .inl rfl⟩
  · rw [cells112] at hx
    have hlm : len ≤ m := by subst hm; split <;> omega
    have : Inhabited Val := ⟨⟨0, 0, ByteArray.empty⟩⟩
    obtain ⟨V, hV⟩ := choose_lt (α := Val) (n := len) (p := fun i v => w.cell? (a.add (i * 3)) = some (.int .i64 v.k) ∧ w.cell? ((a.add (i * 3)).add 1) = some (.int .i64 v.n) ∧ w.cell? ((a.add (i * 3)).add 2) = some (.string v.s)) (fun i hi => by
      obtain ⟨cs', h1, h2⟩ := hx i (by omega)
      obtain ⟨v, rfl⟩ := trod_val h2
      obtain ⟨_, _, hc⟩ := World.cells?_some h1
      have c0 := hc 0 (by omega)
      have c1 := hc 1 (by omega)
      have c2 := hc 2 (by omega)
      exact ⟨v, by simpa [Addr.add] using c0, by simpa using c1, by simpa using c2⟩)
    refine ⟨_, (List.range len).map V, rfl, some a, cap, by simp, by simp only [List.length_map, List.length_range]; simp only [maxLen] at hcm; omega, ?_⟩
    rcases Nat.eq_zero_or_pos len with h0 | h0
    · exact .inl (by rw [h0]; rfl)
    · have hz := (hV 0 h0).1
      have hsp : a.spot = none := by
        have : a.add (0 * 3) = a := by simp [Addr.add]
        rw [this] at hz
        unfold World.cell? at hz
        split at hz
        · split at hz
          · cases hz
          · rename_i hs; simpa using hs
        · cases hz
      obtain ⟨b, off, spot⟩ := a
      dsimp only at hsp
      subst hsp
      refine .inr ⟨b, off, rfl, ?_, fun i hi => ?_⟩
      · have : (⟨b, off, none⟩ : Addr).add (0 * 3) = ⟨b, off, none⟩ := by simp [Addr.add]
        rw [this] at hz
        exact World.block_lt_of_cell? w ⟨b, off, none⟩ hz
      · have hi' : i < len := by simpa using hi
        obtain ⟨h1, h2, h3⟩ := hV i hi'
        have e0 : (⟨b, off, none⟩ : Addr).add (i * 3) = ⟨b, off + i * 3, none⟩ := by
          unfold Addr.add
          split
          · rename_i e; rw [e]; rfl
          · rfl
        rw [e0] at h1 h2 h3
        simp only [List.getElem_map, List.getElem_range]
        exact ⟨h1, h2, h3⟩

theorem trod_elem (h : DataW.trod enc Try.prog w base spare held fuel 34 cs = some x) : ∃ (e : Elem) (r : Value), cs = [.int .i64 e.k, .int .i64 e.n, .int .i64 e.t, r, .int .i64 e.c] ∧ RowAt w (fun b => b < w.heap.size) r e.row := by
  obtain ⟨y0, y1, y2, n, _, hl, h0, h1, h2⟩ := trod_struct3 Try.underlying34 h
  rw [cells34] at hl
  simp only [cells3, cells32] at h0 h1 h2
  obtain ⟨k, e0, _⟩ := DataW.trod_int Try.underlying3 h0
  obtain ⟨n', e1, _⟩ := DataW.trod_int Try.underlying3 h1
  obtain ⟨z0, z1, z2, _, _, hl2, g0, g1, g2⟩ := trod_struct3 Try.underlying32 h2
  simp only [cells3, cells30] at g0 g1 g2
  obtain ⟨t, f0, _⟩ := DataW.trod_int Try.underlying3 g0
  obtain ⟨r, row, f1, hr⟩ := trod_row g1
  obtain ⟨c, f2, _⟩ := DataW.trod_int Try.underlying3 g2
  match cs, hl with
  | [a, b, d, e, f], _ =>
    simp only [List.drop_zero, List.take_succ_cons, List.take_zero, List.drop_succ_cons, List.cons.injEq, and_true] at e0 e1 f0 f1 f2
    exact ⟨⟨k, n', t, row, c⟩, r, by rw [e0, e1, f0, f1, f2], hr⟩

theorem trod_act (h : DataW.trod enc Try.prog w base spare held fuel 36 cs = some x) : ∃ (kd i : Int) (e : Elem) (r : Value), cs = [.int .u8 kd, .int .i64 i, .int .i64 e.k, .int .i64 e.n, .int .i64 e.t, r, .int .i64 e.c] ∧ RowAt w (fun b => b < w.heap.size) r e.row := by
  obtain ⟨y0, y1, y2, n, _, hl, h0, h1, h2⟩ := trod_struct3 Try.underlying36 h
  rw [cells36] at hl
  simp only [cells3, cells5, cells34] at h0 h1 h2
  obtain ⟨kd, e0, _⟩ := DataW.trod_int Try.underlying5 h0
  obtain ⟨i, e1, _⟩ := DataW.trod_int Try.underlying3 h1
  obtain ⟨e, r, e2, hr⟩ := trod_elem h2
  match cs, hl with
  | [a, b, c, d, f, g, j], _ =>
    simp only [List.drop_zero, List.take_succ_cons, List.take_zero, List.drop_succ_cons, List.cons.injEq, and_true] at e0 e1 e2
    obtain ⟨e2, e3, e4, e5, e6⟩ := e2
    exact ⟨kd, i, e, r, by rw [e0, e1, e2, e3, e4, e5, e6], hr⟩

end opening
end Go.Proofs.Ytdnkfgnjeibjeaa

namespace Go.Proofs.Ytdnkfgnjeibjeaa
theorem Try.own : ownKnob Try.prog.godebug = none := by kernel_rfl
theorem Try.laidOut : laidOutB Try.prog = true := by kernel_rfl
end Go.Proofs.Ytdnkfgnjeibjeaa

namespace Go.Proofs.Ytdnkfgnjeibjeaa
open Go.ChangeShapes Go.WideShapes Go.ChangeAt Go.RowKit Go.Deep

section opening
variable {H : Type} {enc : TypeId × Value → H} {w : World} {base : Nat} {spare : Nat → Bool} {held : Bool} {fuel : Nat} {cs : List Value} {x : DataW H × List MemPlace}

/-- The acts of a law. -/
theorem trod_acts (h : DataW.trod enc Try.prog w base spare held fuel 22 cs = some x) : ∃ (v : Value) (l : List ActV), cs = [v] ∧ ActsAt w (fun b => b < w.heap.size) v l := by
  rcases Deep.open_slice Try.underlying22 h with ⟨rfl, _⟩ | ⟨a, len, cap, m, n, D, Pl, rfl, _, hlc, hcm, hm, _, hx⟩
  · exact ⟨_, [], rfl, none, 0, rfl, by simp, .inl rfl⟩
  · rw [cells36] at hx
    have hlm : len ≤ m := by subst hm; split <;> omega
    have : Inhabited ActV := ⟨⟨0, 0, ⟨0, 0, 0, [], 0⟩⟩⟩
    obtain ⟨V, hV⟩ := choose_lt (α := ActV) (n := len) (p := fun i v => ∃ r, w.cell? (a.add (i * 7)) = some (.int .u8 v.kd) ∧ w.cell? ((a.add (i * 7)).add 1) = some (.int .i64 v.i) ∧ w.cell? ((a.add (i * 7)).add 2) = some (.int .i64 v.e.k) ∧ w.cell? ((a.add (i * 7)).add 3) = some (.int .i64 v.e.n) ∧ w.cell? ((a.add (i * 7)).add 4) = some (.int .i64 v.e.t) ∧ w.cell? ((a.add (i * 7)).add 5) = some r ∧ w.cell? ((a.add (i * 7)).add 6) = some (.int .i64 v.e.c) ∧ RowAt w (fun b => b < w.heap.size) r v.e.row) (fun i hi => by
      obtain ⟨cs', h1, h2⟩ := hx i (by omega)
      obtain ⟨kd, j, e, r, rfl, hr⟩ := trod_act h2
      obtain ⟨_, _, hc⟩ := World.cells?_some h1
      have c0 := hc 0 (by omega)
      have c1 := hc 1 (by omega)
      have c2 := hc 2 (by omega)
      have c3 := hc 3 (by omega)
      have c4 := hc 4 (by omega)
      have c5 := hc 5 (by omega)
      have c6 := hc 6 (by omega)
      exact ⟨⟨kd, j, e⟩, r, by simpa [Addr.add] using c0, by simpa using c1, by simpa using c2, by simpa using c3, by simpa using c4, by simpa using c5, by simpa using c6, hr⟩)
    refine ⟨_, (List.range len).map V, rfl, some a, cap, by simp, by simp only [List.length_map, List.length_range]; simp only [maxLen] at hcm; omega, ?_⟩
    rcases Nat.eq_zero_or_pos len with h0 | h0
    · exact .inl (by rw [h0]; rfl)
    · obtain ⟨_, hz, _⟩ := hV 0 h0
      have hsp : a.spot = none := by
        have : a.add (0 * 7) = a := by simp [Addr.add]
        rw [this] at hz
        unfold World.cell? at hz
        split at hz
        · split at hz
          · cases hz
          · rename_i hs; simpa using hs
        · cases hz
      obtain ⟨b, off, spot⟩ := a
      dsimp only at hsp
      subst hsp
      have e0 : ∀ i, (⟨b, off, none⟩ : Addr).add i = ⟨b, off + i, none⟩ := fun i => by
        unfold Addr.add
        split
        · rename_i e; rw [e]; rfl
        · rfl
      have e1 : ∀ i j, (⟨b, i, none⟩ : Addr).add j = ⟨b, i + j, none⟩ := fun i j => by
        unfold Addr.add
        split
        · rename_i e; rw [e]; rfl
        · rfl
      refine .inr ⟨b, off, rfl, ?_, fun i hi => ?_⟩
      · rw [e0] at hz
        exact World.block_lt_of_cell? w ⟨b, _, none⟩ hz
      · have hi' : i < len := by simpa using hi
        obtain ⟨r, h1, h2, h3, h4, h5, h6, h7, h8⟩ := hV i hi'
        rw [e0] at h1 h2 h3 h4 h5 h6 h7
        rw [e1] at h2 h3 h4 h5 h6 h7
        simp only [List.getElem_map, List.getElem_range]
        exact ⟨h1, h2, r, h3, h4, h5, h6, h7, h8⟩

end opening
end Go.Proofs.Ytdnkfgnjeibjeaa

/-
  How WellNothing's argument is read. No conditions.
-/
import Derived.Test.YtiabkalmkneogaaGreatDoorWC
import Derived.ProofKit
import Derived.Deep.Strs
import Derived.Deep.Slices
import Derived.Lib.SmallJoins
namespace Go.Proofs.YtiabkalmkneogaaGreatDoor
open Go.ChangeShapes Go.WideShapes Go.ChangeAt Go.RowKit Go.Deep

section opening
variable {H : Type} {enc : TypeId × Value → H} {w : World} {base : Nat} {spare : Nat → Bool} {held : Bool} {fuel : Nat} {cs : List Value} {x : DataW H × List MemPlace}

theorem cells3 : Tryz.prog.cellsOf 3 = 1 := by kernel_rfl
theorem cells5 : Tryz.prog.cellsOf 5 = 1 := by kernel_rfl
theorem cells9 : Tryz.prog.cellsOf 9 = 1 := by kernel_rfl
theorem cells34 : Tryz.prog.cellsOf 34 = 1 := by kernel_rfl
theorem cells54 : Tryz.prog.cellsOf 54 = 1 := by kernel_rfl
theorem cells41 : Tryz.prog.cellsOf 41 = 4 := by kernel_rfl
theorem cells56 : Tryz.prog.cellsOf 56 = 2 := by kernel_rfl
theorem cells81 : Tryz.prog.cellsOf 81 = 3 := by kernel_rfl

theorem spot_none {a : Addr} {v : Value} (h : w.cell? a = some v) : a.spot = none := by
  unfold World.cell? at h
  split at h
  · split at h
    · cases h
    · rename_i hs; simpa using hs
  · cases h

theorem trod_val (h : DataW.trod enc Tryz.prog w base spare held fuel 81 cs = some x) : ∃ (k n : Int) (s : ByteArray), cs = [.int .i64 k, .int .i64 n, .string s] := by
  obtain ⟨y0, y1, y2, n, _, hl, h0, h1, h2⟩ := trod_struct3 Tryz.underlying81 h
  rw [cells81] at hl
  simp only [cells3, cells9] at h0 h1 h2
  obtain ⟨k, e0, _⟩ := DataW.trod_int Tryz.underlying3 h0
  obtain ⟨n', e1, _⟩ := DataW.trod_int Tryz.underlying3 h1
  obtain ⟨s, e2, _⟩ := DataW.trod_string Tryz.underlying9 h2
  match cs, hl with
  | [a, b, c], _ =>
    simp only [List.drop_zero, List.take_succ_cons, List.take_zero, List.drop_succ_cons, List.cons.injEq, and_true] at e0 e1 e2
    exact ⟨k, n', s, by rw [e0, e1, e2]⟩

/-- A row. -/
theorem trod_row (h : DataW.trod enc Tryz.prog w base spare held fuel 54 cs = some x) : ∃ ra rn rc, cs = [.slice ra rn rc] ∧ RowIn w ra rn := by
  rcases Deep.open_slice Tryz.underlying54 h with ⟨rfl, _⟩ | ⟨a, len, cap, m, n, D, Pl, rfl, _, hlc, hcm, hm, _, hx⟩
  · exact ⟨_, _, _, rfl, by simp, .inl rfl⟩
  · rw [cells81] at hx
    have hlm : len ≤ m := by subst hm; split <;> omega
    refine ⟨_, _, _, rfl, by simp only [maxLen] at hcm; omega, ?_⟩
    have hV : ∀ i, i < len → ∃ s, w.cell? ((a.add (i * 3)).add 2) = some (.string s) := fun i hi => by
      obtain ⟨cs', h1, h2⟩ := hx i (by omega)
      obtain ⟨k, n, s, rfl⟩ := trod_val h2
      obtain ⟨_, _, hc⟩ := World.cells?_some h1
      have c2 := hc 2 (by omega)
      exact ⟨s, by simpa using c2⟩
    rcases Nat.eq_zero_or_pos len with h0 | h0
    · exact .inl h0
    · have hsp : a.spot = none := by
        obtain ⟨cs', h1, h2⟩ := hx 0 (by omega)
        obtain ⟨k, n, s, rfl⟩ := trod_val h2
        obtain ⟨_, _, hc⟩ := World.cells?_some h1
        have c0 := hc 0 (by omega)
        exact spot_none (w := w) (a := a) (v := .int .i64 k) (by simpa [Addr.add] using c0)
      obtain ⟨b, off, spot⟩ := a
      dsimp only at hsp
      subst hsp
      refine .inr ⟨b, off, rfl, ?_, fun i hi => ?_⟩
      · obtain ⟨s, hs⟩ := hV 0 h0
        rw [Ev.add_none, Ev.add_none] at hs
        exact World.block_lt_of_cell? w ⟨b, _, none⟩ hs
      · obtain ⟨s, hs⟩ := hV i hi
        rw [Ev.add_none, Ev.add_none] at hs
        exact ⟨s, hs⟩

theorem trod_event (h : DataW.trod enc Tryz.prog w base spare held fuel 56 cs = some x) : ∃ (t : Int) (ra : Option Addr) (rn rc : Nat), cs = [.int .i64 t, .slice ra rn rc] ∧ RowIn w ra rn := by
  obtain ⟨y0, y1, n, _, hl, h0, h1⟩ := trod_struct2 Tryz.underlying56 h
  rw [cells56] at hl
  simp only [cells3, cells54] at h0 h1
  obtain ⟨t, e0, _⟩ := DataW.trod_int Tryz.underlying3 h0
  obtain ⟨ra, rn, rc, e1, hr⟩ := trod_row h1
  match cs, hl with
  | [a, b], _ =>
    simp only [List.drop_zero, List.take_succ_cons, List.take_zero, List.drop_succ_cons, List.cons.injEq, and_true] at e0 e1
    exact ⟨t, ra, rn, rc, by rw [e0, e1], hr⟩

/-- A list of events. -/
theorem trod_events (h : DataW.trod enc Tryz.prog w base spare held fuel 34 cs = some x) : ∃ ea en ec, cs = [.slice ea en ec] ∧ EvtsAt w ea en := by
  rcases Deep.open_slice Tryz.underlying34 h with ⟨rfl, _⟩ | ⟨a, len, cap, m, n, D, Pl, rfl, _, hlc, hcm, hm, _, hx⟩
  · exact ⟨_, _, _, rfl, by simp, .inl rfl⟩
  · rw [cells56] at hx
    have hlm : len ≤ m := by subst hm; split <;> omega
    refine ⟨_, _, _, rfl, by simp only [maxLen] at hcm; omega, ?_⟩
    have hV : ∀ i, i < len → ∃ ra rn rc, w.cell? ((a.add (i * 2)).add 1) = some (.slice ra rn rc) ∧ RowIn w ra rn := fun i hi => by
      obtain ⟨cs', h1, h2⟩ := hx i (by omega)
      obtain ⟨t, ra, rn, rc, rfl, hr⟩ := trod_event h2
      obtain ⟨_, _, hc⟩ := World.cells?_some h1
      have c1 := hc 1 (by omega)
      exact ⟨ra, rn, rc, by simpa using c1, hr⟩
    rcases Nat.eq_zero_or_pos len with h0 | h0
    · exact .inl h0
    · have hsp : a.spot = none := by
        obtain ⟨cs', h1, h2⟩ := hx 0 (by omega)
        obtain ⟨t, ra, rn, rc, rfl, hr⟩ := trod_event h2
        obtain ⟨_, _, hc⟩ := World.cells?_some h1
        have c0 := hc 0 (by omega)
        exact spot_none (w := w) (a := a) (v := .int .i64 t) (by simpa [Addr.add] using c0)
      obtain ⟨b, off, spot⟩ := a
      dsimp only at hsp
      subst hsp
      refine .inr ⟨b, off, rfl, ?_, fun i hi => ?_⟩
      · obtain ⟨ra, rn, rc, hs, _⟩ := hV 0 h0
        rw [Ev.add_none, Ev.add_none] at hs
        exact World.block_lt_of_cell? w ⟨b, _, none⟩ hs
      · obtain ⟨ra, rn, rc, hs, hr⟩ := hV i hi
        rw [Ev.add_none, Ev.add_none] at hs
        exact ⟨ra, rn, rc, hs, hr⟩

theorem trod_act (h : DataW.trod enc Tryz.prog w base spare held fuel 41 cs = some x) : ∃ (kd r : Int) (nm : ByteArray) (ea : Option Addr) (en ec : Nat), cs = [.int .u8 kd, .int .i64 r, .string nm, .slice ea en ec] ∧ EvtsAt w ea en := by
  obtain ⟨y0, y1, y2, y3, n, _, hl, h0, h1, h2, h3⟩ := Go.Joins.trod_struct4 Tryz.underlying41 h
  rw [cells41] at hl
  simp only [cells3, cells5, cells9, cells34] at h0 h1 h2 h3
  obtain ⟨kd, e0, _⟩ := DataW.trod_int Tryz.underlying5 h0
  obtain ⟨r, e1, _⟩ := DataW.trod_int Tryz.underlying3 h1
  obtain ⟨nm, e2, _⟩ := DataW.trod_string Tryz.underlying9 h2
  obtain ⟨ea, en, ec, e3, hr⟩ := trod_events h3
  match cs, hl with
  | [a, b, c, d], _ =>
    simp only [List.drop_zero, List.take_succ_cons, List.take_zero, List.drop_succ_cons, List.cons.injEq, and_true] at e0 e1 e2 e3
    exact ⟨kd, r, nm, ea, en, ec, by rw [e0, e1, e2, e3], hr⟩

end opening
end Go.Proofs.YtiabkalmkneogaaGreatDoor

/-
  How NodeNil's arguments are read: it proves where their cells lie. No conditions.
-/
import Derived.Test.YtjmiegmeekpdcaaGreatDoorNA
import Derived.ProofKit
import Derived.Deep.Strs
import Derived.Deep.Slices
import Derived.Lib.SmallJoins
set_option linter.unusedSimpArgs false
set_option linter.unusedVariables false
namespace Go.Proofs.YtjmiegmeekpdcaaGreatDoor
open Go.ChangeShapes Go.WideShapes Go.ChangeAt Go.RowKit Go.Deep

section opening
variable {H : Type} {enc : TypeId × Value → H} {w : World} {base : Nat} {spare : Nat → Bool} {held : Bool} {fuel : Nat} {cs : List Value} {x : DataW H × List MemPlace}

theorem cells3 : Tryz.prog.cellsOf 3 = 1 := by kernel_rfl
theorem cells9 : Tryz.prog.cellsOf 9 = 1 := by kernel_rfl
theorem cells23 : Tryz.prog.cellsOf 23 = 1 := by kernel_rfl
theorem cells25 : Tryz.prog.cellsOf 25 = 3 := by kernel_rfl
theorem cells45 : Tryz.prog.cellsOf 45 = 3 := by kernel_rfl

theorem add_none (b o j : Nat) : (⟨b, o, none⟩ : Addr).add j = ⟨b, o + j, none⟩ := by unfold Addr.add; split <;> simp_all

theorem spot_none {a : Addr} {v : Value} (h : w.cell? a = some v) : a.spot = none := by
  unfold World.cell? at h
  split at h
  · split at h
    · cases h
    · rename_i hs; simpa using hs
  · cases h

theorem trod_val (h : DataW.trod enc Tryz.prog w base spare held fuel 45 cs = some x) : ∃ (k n : Int) (s : ByteArray), cs = [.int .i64 k, .int .i64 n, .string s] ∧ s.size ≤ 9223372036854775807 := by
  obtain ⟨y0, y1, y2, n, _, hl, h0, h1, h2⟩ := trod_struct3 Tryz.underlying45 h
  rw [cells45] at hl
  simp only [cells3, cells9] at h0 h1 h2
  obtain ⟨k, e0, _⟩ := DataW.trod_int Tryz.underlying3 h0
  obtain ⟨n', e1, _⟩ := DataW.trod_int Tryz.underlying3 h1
  obtain ⟨s, e2, _, hz⟩ := DataW.trod_string Tryz.underlying9 h2
  match cs, hl with
  | [a, b, c], _ =>
    simp only [List.drop_zero, List.take_succ_cons, List.take_zero, List.drop_succ_cons, List.cons.injEq, and_true] at e0 e1 e2
    exact ⟨k, n', s, by rw [e0, e1, e2], by simp only [maxLen] at hz; omega⟩

/-- A row. -/
theorem trod_row (h : DataW.trod enc Tryz.prog w base spare held fuel 23 cs = some x) : ∃ ra rn rc, cs = [.slice ra rn rc] ∧ RowIn w ra rn := by
  rcases Deep.open_slice Tryz.underlying23 h with ⟨rfl, _⟩ | ⟨a, len, cap, m, n, D, Pl, rfl, _, hlc, hcm, hm, _, hx⟩
  · exact ⟨_, _, _, rfl, by simp, .inl rfl⟩
  · rw [cells45] at hx
    have hlm : len ≤ m := by subst hm; split <;> omega
    refine ⟨_, _, _, rfl, by simp only [maxLen] at hcm; omega, ?_⟩
    have hV : ∀ i, i < len → ∃ s, w.cell? ((a.add (i * 3)).add 2) = some (.string s) ∧ s.size ≤ 9223372036854775807 := fun i hi => by
      obtain ⟨cs', h1, h2⟩ := hx i (by omega)
      obtain ⟨k, n, s, rfl, hz⟩ := trod_val h2
      obtain ⟨_, _, hc⟩ := World.cells?_some h1
      have c2 := hc 2 (by omega)
      exact ⟨s, by simpa using c2, hz⟩
    rcases Nat.eq_zero_or_pos len with h0 | h0
    · exact .inl h0
    · have hsp : a.spot = none := by
        obtain ⟨cs', h1, h2⟩ := hx 0 (by omega)
        obtain ⟨k, n, s, rfl, _⟩ := trod_val h2
        obtain ⟨_, _, hc⟩ := World.cells?_some h1
        have c0 := hc 0 (by omega)
        exact spot_none (w := w) (a := a) (v := .int .i64 k) (by simpa [Addr.add] using c0)
      obtain ⟨b, off, spot⟩ := a
      dsimp only at hsp
      subst hsp
      refine .inr ⟨b, off, rfl, ?_, fun i hi => ?_⟩
      · obtain ⟨s, hs, _⟩ := hV 0 h0
        rw [add_none, add_none] at hs
        exact World.block_lt_of_cell? w ⟨b, _, none⟩ hs
      · obtain ⟨s, hs, hz⟩ := hV i hi
        rw [add_none, add_none] at hs
        exact ⟨s, hs, hz⟩

theorem trod_change (h : DataW.trod enc Tryz.prog w base spare held fuel 25 cs = some x) : ∃ (t : Int) (ra : Option Addr) (rn rc : Nat) (n : Int), cs = [.int .i64 t, .slice ra rn rc, .int .i64 n] ∧ RowIn w ra rn := by
  obtain ⟨y0, y1, y2, n, _, hl, h0, h1, h2⟩ := trod_struct3 Tryz.underlying25 h
  rw [cells25] at hl
  simp only [cells3, cells23] at h0 h1 h2
  obtain ⟨t, e0, _⟩ := DataW.trod_int Tryz.underlying3 h0
  obtain ⟨ra, rn, rc, e1, hr⟩ := trod_row h1
  obtain ⟨n', e2, _⟩ := DataW.trod_int Tryz.underlying3 h2
  match cs, hl with
  | [a, b, c], _ =>
    simp only [List.drop_zero, List.take_succ_cons, List.take_zero, List.drop_succ_cons, List.cons.injEq, and_true] at e0 e1 e2
    exact ⟨t, ra, rn, rc, n', by rw [e0, e1, e2], hr⟩
end opening
end Go.Proofs.YtjmiegmeekpdcaaGreatDoor

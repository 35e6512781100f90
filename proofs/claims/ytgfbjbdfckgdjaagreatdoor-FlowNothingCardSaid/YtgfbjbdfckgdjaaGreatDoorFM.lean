/-
  How FlowNothing's argument are read: it proves where its cells lie. No conditions.
-/
import Derived.Test.YtgfbjbdfckgdjaaGreatDoorFB
import Derived.ProofKit
import Derived.Deep.Strs
import Derived.Deep.Slices
import Derived.Lib.SmallJoins
set_option linter.unusedSimpArgs false
set_option linter.unusedVariables false
namespace Go.Proofs.YtgfbjbdfckgdjaaGreatDoor
open Go.ChangeShapes Go.WideShapes Go.ChangeAt Go.RowKit Go.Deep

section opening
variable {H : Type} {enc : TypeId × Value → H} {w : World} {base : Nat} {spare : Nat → Bool} {held : Bool} {fuel : Nat} {cs : List Value} {x : DataW H × List MemPlace}

theorem cells3 : Tryz.prog.cellsOf 3 = 1 := by kernel_rfl
theorem cells9 : Tryz.prog.cellsOf 9 = 1 := by kernel_rfl
theorem cells53 : Tryz.prog.cellsOf 53 = 1 := by kernel_rfl
theorem cells25 : Tryz.prog.cellsOf 25 = 7 := by kernel_rfl
theorem cells5 : Tryz.prog.cellsOf 5 = 1 := by kernel_rfl
theorem cells22 : Tryz.prog.cellsOf 22 = 1 := by kernel_rfl
theorem cells23 : Tryz.prog.cellsOf 23 = 1 := by kernel_rfl
theorem cells55 : Tryz.prog.cellsOf 55 = 2 := by kernel_rfl
theorem cells51 : Tryz.prog.cellsOf 51 = 3 := by kernel_rfl

theorem add_none (b o j : Nat) : (⟨b, o, none⟩ : Addr).add j = ⟨b, o + j, none⟩ := by unfold Addr.add; split <;> simp_all

theorem spot_none {a : Addr} {v : Value} (h : w.cell? a = some v) : a.spot = none := by
  unfold World.cell? at h
  split at h
  · split at h
    · cases h
    · rename_i hs; simpa using hs
  · cases h

theorem trod_val (h : DataW.trod enc Tryz.prog w base spare held fuel 51 cs = some x) : ∃ (k n : Int) (s : ByteArray), cs = [.int .i64 k, .int .i64 n, .string s] ∧ s.size ≤ 9223372036854775807 := by
  obtain ⟨y0, y1, y2, n, _, hl, h0, h1, h2⟩ := trod_struct3 Tryz.underlying51 h
  rw [cells51] at hl
  simp only [cells3, cells9] at h0 h1 h2
  obtain ⟨k, e0, _⟩ := DataW.trod_int Tryz.underlying3 h0
  obtain ⟨n', e1, _⟩ := DataW.trod_int Tryz.underlying3 h1
  obtain ⟨s, e2, _, hz⟩ := DataW.trod_string Tryz.underlying9 h2
  match cs, hl with
  | [a, b, c], _ =>
    simp only [List.drop_zero, List.take_succ_cons, List.take_zero, List.drop_succ_cons, List.cons.injEq, and_true] at e0 e1 e2
    exact ⟨k, n', s, by rw [e0, e1, e2], by simp only [maxLen] at hz; omega⟩

/-- A row. -/
theorem trod_row (h : DataW.trod enc Tryz.prog w base spare held fuel 53 cs = some x) : ∃ ra rn rc, cs = [.slice ra rn rc] ∧ RowIn w ra rn := by
  rcases Deep.open_slice Tryz.underlying53 h with ⟨rfl, _⟩ | ⟨a, len, cap, m, n, D, Pl, rfl, _, hlc, hcm, hm, _, hx⟩
  · exact ⟨_, _, _, rfl, by simp, .inl rfl⟩
  · rw [cells51] at hx
    have hlm : len ≤ m := by subst hm; split <;> omega
    refine ⟨_, _, _, rfl, by simp only [maxLen] at hcm; omega, ?_⟩
    have hV : ∀ i, i < len → ∃ s, w.cell? ((a.add (i * 3)).add 2) = some (.string s) ∧ s.size ≤ 9223372036854775807 := fun i hi => by
      obtain ⟨cs', h1, h2⟩ := hx i (by omega)
      obtain ⟨k, n, s, rfl, hz⟩ := trod_val h2
      obtain ⟨_, _, hc⟩ := World.cells?_some h1
      have c2 := hc 2 (by omega)
      exact ⟨s, by simpa using c2, hz⟩
    rcases Nat.eq_zero_or_pos len with h0 | h0
    · exact .inl h0
    · have hsp : a.spot = none := by
        obtain ⟨cs', h1, h2⟩ := hx 0 (by omega)
        obtain ⟨k, n, s, rfl, _⟩ := trod_val h2
        obtain ⟨_, _, hc⟩ := World.cells?_some h1
        have c0 := hc 0 (by omega)
        exact spot_none (w := w) (a := a) (v := .int .i64 k) (by simpa [Addr.add] using c0)
      obtain ⟨b, off, spot⟩ := a
      dsimp only at hsp
      subst hsp
      refine .inr ⟨b, off, rfl, ?_, fun i hi => ?_⟩
      · obtain ⟨s, hs, _⟩ := hV 0 h0
        rw [add_none, add_none] at hs
        exact World.block_lt_of_cell? w ⟨b, _, none⟩ hs
      · obtain ⟨s, hs, hz⟩ := hV i hi
        rw [add_none, add_none] at hs
        exact ⟨s, hs, hz⟩

theorem trod_event (h : DataW.trod enc Tryz.prog w base spare held fuel 55 cs = some x) : ∃ (t : Int) (ra : Option Addr) (rn rc : Nat), cs = [.int .i64 t, .slice ra rn rc] ∧ RowIn w ra rn := by
  obtain ⟨y0, y1, n, _, hl, h0, h1⟩ := trod_struct2 Tryz.underlying55 h
  rw [cells55] at hl
  simp only [cells3, cells53] at h0 h1
  obtain ⟨t, e0, _⟩ := DataW.trod_int Tryz.underlying3 h0
  obtain ⟨ra, rn, rc, e1, hr⟩ := trod_row h1
  match cs, hl with
  | [a, b], _ =>
    simp only [List.drop_zero, List.take_succ_cons, List.take_zero, List.drop_succ_cons, List.cons.injEq, and_true] at e0 e1
    exact ⟨t, ra, rn, rc, by rw [e0, e1], hr⟩

/-- Events. -/
theorem trod_events (h : DataW.trod enc Tryz.prog w base spare held fuel 23 cs = some x) : ∃ ea en ec, cs = [.slice ea en ec] ∧ EvsIn w ea en := by
  rcases Deep.open_slice Tryz.underlying23 h with ⟨rfl, _⟩ | ⟨a, len, cap, m, n, D, Pl, rfl, _, hlc, hcm, hm, _, hx⟩
  · exact ⟨_, _, _, rfl, by simp, .inl rfl⟩
  · rw [cells55] at hx
    have hlm : len ≤ m := by subst hm; split <;> omega
    refine ⟨_, _, _, rfl, by simp only [maxLen] at hcm; omega, ?_⟩
    have hV : ∀ i, i < len → ∃ t ra rn rc, w.cell? (a.add (i * 2)) = some (.int .i64 t) ∧ w.cell? ((a.add (i * 2)).add 1) = some (.slice ra rn rc) ∧ RowIn w ra rn := fun i hi => by
      obtain ⟨cs', h1, h2⟩ := hx i (by omega)
      obtain ⟨t, ra, rn, rc, rfl, hr⟩ := trod_event h2
      obtain ⟨_, _, hc⟩ := World.cells?_some h1
      have c0 := hc 0 (by omega)
      have c1 := hc 1 (by omega)
      exact ⟨t, ra, rn, rc, by simpa [Addr.add] using c0, by simpa using c1, hr⟩
    rcases Nat.eq_zero_or_pos len with h0 | h0
    · exact .inl h0
    · have hsp : a.spot = none := by
        obtain ⟨t, ra, rn, rc, hc, _⟩ := hV 0 h0
        exact spot_none (w := w) (a := a) (v := .int .i64 t) (by simpa [Addr.add] using hc)
      obtain ⟨b, off, spot⟩ := a
      dsimp only at hsp
      subst hsp
      refine .inr ⟨b, off, rfl, ?_, fun i hi => ?_⟩
      · obtain ⟨t, ra, rn, rc, hs, _⟩ := hV 0 h0
        rw [add_none] at hs
        exact World.block_lt_of_cell? w ⟨b, _, none⟩ hs
      · obtain ⟨t, ra, rn, rc, _, hs, hr⟩ := hV i hi
        rw [add_none, add_none] at hs
        exact ⟨ra, rn, rc, hs, hr⟩

theorem trod_ints (h : DataW.trod enc Tryz.prog w base spare held fuel 22 cs = some x) : ∃ na nn nc, cs = [.slice na nn nc] ∧ nn ≤ 9223372036854775807 := by
  rcases Deep.open_slice Tryz.underlying22 h with ⟨rfl, _⟩ | ⟨a, len, cap, m, n, D, Pl, rfl, _, hlc, hcm, hm, _, hx⟩
  · exact ⟨_, _, _, rfl, by simp⟩
  · exact ⟨_, _, _, rfl, by simp only [maxLen] at hcm; omega⟩

theorem trod_struct7 {P : Program} {t : TypeId} {f0 f1 f2 f3 f4 f5 f6 : Field} {fuel : Nat} {cs : List Value} {x : DataW H × List MemPlace} (ht : P.underlying t = some (.struct #[f0, f1, f2, f3, f4, f5, f6])) (h : DataW.trod enc P w base spare held fuel t cs = some x) :
    ∃ y0 y1 y2 y3 y4 y5 y6 n, cs.length = P.cellsOf t ∧ DataW.trod enc P w base spare held n f0.type ((cs.drop f0.offset).take (P.cellsOf f0.type)) = some y0 ∧
      DataW.trod enc P w base spare held n f1.type ((cs.drop f1.offset).take (P.cellsOf f1.type)) = some y1 ∧ DataW.trod enc P w base spare held n f2.type ((cs.drop f2.offset).take (P.cellsOf f2.type)) = some y2 ∧
      DataW.trod enc P w base spare held n f3.type ((cs.drop f3.offset).take (P.cellsOf f3.type)) = some y3 ∧ DataW.trod enc P w base spare held n f4.type ((cs.drop f4.offset).take (P.cellsOf f4.type)) = some y4 ∧
      DataW.trod enc P w base spare held n f5.type ((cs.drop f5.offset).take (P.cellsOf f5.type)) = some y5 ∧ DataW.trod enc P w base spare held n f6.type ((cs.drop f6.offset).take (P.cellsOf f6.type)) = some y6 := by
  obtain ⟨xs, n, _, rfl, hl, hlen, hf⟩ := DataW.trod_struct ht h
  match xs, hlen with
  | [y0, y1, y2, y3, y4, y5, y6], _ => exact ⟨y0, y1, y2, y3, y4, y5, y6, n, hl, by simpa using hf 0 f0 rfl, by simpa using hf 1 f1 rfl, by simpa using hf 2 f2 rfl, by simpa using hf 3 f3 rfl, by simpa using hf 4 f4 rfl, by simpa using hf 5 f5 rfl, by simpa using hf 6 f6 rfl⟩

theorem trod_act (h : DataW.trod enc Tryz.prog w base spare held fuel 25 cs = some x) : ∃ (k n m : Int) (a s : ByteArray) (na : Option Addr) (nn nc : Nat) (ea : Option Addr) (en ec : Nat), cs = [.int .u8 k, .int .i64 n, .int .i64 m, .string a, .string s, .slice na nn nc, .slice ea en ec] ∧
    a.size ≤ 9223372036854775807 ∧ s.size ≤ 9223372036854775807 ∧ nn ≤ 9223372036854775807 ∧ EvsIn w ea en := by
  obtain ⟨y0, y1, y2, y3, y4, y5, y6, n0, hl, h0, h1, h2, h3, h4, h5, h6⟩ := trod_struct7 Tryz.underlying25 h
  rw [cells25] at hl
  simp only [cells3, cells9, cells5, cells22, cells23] at h0 h1 h2 h3 h4 h5 h6
  obtain ⟨k, e0, _⟩ := DataW.trod_int Tryz.underlying5 h0
  obtain ⟨n, e1, _⟩ := DataW.trod_int Tryz.underlying3 h1
  obtain ⟨m, e2, _⟩ := DataW.trod_int Tryz.underlying3 h2
  obtain ⟨a, e3, _, za⟩ := DataW.trod_string Tryz.underlying9 h3
  obtain ⟨s, e4, _, zs⟩ := DataW.trod_string Tryz.underlying9 h4
  obtain ⟨na, nn, nc, e5, hn⟩ := trod_ints h5
  obtain ⟨ea, en, ec, e6, he⟩ := trod_events h6
  match cs, hl with
  | [v0, v1, v2, v3, v4, v5, v6], _ =>
    simp only [List.drop_zero, List.take_succ_cons, List.take_zero, List.drop_succ_cons, List.cons.injEq, and_true] at e0 e1 e2 e3 e4 e5 e6
    exact ⟨k, n, m, a, s, na, nn, nc, ea, en, ec, by rw [e0, e1, e2, e3, e4, e5, e6], by simp only [maxLen] at za; omega, by simp only [maxLen] at zs; omega, hn, he⟩
end opening
end Go.Proofs.YtgfbjbdfckgdjaaGreatDoor

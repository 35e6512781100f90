/-
  How MotifOrders' arguments are read: it proves where their cells lie. No conditions.
-/
import Derived.Test.YtimahogkcmmcnaaGreatDoorMG
import Derived.ProofKit
import Derived.Deep.Strs
import Derived.Deep.Slices
import Derived.Lib.SmallJoins
set_option linter.unusedSimpArgs false
set_option linter.unusedVariables false
namespace Go.Proofs.YtimahogkcmmcnaaGreatDoor
open Go.ChangeShapes Go.WideShapes Go.ChangeAt Go.RowKit Go.Deep Go.Proofs.YtimahogkcmmcnaaGreatDoor.Cmps

theorem choose_list {α : Type} {p : Nat → α → Prop} : ∀ (n : Nat), (∀ i, i < n → ∃ x, p i x) → ∃ l : List α, l.length = n ∧ ∀ i (hi : i < l.length), p i l[i]
  | 0, _ => ⟨[], rfl, fun i hi => by simp at hi⟩
  | n + 1, h => by
    obtain ⟨l, hl, hp⟩ := choose_list n (fun i hi => h i (by omega))
    obtain ⟨x, hx⟩ := h n (by omega)
    refine ⟨l ++ [x], by simp [hl], fun i hi => ?_⟩
    by_cases e : i < l.length
    · rw [List.getElem_append_left e]; exact hp i e
    · have hi' : i < l.length + 1 := by simpa using hi
      obtain rfl : i = l.length := by omega
      rw [List.getElem_append_right (Nat.le_refl _)]
      simp [hl, hx]

section opening
variable {H : Type} {enc : TypeId × Value → H} {w : World} {base : Nat} {spare : Nat → Bool} {held : Bool} {fuel : Nat} {cs : List Value} {x : DataW H × List MemPlace}

theorem cells3 : Tryz.prog.cellsOf 3 = 1 := by kernel_rfl
theorem cells9 : Tryz.prog.cellsOf 9 = 1 := by kernel_rfl
theorem cells28 : Tryz.prog.cellsOf 28 = 1 := by kernel_rfl
theorem cells30 : Tryz.prog.cellsOf 30 = 2 := by kernel_rfl
theorem cells71 : Tryz.prog.cellsOf 71 = 2 := by kernel_rfl
theorem cells78 : Tryz.prog.cellsOf 78 = 3 := by kernel_rfl

theorem spot_none {a : Addr} {v : Value} (h : w.cell? a = some v) : a.spot = none := by
  unfold World.cell? at h
  split at h
  · split at h
    · cases h
    · rename_i hs; simpa using hs
  · cases h

theorem trod_val (h : DataW.trod enc Tryz.prog w base spare held fuel 78 cs = some x) : ∃ v : Val, cs = [.int .i64 v.k, .int .i64 v.n, .string v.s] := by
  obtain ⟨y0, y1, y2, n, _, hl, h0, h1, h2⟩ := trod_struct3 Tryz.underlying78 h
  rw [cells78] at hl
  simp only [cells3, cells9] at h0 h1 h2
  obtain ⟨k, e0, _⟩ := DataW.trod_int Tryz.underlying3 h0
  obtain ⟨n', e1, _⟩ := DataW.trod_int Tryz.underlying3 h1
  obtain ⟨s, e2, _⟩ := DataW.trod_string Tryz.underlying9 h2
  match cs, hl with
  | [a, b, c], _ =>
    simp only [List.drop_zero, List.take_succ_cons, List.take_zero, List.drop_succ_cons, List.cons.injEq, and_true] at e0 e1 e2
    exact ⟨⟨k, n', s⟩, by rw [e0, e1, e2]⟩

theorem trod_col (h : DataW.trod enc Tryz.prog w base spare held fuel 71 cs = some x) : ∃ v : Col, cs = [.string v.n, .int .i64 v.k] ∧ v.n.size ≤ 9223372036854775807 := by
  obtain ⟨y0, y1, n, _, hl, h0, h1⟩ := trod_struct2 Tryz.underlying71 h
  rw [cells71] at hl
  simp only [cells3, cells9] at h0 h1
  obtain ⟨s, e0, _, hz⟩ := DataW.trod_string Tryz.underlying9 h0
  obtain ⟨k, e1, _⟩ := DataW.trod_int Tryz.underlying3 h1
  match cs, hl with
  | [a, b], _ =>
    simp only [List.drop_zero, List.take_succ_cons, List.take_zero, List.drop_succ_cons, List.cons.injEq, and_true] at e0 e1
    exact ⟨⟨s, k⟩, by rw [e0, e1], by simp only [maxLen] at hz; exact hz⟩

/-- A row. -/
theorem trod_row (h : DataW.trod enc Tryz.prog w base spare held fuel 28 cs = some x) : ∃ r row, cs = [r] ∧ RowAt w (fun b => b < w.heap.size) r row := by
  rcases Deep.open_slice Tryz.underlying28 h with ⟨rfl, _⟩ | ⟨a, len, cap, m, n, D, Pl, rfl, _, hlc, hcm, hm, _, hx⟩
  · exact ⟨_, [], rfl, none, 0, rfl, by simp, .inl rfl⟩
  · rw [cells78] at hx
    have hlm : len ≤ m := by subst hm; split <;> omega
    have hV : ∀ i, i < len → ∃ v : Val, w.cell? (a.add (i * 3)) = some (.int .i64 v.k) ∧ w.cell? ((a.add (i * 3)).add 1) = some (.int .i64 v.n) ∧ w.cell? ((a.add (i * 3)).add 2) = some (.string v.s) := fun i hi => by
      obtain ⟨cs', h1, h2⟩ := hx i (by omega)
      obtain ⟨v, rfl⟩ := trod_val h2
      obtain ⟨_, _, hc⟩ := World.cells?_some h1
      have c0 := hc 0 (by omega)
      have c1 := hc 1 (by omega)
      have c2 := hc 2 (by omega)
      exact ⟨v, by simpa [Addr.add] using c0, by simpa using c1, by simpa using c2⟩
    obtain ⟨row, hl, hp⟩ := choose_list len hV
    refine ⟨_, row, rfl, some a, cap, by rw [hl], by simp only [maxLen] at hcm; omega, ?_⟩
    rcases Nat.eq_zero_or_pos len with h0 | h0
    · exact .inl (List.eq_nil_of_length_eq_zero (by omega))
    · obtain ⟨v, c0, _⟩ := hV 0 h0
      have hsp : a.spot = none := spot_none (w := w) (a := a) (v := .int .i64 v.k) (by simpa [Addr.add] using c0)
      obtain ⟨b, off, spot⟩ := a
      dsimp only at hsp
      subst hsp
      refine .inr ⟨b, off, rfl, ?_, fun i hi => ?_⟩
      · rw [add_at] at c0; exact cell_lt c0
      · obtain ⟨c0, c1, c2⟩ := hp i hi
        simp only [add_at] at c0 c1 c2
        exact ⟨c0, c1, c2⟩

theorem trod_event (h : DataW.trod enc Tryz.prog w base spare held fuel 30 cs = some x) : ∃ (t : Int) (r : Value) (row : List Val), cs = [.int .i64 t, r] ∧ RowAt w (fun b => b < w.heap.size) r row := by
  obtain ⟨y0, y1, n, _, hl, h0, h1⟩ := trod_struct2 Tryz.underlying30 h
  rw [cells30] at hl
  simp only [cells3, cells28] at h0 h1
  obtain ⟨t, e0, _⟩ := DataW.trod_int Tryz.underlying3 h0
  obtain ⟨r, row, e1, hr⟩ := trod_row h1
  match cs, hl with
  | [a, b], _ =>
    simp only [List.drop_zero, List.take_succ_cons, List.take_zero, List.drop_succ_cons, List.cons.injEq, and_true] at e0 e1
    exact ⟨t, r, row, by rw [e0, e1], hr⟩

/-- A list of events. -/
theorem trod_events (h : DataW.trod enc Tryz.prog w base spare held fuel 24 cs = some x) : ∃ v l, cs = [v] ∧ EvtsAt w (fun b => b < w.heap.size) v l := by
  rcases Deep.open_slice Tryz.underlying24 h with ⟨rfl, _⟩ | ⟨a, len, cap, m, n, D, Pl, rfl, _, hlc, hcm, hm, _, hx⟩
  · exact ⟨_, [], rfl, none, 0, rfl, by simp, .inl rfl⟩
  · rw [cells30] at hx
    have hlm : len ≤ m := by subst hm; split <;> omega
    have hV : ∀ i, i < len → ∃ y : Evt, w.cell? (a.add (i * 2)) = some (.int .i64 y.t) ∧ ∃ r, w.cell? ((a.add (i * 2)).add 1) = some r ∧ RowAt w (fun b => b < w.heap.size) r y.r := fun i hi => by
      obtain ⟨cs', h1, h2⟩ := hx i (by omega)
      obtain ⟨t, r, row, rfl, hr⟩ := trod_event h2
      obtain ⟨_, _, hc⟩ := World.cells?_some h1
      have c0 := hc 0 (by omega)
      have c1 := hc 1 (by omega)
      exact ⟨⟨t, row⟩, by simpa [Addr.add] using c0, r, by simpa using c1, hr⟩
    obtain ⟨l, hl, hp⟩ := choose_list len hV
    refine ⟨_, l, rfl, some a, cap, by rw [hl], by simp only [maxLen] at hcm; omega, ?_⟩
    rcases Nat.eq_zero_or_pos len with h0 | h0
    · exact .inl (List.eq_nil_of_length_eq_zero (by omega))
    · obtain ⟨v, c0, _⟩ := hV 0 h0
      have hsp : a.spot = none := spot_none (w := w) (a := a) (v := .int .i64 v.t) (by simpa [Addr.add] using c0)
      obtain ⟨b, off, spot⟩ := a
      dsimp only at hsp
      subst hsp
      refine .inr ⟨b, off, rfl, ?_, fun i hi => ?_⟩
      · rw [add_at] at c0; exact cell_lt c0
      · obtain ⟨c0, r, c1, hr⟩ := hp i hi
        simp only [add_at] at c0 c1
        exact ⟨c0, r, c1, hr⟩

/-- A schema. -/
theorem trod_schema (h : DataW.trod enc Tryz.prog w base spare held fuel 23 cs = some x) : ∃ v l, cs = [v] ∧ SchemaAt w (fun b => b < w.heap.size) v l := by
  rcases Deep.open_slice Tryz.underlying23 h with ⟨rfl, _⟩ | ⟨a, len, cap, m, n, D, Pl, rfl, _, hlc, hcm, hm, _, hx⟩
  · exact ⟨_, [], rfl, none, 0, rfl, by simp, by simp, by simp, .inl rfl⟩
  · rw [cells71] at hx
    have hlm : len ≤ m := by subst hm; split <;> omega
    have hV : ∀ i, i < len → ∃ y : Col, w.cell? (a.add (i * 2)) = some (.string y.n) ∧ w.cell? ((a.add (i * 2)).add 1) = some (.int .i64 y.k) ∧ y.n.size ≤ 9223372036854775807 := fun i hi => by
      obtain ⟨cs', h1, h2⟩ := hx i (by omega)
      obtain ⟨v, rfl, hz⟩ := trod_col h2
      obtain ⟨_, _, hc⟩ := World.cells?_some h1
      have c0 := hc 0 (by omega)
      have c1 := hc 1 (by omega)
      exact ⟨v, by simpa [Addr.add] using c0, by simpa using c1, hz⟩
    obtain ⟨l, hl, hp⟩ := choose_list len hV
    refine ⟨_, l, rfl, some a, cap, by rw [hl], by omega, by simp only [maxLen] at hcm; omega, fun c hc => ?_, ?_⟩
    · obtain ⟨i, hi, rfl⟩ := List.mem_iff_getElem.1 hc
      exact (hp i hi).2.2
    rcases Nat.eq_zero_or_pos len with h0 | h0
    · exact .inl (List.eq_nil_of_length_eq_zero (by omega))
    · obtain ⟨v, c0, _⟩ := hV 0 h0
      have hsp : a.spot = none := spot_none (w := w) (a := a) (v := .string v.n) (by simpa [Addr.add] using c0)
      obtain ⟨b, off, spot⟩ := a
      dsimp only at hsp
      subst hsp
      refine .inr ⟨b, off, rfl, ?_, fun i hi => ?_⟩
      · rw [add_at] at c0; exact cell_lt c0
      · obtain ⟨c0, c1, _⟩ := hp i hi
        simp only [add_at] at c0 c1
        exact ⟨c0, c1⟩
end opening
end Go.Proofs.YtimahogkcmmcnaaGreatDoor

/-
  How the acts of the law WellOnce are read: their kinds are not below zero. No conditions.
-/
import Derived.Test.YtimahogkcmmcnaaGreatDoorK29
set_option linter.unusedSimpArgs false
set_option linter.unusedVariables false

namespace Go.Proofs.YtimahogkcmmcnaaGreatDoor
open Go.ChangeShapes Go.WideShapes Go.ChangeAt Go.RowKit Go.Deep Go.Proofs.YtimahogkcmmcnaaGreatDoor.Cmps

section opening
variable {H : Type} {enc : TypeId × Value → H} {w : World} {base : Nat} {spare : Nat → Bool} {held : Bool} {fuel : Nat} {cs : List Value} {x : DataW H × List MemPlace}

/-- An act. -/
theorem trod_actK (h : DataW.trod enc Tryz.prog w base spare held fuel 50 cs = some x) : ∃ (y : ActM) (ev : Value), cs = [.int .u8 y.kind, .int .i64 y.reader, .string y.name, ev] ∧ EvtsAt w (fun b => b < w.heap.size) ev y.evs ∧ EvsSmall y.evs ∧ y.name.size ≤ 9223372036854775807 ∧ 0 ≤ y.kind := by
  obtain ⟨y0, y1, y2, y3, n, _, hl, h0, h1, h2, h3⟩ := Go.Joins.trod_struct4 Tryz.underlying50 h
  rw [cz50] at hl
  simp only [cz3, cz5, cz9, cz24] at h0 h1 h2 h3
  obtain ⟨k, e0, _, wk⟩ := DataW.trod_int Tryz.underlying5 h0
  have hk0 : 0 ≤ k := by
    simp [Lit.wf, IntKind.min, IntKind.signed] at wk
    omega
  obtain ⟨r, e1, _⟩ := DataW.trod_int Tryz.underlying3 h1
  obtain ⟨s, e2, _, hz⟩ := DataW.trod_string Tryz.underlying9 h2
  obtain ⟨ev, l, e3, he, hs⟩ := trod_events h3
  match cs, hl with
  | [a, b, c, d], _ =>
    simp only [List.drop_zero, List.take_succ_cons, List.take_zero, List.drop_succ_cons, List.cons.injEq, and_true] at e0 e1 e2 e3
    exact ⟨⟨k, r, s, l⟩, ev, by rw [e0, e1, e2, e3], he, hs, by simp only [maxLen] at hz; exact hz, hk0⟩

/-- A list of acts. -/
theorem trod_actsK (h : DataW.trod enc Tryz.prog w base spare held fuel 37 cs = some x) : ∃ v l, cs = [v] ∧ ActsAt w (fun b => b < w.heap.size) v l ∧ ∀ y ∈ l, 0 ≤ y.kind := by
  rcases Deep.open_slice Tryz.underlying37 h with ⟨rfl, _⟩ | ⟨a, len, cap, m, n, D, Pl, rfl, _, hlc, hcm, hm, _, hx⟩
  · exact ⟨_, [], rfl, ⟨none, 0, rfl, by simp, .inl rfl⟩, by simp⟩
  · rw [cz50] at hx
    have hlm : len ≤ m := by subst hm; split <;> omega
    have hV : ∀ i, i < len → ∃ y : ActM, ∃ ev, EvtsAt w (fun b => b < w.heap.size) ev y.evs ∧ EvsSmall y.evs ∧ y.name.size ≤ 9223372036854775807 ∧ 0 ≤ y.kind ∧
        w.cell? (a.add (i * 4)) = some (.int .u8 y.kind) ∧ w.cell? ((a.add (i * 4)).add 1) = some (.int .i64 y.reader) ∧ w.cell? ((a.add (i * 4)).add 2) = some (.string y.name) ∧ w.cell? ((a.add (i * 4)).add 3) = some ev := fun i hi => by
      obtain ⟨cs', h1, h2⟩ := hx i (by omega)
      obtain ⟨y, ev, rfl, he, hs, hz, hk⟩ := trod_actK h2
      obtain ⟨_, _, hc⟩ := World.cells?_some h1
      have c0 := hc 0 (by omega)
      have c1 := hc 1 (by omega)
      have c2 := hc 2 (by omega)
      have c3 := hc 3 (by omega)
      exact ⟨y, ev, he, hs, hz, hk, by simpa [Addr.add] using c0, by simpa using c1, by simpa using c2, by simpa using c3⟩
    obtain ⟨l, hl, hp⟩ := choose_list len hV
    refine ⟨_, l, rfl, ⟨some a, cap, by rw [hl], by simp only [maxLen] at hcm; omega, ?_⟩, fun y hy => by obtain ⟨i, hi, rfl⟩ := List.mem_iff_getElem.1 hy; obtain ⟨ev, _, _, _, hk, _⟩ := hp i hi; exact hk⟩
    rcases Nat.eq_zero_or_pos len with h0 | h0
    · exact .inl (List.eq_nil_of_length_eq_zero (by omega))
    · obtain ⟨v, ev, _, _, _, _, c0, _⟩ := hV 0 h0
      have hsp : a.spot = none := spot_none (w := w) (a := a) (v := .int .u8 v.kind) (by simpa [Addr.add] using c0)
      obtain ⟨b, off, spot⟩ := a
      dsimp only at hsp
      subst hsp
      refine .inr ⟨b, off, rfl, ?_, fun i hi => ?_⟩
      · rw [add_at] at c0; exact cell_lt c0
      · obtain ⟨ev, he, hs, hz, _, c0, c1, c2, c3⟩ := hp i hi
        simp only [add_at] at c0 c1 c2 c3
        exact ⟨ev, he, hs, hz, c0, c1, c2, c3⟩
end opening
end Go.Proofs.YtimahogkcmmcnaaGreatDoor


import Derived.Test.YtdnkfgnjeibjeaaMP
import Derived.Test.YtdnkfgnjeibjeaaMG
namespace Go.Proofs.Ytdnkfgnjeibjeaa
open Go.ChangeShapes Go.WideShapes Go.ChangeAt Go.RowKit Go.Deep

section opening
variable {H : Type} {enc : TypeId × Value → H} {w : World} {base : Nat} {spare : Nat → Bool} {held : Bool} {fuel : Nat} {cs : List Value} {x : DataW H × List MemPlace}

theorem cells49 : Try.prog.cellsOf 49 = 1 := by kernel_rfl
theorem cells57 : Try.prog.cellsOf 57 = 6 := by kernel_rfl

theorem spot_none {a : Addr} {v : Value} (h : w.cell? a = some v) : a.spot = none := by
  unfold World.cell? at h
  split at h
  · split at h
    · cases h
    · rename_i hs; simpa using hs
  · cases h

theorem add_off (b o i : Nat) : (⟨b, o, none⟩ : Addr).add i = ⟨b, o + i, none⟩ := by
  unfold Addr.add
  split
  · rename_i e; rw [e]; rfl
  · rfl

/-- A list of elements. -/
theorem trod_elems (h : DataW.trod enc Try.prog w base spare held fuel 49 cs = some x) : ∃ (v : Value) (l : List Elem), cs = [v] ∧ ElemsAt w (fun b => b < w.heap.size) v l ∧ CapOk v := by
  rcases Deep.open_slice Try.underlying49 h with ⟨rfl, _⟩ | ⟨a, len, cap, m, n, D, Pl, rfl, _, hlc, hcm, hm, _, hx⟩
  · exact ⟨_, [], rfl, ⟨none, 0, rfl, by simp, .inl rfl⟩, fun a n c e => by injection e with _ e1 e2; omega⟩
  · rw [cells34] at hx
    have hlm : len ≤ m := by subst hm; split <;> omega
    have : Inhabited Elem := ⟨⟨0, 0, 0, [], 0⟩⟩
    obtain ⟨V, hV⟩ := choose_lt (α := Elem) (n := len) (p := fun i v => ∃ r, w.cell? (a.add (i * 5)) = some (.int .i64 v.k) ∧ w.cell? ((a.add (i * 5)).add 1) = some (.int .i64 v.n) ∧ w.cell? ((a.add (i * 5)).add 2) = some (.int .i64 v.t) ∧ w.cell? ((a.add (i * 5)).add 3) = some r ∧ w.cell? ((a.add (i * 5)).add 4) = some (.int .i64 v.c) ∧ RowAt w (fun b => b < w.heap.size) r v.row) (fun i hi => by
      obtain ⟨cs', h1, h2⟩ := hx i (by omega)
      obtain ⟨e, r, rfl, hr⟩ := trod_elem h2
      obtain ⟨_, _, hc⟩ := World.cells?_some h1
      have c0 := hc 0 (by omega)
      have c1 := hc 1 (by omega)
      have c2 := hc 2 (by omega)
      have c3 := hc 3 (by omega)
      have c4 := hc 4 (by omega)
      exact ⟨e, r, by simpa [Addr.add] using c0, by simpa using c1, by simpa using c2, by simpa using c3, by simpa using c4, hr⟩)
    refine ⟨_, (List.range len).map V, rfl, ⟨some a, cap, by simp, by simp only [List.length_map, List.length_range]; simp only [maxLen] at hcm; omega, ?_⟩, fun a' n' c' e => by injection e with _ e1 e2; omega⟩
    rcases Nat.eq_zero_or_pos len with h0 | h0
    · exact .inl (by rw [h0]; rfl)
    · obtain ⟨_, hz, _⟩ := hV 0 h0
      have hsp : a.spot = none := by
        have : a.add (0 * 5) = a := by simp [Addr.add]
        rw [this] at hz
        exact spot_none hz
      obtain ⟨b, off, spot⟩ := a
      dsimp only at hsp
      subst hsp
      refine .inr ⟨b, off, rfl, ?_, fun i hi => ?_⟩
      · rw [add_off] at hz
        exact World.block_lt_of_cell? w ⟨b, _, none⟩ hz
      · have hi' : i < len := by simpa using hi
        obtain ⟨r, h1, h2, h3, h4, h5, h6⟩ := hV i hi'
        rw [add_off] at h1 h2 h3 h4 h5
        rw [add_off] at h2 h3 h4 h5
        simp only [List.getElem_map, List.getElem_range]
        exact ⟨r, h1, h2, h3, h4, h5, h6⟩

/-- A list of lists of elements. -/
theorem trod_lists (h : DataW.trod enc Try.prog w base spare held fuel 47 cs = some x) : ∃ (v : Value) (ll : List (List Elem)), cs = [v] ∧ ListsAt w (fun b => b < w.heap.size) v ll := by
  rcases Deep.open_slice Try.underlying47 h with ⟨rfl, _⟩ | ⟨a, len, cap, m, n, D, Pl, rfl, _, hlc, hcm, hm, _, hx⟩
  · exact ⟨_, [], rfl, none, 0, rfl, by simp, .inl rfl⟩
  · rw [cells49] at hx
    have hlm : len ≤ m := by subst hm; split <;> omega
    have : Inhabited (List Elem) := ⟨[]⟩
    obtain ⟨V, hV⟩ := choose_lt (α := List Elem) (n := len) (p := fun i l => ∃ u, w.cell? (a.add (i * 1)) = some u ∧ ElemsAt w (fun b => b < w.heap.size) u l ∧ CapOk u) (fun i hi => by
      obtain ⟨cs', h1, h2⟩ := hx i (by omega)
      obtain ⟨u, l, rfl, hl, hcp⟩ := trod_elems h2
      obtain ⟨_, _, hc⟩ := World.cells?_some h1
      have c0 := hc 0 (by omega)
      exact ⟨l, u, by simpa [Addr.add] using c0, hl, hcp⟩)
    refine ⟨_, (List.range len).map V, rfl, some a, cap, by simp, by simp only [List.length_map, List.length_range]; simp only [maxLen] at hcm; omega, ?_⟩
    rcases Nat.eq_zero_or_pos len with h0 | h0
    · exact .inl (by rw [h0]; rfl)
    · obtain ⟨_, hz, _⟩ := hV 0 h0
      have hsp : a.spot = none := by
        have : a.add (0 * 1) = a := by simp [Addr.add]
        rw [this] at hz
        exact spot_none hz
      obtain ⟨b, off, spot⟩ := a
      dsimp only at hsp
      subst hsp
      refine .inr ⟨b, off, rfl, ?_, fun i hi => ?_⟩
      · rw [add_off] at hz
        exact World.block_lt_of_cell? w ⟨b, _, none⟩ hz
      · have hi' : i < len := by simpa using hi
        obtain ⟨u, h1, h2, h3⟩ := hV i hi'
        rw [add_off, Nat.mul_one] at h1
        simp only [List.getElem_map, List.getElem_range]
        exact ⟨u, h1, h2, h3⟩

theorem trod_out (h : DataW.trod enc Try.prog w base spare held fuel 57 cs = some x) : ∃ (i : Int) (e : Elem) (r : Value), cs = [.int .i64 i, .int .i64 e.k, .int .i64 e.n, .int .i64 e.t, r, .int .i64 e.c] ∧ RowAt w (fun b => b < w.heap.size) r e.row := by
  obtain ⟨y0, y1, n, _, hl, h0, h1⟩ := trod_struct2 Try.underlying57 h
  rw [cells57] at hl
  simp only [cells3, cells34] at h0 h1
  obtain ⟨i, e0, _⟩ := DataW.trod_int Try.underlying3 h0
  obtain ⟨e, r, e1, hr⟩ := trod_elem h1
  match cs, hl with
  | [a, b, c, d, f, g], _ =>
    simp only [List.drop_zero, List.take_succ_cons, List.take_zero, List.drop_succ_cons, List.cons.injEq, and_true] at e0 e1
    obtain ⟨e1, e2, e3, e4, e5⟩ := e1
    exact ⟨i, e, r, by rw [e0, e1, e2, e3, e4, e5], hr⟩

/-- What passed, of the reference's kind. -/
theorem trod_outs (h : DataW.trod enc Try.prog w base spare held fuel 41 cs = some x) : ∃ (v : Value) (l : List (Int × Elem)), cs = [v] ∧ OutsAt w (fun b => b < w.heap.size) v l := by
  rcases Deep.open_slice Try.underlying41 h with ⟨rfl, _⟩ | ⟨a, len, cap, m, n, D, Pl, rfl, _, hlc, hcm, hm, _, hx⟩
  · exact ⟨_, [], rfl, none, 0, rfl, by simp, .inl rfl⟩
  · rw [cells57] at hx
    have hlm : len ≤ m := by subst hm; split <;> omega
    have : Inhabited (Int × Elem) := ⟨(0, ⟨0, 0, 0, [], 0⟩)⟩
    obtain ⟨V, hV⟩ := choose_lt (α := Int × Elem) (n := len) (p := fun i v => ∃ r, w.cell? (a.add (i * 6)) = some (.int .i64 v.1) ∧ w.cell? ((a.add (i * 6)).add 1) = some (.int .i64 v.2.k) ∧ w.cell? ((a.add (i * 6)).add 2) = some (.int .i64 v.2.n) ∧ w.cell? ((a.add (i * 6)).add 3) = some (.int .i64 v.2.t) ∧ w.cell? ((a.add (i * 6)).add 4) = some r ∧ w.cell? ((a.add (i * 6)).add 5) = some (.int .i64 v.2.c) ∧ RowAt w (fun b => b < w.heap.size) r v.2.row) (fun i hi => by
      obtain ⟨cs', h1, h2⟩ := hx i (by omega)
      obtain ⟨j, e, r, rfl, hr⟩ := trod_out h2
      obtain ⟨_, _, hc⟩ := World.cells?_some h1
      have c0 := hc 0 (by omega)
      have c1 := hc 1 (by omega)
      have c2 := hc 2 (by omega)
      have c3 := hc 3 (by omega)
      have c4 := hc 4 (by omega)
      have c5 := hc 5 (by omega)
      exact ⟨(j, e), r, by simpa [Addr.add] using c0, by simpa using c1, by simpa using c2, by simpa using c3, by simpa using c4, by simpa using c5, hr⟩)
    refine ⟨_, (List.range len).map V, rfl, some a, cap, by simp, by simp only [List.length_map, List.length_range]; simp only [maxLen] at hcm; omega, ?_⟩
    rcases Nat.eq_zero_or_pos len with h0 | h0
    · exact .inl (by rw [h0]; rfl)
    · obtain ⟨_, hz, _⟩ := hV 0 h0
      have hsp : a.spot = none := by
        have : a.add (0 * 6) = a := by simp [Addr.add]
        rw [this] at hz
        exact spot_none hz
      obtain ⟨b, off, spot⟩ := a
      dsimp only at hsp
      subst hsp
      refine .inr ⟨b, off, rfl, ?_, fun i hi => ?_⟩
      · rw [add_off] at hz
        exact World.block_lt_of_cell? w ⟨b, _, none⟩ hz
      · have hi' : i < len := by simpa using hi
        obtain ⟨r, h1, h2, h3, h4, h5, h6, h7⟩ := hV i hi'
        rw [add_off] at h1 h2 h3 h4 h5 h6
        rw [add_off] at h2 h3 h4 h5 h6
        simp only [List.getElem_map, List.getElem_range]
        exact ⟨h1, r, h2, h3, h4, h5, h6, h7⟩

end opening
end Go.Proofs.Ytdnkfgnjeibjeaa

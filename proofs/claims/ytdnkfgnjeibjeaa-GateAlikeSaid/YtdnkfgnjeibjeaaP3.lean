import Derived.Test.YtdnkfgnjeibjeaaP1
import Derived.Test.YtdnkfgnjeibjeaaN3
namespace Go.Proofs.Ytdnkfgnjeibjeaa
open Go.ChangeShapes Go.WideShapes Go.ChangeAt Go.RowKit Go.Deep

section opening
variable {H : Type} {enc : TypeId × Value → H} {w : World} {base : Nat} {spare : Nat → Bool} {held : Bool} {fuel : Nat} {cs : List Value} {x : DataW H × List MemPlace}

/-- The acts of a law. -/
theorem trod_acts (h : DataW.trod enc Try.prog w base spare held fuel 22 cs = some x) : ∃ (v : Value) (l : List ActV), cs = [v] ∧ ActsAt w (fun b => b < w.heap.size) v l := by
  rcases Deep.open_slice Try.underlying22 h with ⟨rfl, _⟩ | ⟨a, len, cap, m, n, D, Pl, rfl, _, hlc, hcm, hm, _, hx⟩
  · exact ⟨_, [], rfl, none, 0, rfl, by simp, .inl rfl⟩
  · rw [cells36] at hx
    have hlm : len ≤ m := by subst hm; split <;> omega
    have : Inhabited ActV := ⟨⟨0, 0, ⟨0, 0, 0, [], 0⟩⟩⟩
    obtain ⟨V, hV⟩ := choose_lt (α := ActV) (n := len) (p := fun i v => ∃ r, w.cell? (a.add (i * 7)) = some (.int .u8 v.kd) ∧ w.cell? ((a.add (i * 7)).add 1) = some (.int .i64 v.i) ∧ w.cell? ((a.add (i * 7)).add 2) = some (.int .i64 v.e.k) ∧ w.cell? ((a.add (i * 7)).add 3) = some (.int .i64 v.e.n) ∧ w.cell? ((a.add (i * 7)).add 4) = some (.int .i64 v.e.t) ∧ w.cell? ((a.add (i * 7)).add 5) = some r ∧ w.cell? ((a.add (i * 7)).add 6) = some (.int .i64 v.e.c) ∧ RowAt w (fun b => b < w.heap.size) r v.e.row) (fun i hi => by
      obtain ⟨cs', h1, h2⟩ := hx i (by omega)
      obtain ⟨kd, j, e, r, rfl, hr⟩ := trod_act h2
      obtain ⟨_, _, hc⟩ := World.cells?_some h1
      have c0 := hc 0 (by omega)
      have c1 := hc 1 (by omega)
      have c2 := hc 2 (by omega)
      have c3 := hc 3 (by omega)
      have c4 := hc 4 (by omega)
      have c5 := hc 5 (by omega)
      have c6 := hc 6 (by omega)
      exact ⟨⟨kd, j, e⟩, r, by simpa [Addr.add] using c0, by simpa using c1, by simpa using c2, by simpa using c3, by simpa using c4, by simpa using c5, by simpa using c6, hr⟩)
    refine ⟨_, (List.range len).map V, rfl, some a, cap, by simp, by simp only [List.length_map, List.length_range]; simp only [maxLen] at hcm; omega, ?_⟩
    rcases Nat.eq_zero_or_pos len with h0 | h0
    · exact .inl (by rw [h0]; rfl)
    · obtain ⟨_, hz, _⟩ := hV 0 h0
      have hsp : a.spot = none := by
        have : a.add (0 * 7) = a := by simp [Addr.add]
        rw [this] at hz
        unfold World.cell? at hz
        split at hz
        · split at hz
          · cases hz
          · rename_i hs; simpa using hs
        · cases hz
      obtain ⟨b, off, spot⟩ := a
      dsimp only at hsp
      subst hsp
      have e0 : ∀ i, (⟨b, off, none⟩ : Addr).add i = ⟨b, off + i, none⟩ := fun i => by
        unfold Addr.add
        split
        · rename_i e; rw [e]; rfl
        · rfl
      have e1 : ∀ i j, (⟨b, i, none⟩ : Addr).add j = ⟨b, i + j, none⟩ := fun i j => by
        unfold Addr.add
        split
        · rename_i e; rw [e]; rfl
        · rfl
      refine .inr ⟨b, off, rfl, ?_, fun i hi => ?_⟩
      · rw [e0] at hz
        exact World.block_lt_of_cell? w ⟨b, _, none⟩ hz
      · have hi' : i < len := by simpa using hi
        obtain ⟨r, h1, h2, h3, h4, h5, h6, h7, h8⟩ := hV i hi'
        rw [e0] at h1 h2 h3 h4 h5 h6 h7
        rw [e1] at h2 h3 h4 h5 h6 h7
        simp only [List.getElem_map, List.getElem_range]
        exact ⟨h1, h2, r, h3, h4, h5, h6, h7, h8⟩

end opening
end Go.Proofs.Ytdnkfgnjeibjeaa

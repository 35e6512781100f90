import Derived.Test.YtdnkfgnjeibjeaaN4
namespace Go.Proofs.Ytdnkfgnjeibjeaa
open Go.RowKit Go.Shelf

/-- What passed, without its rows' places. -/
def bare (o : OV) : Int × Elem := ((o.1 : Int), o.2.1)

theorem OutsAt.of_own {w : World} {D : Nat → Prop} {e : TypeId} {v : Value} {outs : List OV} {blk : Option Nat} (h : SlOwn w e 6 v outs.length (outs.flatMap ocl) blk) (hlen : outs.length ≤ 1000000) (hr : ∀ o ∈ outs, RowAt w D o.2.2 o.2.1.row) (hD : ∀ b, blk = some b → D b) :
    OutsAt w D v (outs.map bare) := by
  obtain ⟨a, c, rfl⟩ := h.form
  refine ⟨a, c, by simp, by simp; omega, ?_⟩
  rcases Nat.eq_zero_or_pos outs.length with h0 | h0
  · exact .inl (by rw [List.eq_nil_of_length_eq_zero h0]; rfl)
  · obtain ⟨g, o, ha, hb⟩ : ∃ g o, a = some ⟨g, o, none⟩ ∧ blk = some g := by
      rcases h.2 with ⟨hx, _⟩ | ⟨g, o, cap, cur, hb, hx, _⟩
      · injection hx with _ hx _; omega
      · injection hx with hx _ _; exact ⟨g, o, hx, hb⟩
    subst ha
    refine .inr ⟨g, o, rfl, hD g hb, fun i hi => ?_⟩
    have hi' : i < outs.length := by simpa using hi
    have hc := fun j (hj : j < 6) u (hu : (ocl outs[i])[j]? = some u) => h.cell (i * 6 + j) u ((flat_at ocl_len outs i j hi' hj).trans hu)
    simp only [List.getElem_map, bare]
    exact ⟨hc 0 (by omega) _ rfl, outs[i].2.2, hc 1 (by omega) _ rfl, hc 2 (by omega) _ rfl, hc 3 (by omega) _ rfl, hc 4 (by omega) _ rfl, hc 5 (by omega) _ rfl, hr _ (List.getElem_mem hi')⟩

end Go.Proofs.Ytdnkfgnjeibjeaa

import Derived.Test.YtdnkfgnjeibjeaaJ5
namespace Go.Proofs.Ytdnkfgnjeibjeaa.W
open Go.RowKit Go.Shelf

section walks
set_option maxHeartbeats 1000000
set_option maxRecDepth 100000

/-- The barrier under way is given up. -/
theorem f123_any (w : World) {D : Nat → Prop} (gs : GS) (m : Gm) (ns : List NoteC) (h : FreeAt w D gs m ns) :
    Calls Try.prog 123 #[.agg #[], .pointer (some ⟨gs.G, 0, none⟩)] w fun e w' => e = .returned (.tuple #[]) ∧ FreeAt w' D (gs.less ns m.under) m (ns.filter (fun x => x.k != m.under)) ∧ Only (fun b => b = gs.map) w w' := by
  have hb0 : Below w.heap.size w (w.alloc (Obj.cells #[] 82)) := (Below.refl _ _).alloc (Nat.le_refl _) _
  have h0 := h.below hb0
  clear h
  go_enter Try.func123, Try.ntmps123
  go_wp2_with fail
  generalize w.alloc (Obj.cells #[] 82) = w1 at hb0 h0 ⊢
  have H1 := Lib.hid (h0.below (Below.refl _ _).drew)
  have HB1 := Lib.hid hb0.drew
  obtain ⟨g0, g1, g2, g3, g4, gf⟩ := h0.gate.cells
  clear h0 hb0
  go_still_tail 8, (by kernel_rfl)
  change wpList _ _ _ _ _ w1.drew
  generalize w1.drew = w2 at H1 HB1
  have hm2 := H1.out.gate.hmap
  rw [H1.out.ents] at hm2
  have hdel := delete_notes w2 gs.map gs.clock m.under 0 H1.out.keys hm2
  have hM := H1.out.gate.lt (b := gs.map) (.inr (.inr (.inl rfl)))
  clear hm2 g0 g1 g2 g3 g4 gf
  go_wp2_with fail
  go_end0
  have hg := grownBy_putObj' w2 gs.map (.map ((ns.filter (fun x => x.k != m.under)).map NoteC.entry).toArray gs.clock)
  have hmp : (World.putObj w2 gs.map (.map ((ns.filter (fun x => x.k != m.under)).map NoteC.entry).toArray gs.clock)).heap[gs.map]? = some (.map ((ns.filter (fun x => x.k != m.under)).map NoteC.entry).toArray gs.clock) := by
    simp only [World.putObj, Array.getElem?_setIfInBounds, if_true]
    rw [if_pos hM]
  refine ⟨rfl, H1.out.sub List.filter_sublist hmp (fun b hne hl => hg.block b hl (fun e => by injection e with e; exact hne e)), ((Only.of_below HB1.out).grown hg (fun q hq _ => by injection hq with hq; exact hq.symm))⟩
end walks
end Go.Proofs.Ytdnkfgnjeibjeaa.W

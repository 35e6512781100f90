import Derived.Test.YtdnkfgnjeibjeaaJ2
namespace Go.Proofs.Ytdnkfgnjeibjeaa.W
open Go.RowKit Go.Shelf

/-- The map turns. -/
theorem GateAt.setMap {w w' : World} {D : Nat → Prop} {gs : GS} {m : Gm} (h : GateAt w D gs m) (es : Array MapEntry) (c : Nat) (hm : w'.heap[gs.map]? = some (.map es c)) (ho : ∀ b, b ≠ gs.map → b < w.heap.size → w'.heap[b]? = w.heap[b]?) : GateAt w' D { gs with ents := es, clock := c } m := by
  have hl : ∀ {b : Nat} {cs : Array Value} {t : TypeId} {f : Nat × Nat}, w.heap[b]? = some (.cells cs t f) → w'.heap[b]? = w.heap[b]? := fun hb => ho _ (ne_of_map hb h.hmap) (heap_lt hb)
  obtain ⟨cs, hc, hcs⟩ := h.harr
  refine ⟨h.pos, h.le, (hl h.hG).trans h.hG, ⟨cs, (hl hc).trans hc, hcs⟩, fun i hi => (hl (h.hib i hi)).trans (h.hib i hi), h.inj, fun i hi => (h.hq i hi).keep fun g hg => ?_, h.qinj, fun i hi p hp => (h.hrow i hi p hp).keep fun b hb hlt => ho b (fun e => h.hD b hb (e ▸ .inr (.inr (.inl rfl)))) hlt, h.hD, hm⟩
  obtain ⟨cur, hcur⟩ := h.qb_cells hi hg
  exact hl hcur

section walks
set_option maxHeartbeats 1000000
set_option maxRecDepth 100000

theorem f120_any (w : World) {D : Nat → Prop} (gs : GS) (m : Gm) (h : GateAt w D gs m) (k : Int) (i : Nat) {l : List (Int × Value)} (he : Ents gs.ents.toList l) (hk : keyAt l k 0 = none) :
    Calls Try.prog 120 #[.agg #[], .pointer (some ⟨gs.G, 0, none⟩), .int .i64 k, .int .i64 i] w fun e w' => ∃ v blk, e = .returned v ∧ SlOwn w' 44 6 v 1 ([(i, bar k)].flatMap ocl) blk ∧ (∀ g, blk = some g → w.heap.size + 1 < g) ∧
      GateAt w' D { gs with ents := gs.ents.push { key := .int .i64 k, val := .pointer (some ⟨w.heap.size + 1, 0, none⟩), born := gs.clock }, clock := gs.clock + 1 } m ∧ w'.heap[w.heap.size + 1]? = some (.cells #[.slice none 0 0, .bool false] 100 (0, 0)) ∧ Only (fun b => b = gs.map) w w' := by
  obtain ⟨g0, g1, g2, g3, g4, gf⟩ := h.cells
  have hG := h.lt (own_G gs m.n)
  have hM := h.lt (b := gs.map) (.inr (.inr (.inl rfl)))
  have hmap := h.hmap
  have HM := Lib.hid hmap
  have H := Lib.hid h
  have hst := fun (W : World) (hW : Below w.heap.size w W) (v : Value) => store_ents W gs.map gs.clock k v he ((hW.block _ hM).trans hmap) hk
  have hs1 := hst ((w.alloc (Obj.cells #[] 82)).alloc (Obj.cells #[.slice none 0 0, .bool false] 100)) (((Below.refl _ _).alloc (Nat.le_refl _) _).alloc (by simp) _) (.pointer (some ⟨w.heap.size + 1, 0, none⟩))
  clear h hmap hst
  go_enter Try.func120, Try.ntmps120
  have hP := grownBy_putObj' ((w.alloc (Obj.cells #[] 82)).alloc (Obj.cells #[.slice none 0 0, .bool false] 100)) gs.map (.map (gs.ents.push { key := .int .i64 k, val := .pointer (some ⟨w.heap.size + 1, 0, none⟩), born := gs.clock }) (gs.clock + 1))
  have HP := Lib.hid hP
  clear hP
  go_wp2_with (go_at_call 124; refine (f124_any _ _).mono ?_; rintro e w1 ⟨rfl, hb1⟩)
  have hW2 : Below w.heap.size w ((w.alloc (Obj.cells #[] 82)).alloc (Obj.cells #[.slice none 0 0, .bool false] 100)) := ((Below.refl _ _).alloc (Nat.le_refl _) _).alloc (by simp) _
  have hz2 : ((w.alloc (Obj.cells #[] 82)).alloc (Obj.cells #[.slice none 0 0, .bool false] 100)).heap.size = w.heap.size + 2 := by simp
  have hb0 := World.alloc_heap_new (w.alloc (Obj.cells #[] 82)) (Obj.cells #[.slice none 0 0, .bool false] 100)
  rw [World.size_alloc] at hb0
  have hW3 := HP.out
  have hz3 := hW3.size
  have hmp : (World.putObj ((w.alloc (Obj.cells #[] 82)).alloc (Obj.cells #[.slice none 0 0, .bool false] 100)) gs.map (.map (gs.ents.push { key := .int .i64 k, val := .pointer (some ⟨w.heap.size + 1, 0, none⟩), born := gs.clock }) (gs.clock + 1))).heap[gs.map]? = some (.map (gs.ents.push { key := .int .i64 k, val := .pointer (some ⟨w.heap.size + 1, 0, none⟩), born := gs.clock }) (gs.clock + 1)) := by
    simp only [World.putObj, Array.getElem?_setIfInBounds, if_true]
    rw [if_pos (by omega)]
  generalize World.putObj ((w.alloc (Obj.cells #[] 82)).alloc (Obj.cells #[.slice none 0 0, .bool false] 100)) gs.map (.map (gs.ents.push { key := .int .i64 k, val := .pointer (some ⟨w.heap.size + 1, 0, none⟩), born := gs.clock }) (gs.clock + 1)) = W3 at hb1 hW3 hz3 hmp
  have ho3 : ∀ b, b ≠ gs.map → b < w.heap.size → W3.heap[b]? = w.heap[b]? := fun b hne hlt => (hW3.block b (by omega) (fun e => by injection e with e; exact hne e)).trans (hW2.block b hlt)
  have hg3 := H.out.setMap _ _ hmp ho3
  have hb4 : Below W3.heap.size W3 (w1.alloc (Obj.cells #[.int .i64 i, .int .i64 3, .int .i64 k, .int .i64 0, .slice none 0 0, .int .i64 0] 44)) := hb1.alloc hb1.size _
  go_ret
  refine ⟨_, some w1.heap.size, rfl, ⟨rfl, .inr ⟨_, 0, 1, _, rfl, rfl, World.alloc_heap_new _ _, Nat.le_refl _, by simp [maxLen], by simp, rfl⟩⟩, fun g hg => ?_, hg3.below hb4, ?_, ?_⟩
  · injection hg with hg
    have := hb1.size
    omega
  · refine (hb4.block _ (by omega)).trans ((hW3.block _ (by omega) (fun e => by injection e with e; omega)).trans hb0)
  · exact ((Only.of_below hW2).grown hW3 (fun q hq _ => by injection hq with hq; exact hq.symm)).trans (Only.of_below (S := fun _ => False) hb4) (fun _ _ h => h.elim)
end walks
end Go.Proofs.Ytdnkfgnjeibjeaa.W

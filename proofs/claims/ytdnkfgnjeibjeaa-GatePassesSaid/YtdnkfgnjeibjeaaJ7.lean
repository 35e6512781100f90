import Derived.Test.YtdnkfgnjeibjeaaJ6
import Derived.Maps.RangeWalk
namespace Go.Proofs.Ytdnkfgnjeibjeaa.W
open Go.RowKit Go.Shelf

/-- A range over the notes, under way. -/
structure Rng (w1 wr : World) (mp r clock : Nat) (ns' : List NoteC) (seen : Array Nat) (c0 : Nat) : Prop where
  hm : wr.heap[mp]? = some (.map (ns'.map NoteC.entry).toArray clock)
  hr : wr.heap[r]? = some (.mapIter (some mp) clock seen c0)
  le : clock ≤ c0
  only : Only (fun b => b = mp ∨ b = r) w1 wr

theorem apart_eq {ns : List NoteC} (hp : ns.Pairwise fun x y => x.k ≠ y.k ∧ x.born ≠ y.born ∧ ∀ b, x.own b → ¬ y.own b) {x y : NoteC} (hx : x ∈ ns) (hy : y ∈ ns) (h : x.k = y.k ∨ x.born = y.born) : x = y := by
  induction ns with
  | nil => cases hx
  | cons z ns ih =>
    obtain ⟨h1, h2⟩ := List.pairwise_cons.1 hp
    rcases List.mem_cons.1 hx with rfl | hx' <;> rcases List.mem_cons.1 hy with rfl | hy'
    · rfl
    · have := h1 y hy'
      rcases h with h | h
      · exact absurd h this.1
      · exact absurd h this.2.1
    · have := h1 x hx'
      rcases h with h | h
      · exact absurd h.symm this.1
      · exact absurd h.symm this.2.1
    · exact ih h2 hx' hy'

theorem born_nodup {ns : List NoteC} (hp : ns.Pairwise fun x y => x.k ≠ y.k ∧ x.born ≠ y.born ∧ ∀ b, x.own b → ¬ y.own b) : ((ns.map NoteC.entry).toArray.toList.map (·.born)).Nodup := by
  simp only [List.map_map]
  unfold List.Nodup
  rw [List.pairwise_map]
  exact hp.imp fun h => h.2.1

def leftNs (ns : List NoteC) (k : Int) (seen : Array Nat) : List NoteC := ns.filter fun y => y.k == k || !seen.contains y.born

theorem leftNs_drop {ns : List NoteC} (hp : ns.Pairwise fun x y => x.k ≠ y.k ∧ x.born ≠ y.born ∧ ∀ b, x.own b → ¬ y.own b) {k : Int} {seen : Array Nat} {y : NoteC} (hy : y ∈ ns) (hk : y.k ≠ k) : (leftNs ns k seen).filter (fun x => x.k != y.k) = leftNs ns k (seen.push y.born) := by
  unfold leftNs
  rw [List.filter_filter]
  refine List.filter_congr fun z hz => ?_
  by_cases e : z.k = y.k
  · have := apart_eq hp hz hy (.inl e)
    subst this
    simp [hk]
  · have hb : z.born ≠ y.born := fun e' => e (congrArg NoteC.k (apart_eq hp hz hy (.inr e')))
    have h1 : (z.k != y.k) = true := by simpa using e
    rw [h1, Bool.true_and]
    simp [Array.mem_push, hb]

theorem leftNs_keep {ns : List NoteC} (hp : ns.Pairwise fun x y => x.k ≠ y.k ∧ x.born ≠ y.born ∧ ∀ b, x.own b → ¬ y.own b) {k : Int} {seen : Array Nat} {y : NoteC} (hy : y ∈ ns) (hk : y.k = k) : leftNs ns k seen = leftNs ns k (seen.push y.born) := by
  unfold leftNs
  refine List.filter_congr fun z hz => ?_
  by_cases e : z.k = k
  · simp [e]
  · have hb : z.born ≠ y.born := fun e' => e ((congrArg NoteC.k (apart_eq hp hz hy (.inr e'))).trans hk)
    simp [Array.mem_push, hb]

theorem leftNs_end {ns : List NoteC} {k : Int} {seen : Array Nat} (h : ∀ y ∈ leftNs ns k seen, seen.contains y.born = true) : leftNs ns k seen = ns.filter (fun y => y.k == k) := by
  refine List.filter_congr fun z hz => ?_
  cases hk : z.k == k with
  | true => simp
  | false =>
    cases hs : seen.contains z.born with
    | true => rfl
    | false =>
      have := h z (List.mem_filter.2 ⟨hz, by rw [hk, hs]; rfl⟩)
      rw [hs] at this; cases this

/-- The step of the range. -/
theorem Rng.next {w1 wr : World} {mp r clock : Nat} {ns' : List NoteC} {seen : Array Nat} {c0 : Nat} (h : Rng w1 wr mp r clock ns' seen c0) (hst : ∀ x ∈ ns', x.born < clock)
    (hp : ns'.Pairwise fun x y => x.k ≠ y.k ∧ x.born ≠ y.born ∧ ∀ b, x.own b → ¬ y.own b) (ty : TypeId) :
    ((∀ y ∈ ns', seen.contains y.born = true) ∧ (Instr.next (.pointer (some ⟨r, 0, none⟩)) false ty).run Try.prog wr = .ok (.tuple #[.bool false]) wr) ∨
    ∃ y ∈ ns', seen.contains y.born = false ∧ ∃ w2, (Instr.next (.pointer (some ⟨r, 0, none⟩)) false ty).run Try.prog wr = .ok (.tuple #[.bool true, .int .i64 y.k, .pointer (some ⟨y.nb, 0, none⟩)]) w2 ∧ Rng w1 w2 mp r clock ns' (seen.push y.born) clock ∧ w2.rangeLeft mp r < wr.rangeLeft mp r ∧
      (Instr.entry (.pointer (some ⟨r, 0, none⟩))).run Try.prog w2 = .ok (.tuple #[.int .i64 y.k, .pointer (some ⟨y.nb, 0, none⟩)]) w2 ∧ Only (fun b => b = r) wr w2 := by
  have hold : ∀ x ∈ (ns'.map NoteC.entry).toArray.toList, x.born < clock := fun x hx => by
    obtain ⟨y, hy, rfl⟩ := List.mem_map.1 hx
    exact hst y hy
  have hne : mp ≠ r := fun e => by have h1 := h.hm; rw [e, h.hr] at h1; cases h1
  rcases run_next_at (P := Try.prog) wr ty r mp clock c0 seen _ clock h.hr h.hm hold h.le with ⟨h0, hrun⟩ | ⟨e, he, w2, hal, hrun⟩
  · refine .inl ⟨fun y hy => ?_, hrun⟩
    exact all_seen _ seen h0 y.entry (List.mem_map.2 ⟨y, hy, rfl⟩)
  · obtain ⟨hem, hes⟩ := mem_left he
    obtain ⟨y, hy, rfl⟩ := List.mem_map.1 hem
    have hr2 : w2.heap[r]? = some (.mapIter (some mp) clock seen c0) := by rcases hal with rfl | rfl <;> exact h.hr
    have hm2 : w2.heap[mp]? = some (.map (ns'.map NoteC.entry).toArray clock) := by rcases hal with rfl | rfl <;> exact h.hm
    have hlt := heap_lt hr2
    have hset : (ChangeMaps.setBlock w2 r (.mapIter (some mp) clock (seen.push y.entry.born) clock)).heap[r]? = some (.mapIter (some mp) clock (seen.push y.entry.born) clock) := by
      simp only [ChangeMaps.setBlock, Array.getElem?_setIfInBounds, if_true]
      rw [if_pos hlt]
    have hset2 : ∀ b, b ≠ r → (ChangeMaps.setBlock w2 r (.mapIter (some mp) clock (seen.push y.entry.born) clock)).heap[b]? = w2.heap[b]? := fun b hb => by
      simp only [ChangeMaps.setBlock, Array.getElem?_setIfInBounds]
      rw [if_neg (fun e => hb e.symm)]
    have hon : Only (fun b => b = r) wr (ChangeMaps.setBlock w2 r (.mapIter (some mp) clock (seen.push y.entry.born) clock)) := by
      rcases hal with rfl | rfl
      · exact ⟨rfl, rfl, rfl, by simp [ChangeMaps.setBlock], fun b hb hn => hset2 b hn⟩
      · exact ⟨rfl, rfl, rfl, by simp [ChangeMaps.setBlock], fun b hb hn => hset2 b hn⟩
    have hmm := (hset2 mp hne).trans hm2
    refine .inr ⟨y, hy, hes, _, hrun, ⟨hmm, hset, Nat.le_refl _, h.only.trans hon (fun x _ hx => .inr hx)⟩, ?_, run_entry_at _ r mp clock seen _ clock y.entry hset hmm hem (born_nodup hp), hon⟩
    unfold World.rangeLeft
    rw [hmm, hset, h.hm, h.hr]
    exact left_shrinks _ seen _ he

theorem only_cell {S : Nat → Prop} {w w' : World} (h : Only S w w') (b o : Nat) (hb : b < w.heap.size) (hn : ¬ S b) : w'.cell? ⟨b, o, none⟩ = w.cell? ⟨b, o, none⟩ := World.cell?_of_block (a := ⟨b, o, none⟩) (h.block b hb hn)

/-- Notes go while the range is under way. -/
theorem Rng.drop {w1 w2 : World} {mp r clock : Nat} {ns' ns2 : List NoteC} {seen : Array Nat} {c0 : Nat} (h : Rng w1 w2 mp r clock ns' seen c0) (hs : ns2.Sublist ns') :
    Rng w1 (w2.putObj mp (.map (ns2.map NoteC.entry).toArray clock)) mp r clock ns2 seen c0 ∧ (w2.putObj mp (.map (ns2.map NoteC.entry).toArray clock)).rangeLeft mp r ≤ w2.rangeLeft mp r := by
  have hne : mp ≠ r := fun e => by have h1 := h.hm; rw [e, h.hr] at h1; cases h1
  have hlt := heap_lt h.hm
  have hmm : (w2.putObj mp (.map (ns2.map NoteC.entry).toArray clock)).heap[mp]? = some (.map (ns2.map NoteC.entry).toArray clock) := by
    simp only [World.putObj, Array.getElem?_setIfInBounds, if_true]
    rw [if_pos hlt]
  have ho : ∀ b, b ≠ mp → (w2.putObj mp (.map (ns2.map NoteC.entry).toArray clock)).heap[b]? = w2.heap[b]? := fun b hb => by
    simp only [World.putObj, Array.getElem?_setIfInBounds]
    rw [if_neg (fun e => hb e.symm)]
  have hrr := (ho r (Ne.symm hne)).trans h.hr
  refine ⟨⟨hmm, hrr, h.le, h.only.trans (S' := fun b => b = mp) ⟨rfl, rfl, rfl, by simp [World.putObj], fun b _ hb => ho b hb⟩ (fun x _ hx => .inl hx)⟩, ?_⟩
  unfold World.rangeLeft
  rw [hmm, hrr, h.hm, h.hr]
  unfold leftOf
  have e1 : ∀ l : List MapEntry, (Array.filter (fun e => !seen.contains e.born) l.toArray).size = (l.filter (fun e => !seen.contains e.born)).length := fun l => by rw [← Array.length_toList, Array.toList_filter]
  dsimp only
  rw [e1, e1]
  exact ((hs.map _).filter _).length_le

theorem filter_one {ns : List NoteC} (hp : ns.Pairwise fun x y => x.k ≠ y.k ∧ x.born ≠ y.born ∧ ∀ b, x.own b → ¬ y.own b) {x : NoteC} (hx : x ∈ ns) : ns.filter (fun y => y.k == x.k) = [x] := by
  induction ns with
  | nil => cases hx
  | cons z ns ih =>
    obtain ⟨h1, h2⟩ := List.pairwise_cons.1 hp
    rcases List.mem_cons.1 hx with rfl | hx'
    · rw [List.filter_cons, if_pos (by simp)]
      congr 1
      refine List.filter_eq_nil_iff.2 fun y hy => ?_
      have := (h1 y hy).1
      simpa using fun e => this e.symm
    · have := (h1 x hx').1
      rw [List.filter_cons, if_neg (by simpa using this)]
      exact ih h2 hx'

/-- A note turns. -/
theorem FreeAt.renote {w w' : World} {D : Nat → Prop} {gs : GS} {m : Gm} {ns : List NoteC} (h : FreeAt w D gs m ns) {x : NoteC} (hx : x ∈ ns) (x' : NoteC) (hk : x'.k = x.k) (hnb : x'.nb = x.nb) (hbo : x'.born = x.born) (hat : NoteAt w' D x')
    (hblk : x'.blk = x.blk ∨ ∃ g, x'.blk = some g ∧ w.heap.size ≤ g) (hD : ∀ b, D b → b < w.heap.size) (ho : Only x.own w w') : FreeAt w' D gs m (ns.map fun y => if y.k = x.k then x' else y) := by
  have hown : ∀ b, x'.own b → x.own b ∨ w.heap.size ≤ b := fun b hb => by
    rcases hb with hb | hb
    · exact .inl (.inl (hb.trans hnb))
    · rcases hblk with e | ⟨g, e, hg⟩
      · exact .inl (.inr (e ▸ hb))
      · rw [hb] at e; injection e with e; exact .inr (e ▸ hg)
  have hxe : ∀ y ∈ ns, y.k = x.k → y = x := fun y hy e => apart_eq h.apart hy hx (.inl e)
  have hapx : ∀ y ∈ ns, y.k ≠ x.k → ∀ b, y.own b → ¬ x.own b := fun y hy e b hb hb' => by
    have hs := h.apart
    have key : ∀ {l : List NoteC}, (l.Pairwise fun x y => x.k ≠ y.k ∧ x.born ≠ y.born ∧ ∀ b, x.own b → ¬ y.own b) → y ∈ l → x ∈ l → False := by
      intro l
      induction l with
      | nil => intro _ h _; cases h
      | cons z l ih =>
        intro hp h1 h2
        obtain ⟨p1, p2⟩ := List.pairwise_cons.1 hp
        rcases List.mem_cons.1 h1 with rfl | h1' <;> rcases List.mem_cons.1 h2 with rfl | h2'
        · exact e rfl
        · exact (p1 x h2').2.2 b hb hb'
        · exact (p1 y h1').2.2 b hb' hb
        · exact ih p2 h1' h2'
    exact key hs hy hx
  refine ⟨h.gate.hold' fun b hl hb => ho.block b hl fun hh => ?_, h.al, h.emp, ?_, fun y hy => ?_, fun y hy => ?_, ?_, fun b hb y hy hh => ?_⟩
  · rcases hb with hb | hb
    · exact h.own_ne hb hx hh
    · exact h.hDn b hb x hx hh
  · rw [h.ents, List.map_map]
    congr 1
    refine List.map_congr_left fun y hy => ?_
    simp only [Function.comp]
    split
    · rename_i e
      rw [hxe y hy e]
      simp only [NoteC.entry, hk, hnb, hbo]
    · rfl
  · obtain ⟨z, hz, rfl⟩ := List.mem_map.1 hy
    split
    · rw [hbo]; exact h.stamp x hx
    · exact h.stamp z hz
  · obtain ⟨z, hz, rfl⟩ := List.mem_map.1 hy
    split
    · exact hat
    · rename_i e
      refine (h.notes z hz).keep fun b hl hb => ho.block b hl fun hh => ?_
      rcases hb with hb | hb
      · exact hapx z hz e b hb hh
      · exact h.hDn b hb x hx hh
  · rw [List.pairwise_map]
    refine h.apart.imp_of_mem fun {a c} ha hc hac => ?_
    by_cases ea : a.k = x.k
    · have := hxe a ha ea; subst this
      have ec : ¬ c.k = a.k := fun e => hac.1 e.symm
      rw [if_pos rfl, if_neg ec]
      refine ⟨by rw [hk]; exact hac.1, by rw [hbo]; exact hac.2.1, fun b hb hb' => ?_⟩
      rcases hown b hb with hb | hb
      · exact hac.2.2 b hb hb'
      · have := (h.notes c hc).lt hb'; omega
    · rw [if_neg ea]
      by_cases ec : c.k = x.k
      · have := hxe c hc ec; subst this
        rw [if_pos rfl]
        refine ⟨by rw [hk]; exact hac.1, by rw [hbo]; exact hac.2.1, fun b hb hb' => ?_⟩
        rcases hown b hb' with hb' | hb'
        · exact hac.2.2 b hb hb'
        · have := (h.notes a ha).lt hb; omega
      · rw [if_neg ec]; exact hac
  · obtain ⟨z, hz, rfl⟩ := List.mem_map.1 hy
    split at hh
    · rcases hown b hh with hh | hh
      · exact h.hDn b hb x hx hh
      · have := hD b hb; omega
    · exact h.hDn b hb z hz hh

section walks
set_option maxHeartbeats 1000000
set_option maxRecDepth 100000

/-- All inputs have sent the barrier: its notes are complete, the others go. -/
theorem f122_any (w : World) {D : Nat → Prop} (gs : GS) (m : Gm) (ns : List NoteC) (h : FreeAt w D gs m ns) (hD : ∀ b, D b → b < w.heap.size) (x : NoteC) (hx : x ∈ ns) (i : Nat) :
    Calls Try.prog 122 #[.agg #[], .pointer (some ⟨gs.G, 0, none⟩), .int .i64 x.k, .int .i64 i] w fun e w' => e = .returned (.slice none 0 0) ∧
      FreeAt w' D { gs with ents := #[{ x with whole := true }.entry] } m [{ x with whole := true }] ∧ Only (fun b => b = gs.map ∨ b = x.nb) w w' := by
  have hb0 : Below w.heap.size w (w.alloc (Obj.cells #[] 82)) := (Below.refl _ _).alloc (Nat.le_refl _) _
  have h0 := h.below hb0
  have hm := h0.gate.hmap
  rw [h0.ents] at hm
  have hsz : (w.alloc (Obj.cells #[] 82)).heap.size = w.heap.size + 1 := by simp
  have hrg := run_range_map (P := Try.prog) _ 83 3 93 gs.map _ gs.clock Try.underlying83 hm
  rw [hsz] at hrg
  obtain ⟨g0, g1, g2, g3, g4, gf⟩ := h0.gate.cells
  have hG := h0.gate.lt (own_G gs m.n)
  have hM := h0.gate.lt (b := gs.map) (.inr (.inr (.inl rfl)))
  have hGm := h0.gate.G_ne_map
  have H0 := Lib.hid h0
  have HB0 := Lib.hid hb0
  have HX := Lib.hid hx
  have HD := Lib.hid hD
  clear hD
  have hR0 : Rng ((w.alloc (Obj.cells #[] 82)).alloc (.mapIter (some gs.map) gs.clock #[] gs.clock)) ((w.alloc (Obj.cells #[] 82)).alloc (.mapIter (some gs.map) gs.clock #[] gs.clock)) gs.map (w.heap.size + 1) gs.clock (leftNs ns x.k #[]) #[] gs.clock := by
    have e : leftNs ns x.k #[] = ns := List.filter_eq_self.2 fun y _ => by simp
    rw [e]
    refine ⟨(Below.heap_alloc _ _ _ hM).trans hm, ?_, Nat.le_refl _, Only.refl _ _⟩
    have := World.alloc_heap_new (w.alloc (Obj.cells #[] 82)) (.mapIter (some gs.map) gs.clock #[] gs.clock)
    rw [hsz] at this
    exact this
  have HR0 := Lib.hid hR0
  have HG := Lib.hid hG
  have HM := Lib.hid hM
  have HGM := Lib.hid hGm
  have HSZ := Lib.hid hsz
  clear h h0 hb0 hx hm hR0 hG hM hGm hsz
  go_enter Try.func122, Try.ntmps122
  go_wp2_with fail
  generalize hW1 : w.alloc (Obj.cells #[] 82) = W1 at *
  go_loopw [9] (fun _ wr => ∃ seen c0, Rng (W1.alloc (.mapIter (some gs.map) gs.clock #[] gs.clock)) wr gs.map (w.heap.size + 1) gs.clock (leftNs ns x.k seen) seen c0) (fun _ wr => wr.rangeLeft gs.map (w.heap.size + 1))
  case atStart => exact ⟨#[], gs.clock, HR0.out⟩
  case round =>
    obtain ⟨seen, c0, hR⟩ := hrel
    have hcell : ∀ W, Only (fun b => b = gs.map ∨ b = w.heap.size + 1) (W1.alloc (.mapIter (some gs.map) gs.clock #[] gs.clock)) W → ∀ o, W.cell? ⟨gs.G, o, none⟩ = W1.cell? ⟨gs.G, o, none⟩ := fun W hW o => by
      have hl := HG.out
      have hz := HSZ.out
      refine (only_cell hW gs.G o (by rw [World.size_alloc]; omega) ?_).trans (World.cell?_of_block (a := ⟨gs.G, o, none⟩) (Below.heap_alloc _ _ _ hl))
      rintro (e | e)
      · exact HGM.out e
      · omega
    have hsub : ∀ y ∈ leftNs ns x.k seen, y ∈ ns := fun y hy => (List.mem_filter.1 hy).1
    have HCL := Lib.hid hcell
    have HSUB := Lib.hid hsub
    have HR := Lib.hid hR
    clear hcell hsub
    rcases hR.next (fun y hy => H0.out.stamp y (HSUB.out y hy)) (H0.out.apart.sublist List.filter_sublist) 0 with ⟨hall, hrun⟩ | ⟨y, hy, hys, w2, hrun, hR2, hlt, hen, hon⟩
    · have HA := Lib.hid hall
      have q0 := (HCL.out _ HR.out.only 4).trans g4
      have hone := (leftNs_end HA.out).trans (filter_one H0.out.apart HX.out)
      have hm1 := hR.hm
      rw [hone] at hm1
      have hlk := lookup_ents wr gs.map gs.clock x.k (l := [(x.k, .pointer (some ⟨x.nb, 0, none⟩))]) (by rfl) hm1
      simp only [valAt, keyAt, if_true, Option.map_some, Option.getD_some] at hlk
      have hz := HSZ.out
      have hon2 : Only (fun b => b = gs.map) W1 wr := ⟨hR.only.os, hR.only.tape, hR.only.output, Nat.le_trans (by simp) hR.only.size, fun b hb hn => (hR.only.block b (by rw [World.size_alloc]; omega) (by rintro (e | e); exact hn e; omega)).trans (Below.heap_alloc _ _ _ hb)⟩
      have hF1 := H0.out.sub (w' := wr) (ns' := [x]) (by rw [← filter_one H0.out.apart HX.out]; exact List.filter_sublist) hm1 (fun b hb hl => hon2.block b hl hb)
      have hbx := (hF1.notes x (List.mem_singleton.2 rfl)).box
      obtain ⟨b0, b1, bf⟩ := blk2 hbx
      have hnl := heap_lt hbx
      have HF1 := Lib.hid hF1
      have HON := Lib.hid hon2
      clear hall hR hm1 hone hon2 hF1 hbx hz
      go_wp2_with fail
      go_ret
      have hbw := HB0.out
      have hnw : x.nb < w.heap.size ∨ w.heap.size ≤ x.nb := Nat.lt_or_ge _ _
      have hsz2 : w.heap.size ≤ wr.heap.size := Nat.le_trans hbw.size HON.out.size
      refine ⟨rfl, ?_, ?_⟩
      · have hold := HF1.out.notes x (List.mem_singleton.2 rfl)
        have hh := heap_set (j := 1) hold.box (.bool true)
        have hne : x.blk ≠ some x.nb := fun e => by
          have := hold.own
          rw [e] at this
          rcases this.2 with ⟨_, _, hn⟩ | ⟨g', o, cap, cur, hb', _, hc, _⟩
          · cases hn
          · injection hb' with hb'; subst hb'; exact ne_of_cells hc hold.box (by decide) rfl
        have hres := HF1.out.renote (w' := wr.setCell ⟨x.nb, 1, none⟩ (.bool true)) (List.mem_singleton.2 rfl) { x with whole := true } rfl rfl rfl
          ⟨by simpa using hh, hold.own.keep fun g hg => heap_set_ne _ (fun e => hne (e ▸ hg)), fun o ho => (hold.rows o ho).keep fun b hb _ => heap_set_ne _ (fun e => HF1.out.hDn b hb x (List.mem_singleton.2 rfl) (.inl e))⟩
          (.inl rfl) (fun b hb => Nat.lt_of_lt_of_le (HD.out b hb) hsz2) ((Only.refl _ _).setCell (fun _ => .inl rfl) _)
        simp only [List.map_cons, List.map_nil, if_true] at hres
        exact hres
      · exact ((Only.of_below hbw).trans HON.out (fun z _ hz => .inl hz)).setCell (fun _ => .inr rfl) _
    · have HY := Lib.hid hy
      have HLT := Lib.hid hlt
      have HR2 := Lib.hid hR2
      have q4 := (HCL.out _ hR2.only 4).trans g4
      have hM2 : gs.map < w2.heap.size := heap_lt hR2.hm
      clear hy hys hlt hR
      by_cases hk : y.k = x.k
      · rw [hk] at hrun hen
        clear hR2
        go_wp2_with fail
        go_roundw
        case rel => exact ⟨_, _, by rw [← leftNs_keep H0.out.apart (HSUB.out y HY.out) hk]; exact HR2.out⟩
        case measure => exact HLT.out
      · have hk2 : (y.k != x.k) = true := by simpa using hk
        have hdel := delete_notes w2 gs.map gs.clock y.k 0 (ns := leftNs ns x.k seen) ((H0.out.apart.sublist List.filter_sublist).imp fun h => h.1) hR2.hm
        clear hR2
        go_wp2_with fail
        have hd := HR2.out.drop (ns2 := (leftNs ns x.k seen).filter (fun z => z.k != y.k)) List.filter_sublist
        have HDD := Lib.hid hd
        clear hd
        go_roundw
        case rel => exact ⟨_, _, by rw [← leftNs_drop H0.out.apart (HSUB.out y HY.out) hk]; exact HDD.out.1⟩
        case measure => exact Nat.lt_of_le_of_lt HDD.out.2 HLT.out
end walks
end Go.Proofs.Ytdnkfgnjeibjeaa.W

import Derived.Test.YtdnkfgnjeibjeaaKA
namespace Go.Proofs.Ytdnkfgnjeibjeaa.W
open Go.RowKit Go.Shelf

theorem outs57_at {w : World} {v : Value} {outs : List OV} {blk : Option Nat} (h : SlOwn w 57 6 v outs.length (outs.flatMap ocl) blk) {j : Nat} (hj : j < outs.length) :
    ∃ g o cap, v = .slice (some ⟨g, o, none⟩) outs.length cap ∧ blk = some g ∧ w.cell? ⟨g, o + j * 6, none⟩ = some (.int .i64 outs[j].1) ∧ w.cell? ⟨g, o + j * 6 + 1, none⟩ = some (.int .i64 outs[j].2.1.k) ∧ w.cell? ⟨g, o + j * 6 + 1 + 1, none⟩ = some (.int .i64 outs[j].2.1.n) ∧
      w.cell? ⟨g, o + j * 6 + 1 + 2, none⟩ = some (.int .i64 outs[j].2.1.t) ∧ w.cell? ⟨g, o + j * 6 + 1 + 3, none⟩ = some outs[j].2.2 ∧ w.cell? ⟨g, o + j * 6 + 1 + 4, none⟩ = some (.int .i64 outs[j].2.1.c) := by
  rcases h.2 with ⟨_, h0, _⟩ | ⟨g, o, cap, cur, hb, hv, _⟩
  · omega
  · subst hv
    have hc := fun r (hr : r < 6) u (hu : (ocl outs[j])[r]? = some u) => h.cell (j * 6 + r) u ((flat_at ocl_len outs j r hj hr).trans hu)
    exact ⟨g, o, cap, rfl, hb, hc 0 (by omega) _ rfl, hc 1 (by omega) _ rfl, hc 2 (by omega) _ rfl, hc 3 (by omega) _ rfl, hc 4 (by omega) _ rfl, hc 5 (by omega) _ rfl⟩

/-- What the law lays down as it looks at what passed. -/
structure N6 (w4 wr : World) (n B : Nat) (us : Nat → Value) (ev : Nat → List EV) (qb : Nat → Option Nat) (bv : Value) (bl : List Int) (bblk : Option Nat) : Prop where
  got : LA wr n B 0 n us ev qb (fun b => b < w4.heap.size)
  bar : SlOwn wr 3 1 bv bl.length (bl.map (Value.int .i64)) bblk
  new : ∀ b, lown n B qb b → w4.heap.size ≤ b
  nb : ∀ g, bblk = some g → w4.heap.size ≤ g ∧ ¬ lown n B qb g
  bl : Below w4.heap.size w4 wr

section
variable {w4 wr w1 w3 w' : World} {n B i : Nat} {us : Nat → Value} {ev : Nat → List EV} {qb : Nat → Option Nat} {bv : Value} {bl : List Int} {bblk : Option Nat}

theorem N6.next (h : N6 w4 wr n B us ev qb bv bl bblk) (hb : Below wr.heap.size wr w') : N6 w4 w' n B us ev qb bv bl bblk :=
  ⟨h.got.below hb, h.bar.keep fun g hg => hb.block g (h.bar.lt_of hg), h.new, h.nb, h.bl.trans (hb.mono h.bl.size)⟩

theorem N6.start (w4 : World) (n : Nat) (hn : n ≤ 1000000) : N6 w4 (w4.alloc (.cells (madeCells #[.slice none 0 0] n) 49)) n w4.heap.size (fun _ => .slice none 0 0) (fun _ => []) (fun _ => none) (.slice none 0 0) [] none :=
  ⟨LA.make w4 n hn, SlOwn.nil _ _ _, fun b hb => hb.elim (fun e => Nat.le_of_eq e.symm) (fun ⟨i, _, hb⟩ => (by cases hb)), fun g hg => (by cases hg), (Below.refl _ _).alloc (Nat.le_refl _) _⟩

theorem N6.push {p : EV} {v' : Value} {blk' : Option Nat} (h : N6 w4 wr n B us ev qb bv bl bblk) (hi : i < n) (hp : RowAt wr (fun b => b < w4.heap.size) p.2 p.1.row)
    (hb1 : Below wr.heap.size wr w1) (hs : SlOwn w3 34 5 v' ((ev i).length + 1) ((ev i).flatMap ecl ++ ecl p) blk') (hg : w1.grownBy w3 (qb i)) (hat : blk' = qb i ∨ blk' = some w1.heap.size) :
    N6 w4 (w3.setCell ⟨B, 0 + i, none⟩ v') n B (fun j => if j = i then v' else us j) (fun j => if j = i then ev i ++ [p] else ev j) (fun j => if j = i then blk' else qb j) bv bl bblk := by
  have ho : Only (lown n B qb) wr (w3.setCell ⟨B, 0 + i, none⟩ v') := LA.add_only hb1 hg hi
  have s1 := hb1.size
  have s0 := h.bl.size
  refine ⟨h.got.add hi hp hb1 hs hg hat, h.bar.keep fun g hg' => ho.block g (h.bar.lt_of hg') (h.nb g hg').2, fun b hb => ?_, fun g hg' => ⟨(h.nb g hg').1, fun hl => ?_⟩, h.bl.trans (ho.below s0 fun x hx => h.new x hx)⟩
  · rcases LA.add_own hat hi hb with hb | hb
    · exact h.new b hb
    · omega
  · rcases LA.add_own hat hi hl with hb | hb
    · exact (h.nb g hg').2 hb
    · have := h.bar.lt_of hg'
      omega

theorem N6.barrier {k : Int} {v' : Value} {blk' : Option Nat} {o : Obj} (h : N6 w4 wr n B us ev qb bv bl bblk) (hs : SlOwn w' 3 1 v' (bl.length + 1) (bl.map (Value.int .i64) ++ [.int .i64 k]) blk') (hg : (wr.alloc o).grownBy w' bblk) (hat : blk' = bblk ∨ blk' = some (wr.alloc o).heap.size) :
    N6 w4 w' n B us ev qb v' (bl ++ [k]) blk' := by
  have hb1 : Below wr.heap.size wr (wr.alloc o) := (Below.refl _ _).alloc (Nat.le_refl _) _
  have z1 : (wr.alloc o).heap.size = wr.heap.size + 1 := by simp
  have sz := hg.size
  have s0 := h.bl.size
  refine ⟨h.got.keep (by omega) fun b hb hl => ?_, by simpa using hs, h.new, fun g hg' => ?_, (h.bl.trans (hb1.mono s0)).grown hg (by omega) fun q hq => (h.nb q hq).1⟩
  · refine (hg.block b (by omega) (fun e => ?_)).trans (hb1.block b hl)
    have e := h.nb b e.symm
    rcases hb with hb | hb
    · exact e.2 hb
    · exact absurd hb (Nat.not_lt.2 e.1)
  · rcases hat with e | e
    · rw [e] at hg'; exact h.nb g hg'
    · rw [hg'] at e; injection e with e
      refine ⟨by omega, fun hl => ?_⟩
      have := h.got.lt hl
      omega
end

theorem psO_take {i : Nat} {O : List (Nat × Elem)} {j : Nat} (h : j < O.length) : psO i (O.take (j + 1)) = psO i (O.take j) ++ if O[j].1 = i then [O[j].2].filter plainE else [] := by
  rw [List.take_succ_eq_append_getElem h, psO_app]
  congr 1
  obtain ⟨a, b⟩ := O[j]
  exact psO_one b

theorem bnO_take {O : List (Nat × Elem)} {j : Nat} (h : j < O.length) : bnO (O.take (j + 1)) = bnO (O.take j) ++ if O[j].2.k == 3 then [O[j].2.n] else [] := by
  rw [List.take_succ_eq_append_getElem h, bnO_app]
  congr 1
  unfold bnO
  cases hk : (O[j].2.k == 3) <;> simp [hk]

theorem bnO_fresh {O : List (Nat × Elem)} (hi : (bnO O).Pairwise (· < ·)) {j : Nat} (h : j < O.length) (hk : (O[j].2.k == 3) = true) : ((bnO (O.take j)).any fun x => x == O[j].2.n) = false := by
  have h1 := bnO_take h
  rw [hk, if_pos rfl] at h1
  have h2 : (bnO (O.take (j + 1))).Pairwise (· < ·) := by
    have h3 : bnO O = bnO (O.take (j + 1)) ++ bnO (O.drop (j + 1)) := by rw [← bnO_app, List.take_append_drop]
    rw [h3] at hi
    exact (List.pairwise_append.1 hi).1
  rw [h1] at h2
  rw [List.any_eq_false]
  intro x hx
  have := (List.pairwise_append.1 h2).2.2 x hx _ (List.mem_singleton.2 rfl)
  simp only [beq_iff_eq]
  omega

theorem bnO_len (O : List (Nat × Elem)) : (bnO O).length ≤ O.length := by
  unfold bnO
  rw [List.length_map]
  exact List.length_filter_le _ _

theorem psO_len (i : Nat) (O : List (Nat × Elem)) : (psO i O).length ≤ O.length := by
  unfold psO notedAt
  refine Nat.le_trans (List.length_filter_le _ _) ?_
  rw [List.length_map]
  exact List.length_filter_le _ _

theorem idx_nil {n : Nat} {p : Nat → Bool} (h : ∀ i, i < n → p i = false) : idx n p = [] := by
  unfold idx
  have : (List.range n).filter p = [] := List.filter_eq_nil_iff.2 fun i hi => by rw [h i (List.mem_range.1 hi)]; decide
  rw [this]; rfl
end Go.Proofs.Ytdnkfgnjeibjeaa.W

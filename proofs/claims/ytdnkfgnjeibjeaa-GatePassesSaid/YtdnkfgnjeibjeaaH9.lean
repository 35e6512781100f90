import Derived.Test.YtdnkfgnjeibjeaaH8
namespace Go.Proofs.Ytdnkfgnjeibjeaa
open Go.RowKit Go.Shelf

/-- The law's world between two acts: the gate, the lists of what arrived, what passed. -/
structure LSt (w2 wr : World) (n G B : Nat) (D : Nat → Prop) (gs : GS) (m : Gm) (us : Nat → Value) (evs : Nat → List EV) (qb : Nat → Option Nat) (ov : Value) (oblk : Option Nat) (outs : List OV) : Prop where
  gate : GateAt wr D gs m
  hG : gs.G = G
  hn : m.n = n
  hD : ∀ b, D b → b < wr.heap.size
  all : AllSt wr n B us evs qb (fun b => b < w2.heap.size)
  out : SlOwn wr 44 6 ov outs.length (outs.flatMap ocl) oblk
  rows : ∀ o ∈ outs, RowAt wr D o.2.2 o.2.1.row
  newB : w2.heap.size ≤ B
  newQ : ∀ i, i < n → ∀ g, qb i = some g → w2.heap.size ≤ g
  newO : ∀ g, oblk = some g → w2.heap.size ≤ g
  newG : ∀ b, gs.own n b → w2.heap.size ≤ b
  apB : ¬ (gs.own n B ∨ D B)
  apQ : ∀ i, i < n → ∀ g, qb i = some g → ¬ (gs.own n g ∨ D g)
  apO : ∀ g, oblk = some g → ¬ (gs.own n g ∨ D g)
  bl : Below w2.heap.size w2 wr

section
variable {w2 wr w' : World} {n G B : Nat} {D : Nat → Prop} {gs : GS} {m : Gm} {us : Nat → Value} {evs : Nat → List EV} {qb : Nat → Option Nat} {ov : Value} {oblk : Option Nat} {outs : List OV}

theorem LSt.next (h : LSt w2 wr n G B D gs m us evs qb ov oblk outs) (hb : Below wr.heap.size wr w') : LSt w2 w' n G B D gs m us evs qb ov oblk outs :=
  ⟨h.gate.below hb, h.hG, h.hn, fun b hb' => Nat.lt_of_lt_of_le (h.hD b hb') hb.size, h.all.below hb, h.out.keep fun g hg => hb.block g (h.out.lt_of hg), fun o ho => (h.rows o ho).below hb, h.newB, h.newQ, h.newO, h.newG, h.apB, h.apQ, h.apO, h.bl.trans (hb.mono h.bl.size)⟩

theorem LSt.Blt (h : LSt w2 wr n G B D gs m us evs qb ov oblk outs) : B < wr.heap.size := by
  obtain ⟨cs, hc, _⟩ := h.all.arr
  exact heap_lt hc

theorem LSt.oB (h : LSt w2 wr n G B D gs m us evs qb ov oblk outs) : oblk ≠ some B := by
  intro e
  obtain ⟨cs, hc, _⟩ := h.all.arr
  have := h.out
  rw [e] at this
  rcases this.2 with ⟨_, _, hx⟩ | ⟨g', o, cap, cur, hx, _, hg, _⟩
  · cases hx
  · injection hx with hx; subst hx
    exact ne_of_cells hg hc (by decide) rfl

theorem LSt.oQ (h : LSt w2 wr n G B D gs m us evs qb ov oblk outs) {i g : Nat} (hi : i < n) (hq : qb i = some g) : oblk ≠ some g := by
  intro e
  have h1 := h.out
  rw [e] at h1
  have h2 := h.all.own i hi
  rw [hq] at h2
  rcases h1.2 with ⟨_, _, hx⟩ | ⟨g', o, cap, cur, hx, _, hg, _⟩
  · cases hx
  rcases h2.2 with ⟨_, _, hy⟩ | ⟨g2, o2, cap2, cur2, hy, _, hg2, _⟩
  · cases hy
  injection hx with hx; injection hy with hy; subst hx hy
  exact ne_of_cells hg hg2 (by decide) rfl

/-- An element has arrived. -/
theorem LSt.arr (h : LSt w2 wr n G B D gs m us evs qb ov oblk outs) {m' : Value → Gm} {news : Value → List OV} {err : Int} {e : Ending} (ha : Arr wr D gs n m' news err e w') :
    ∃ D' r gs' v blk, e = .returned (.tuple #[v, .int .i64 err]) ∧ LSt w2 w' n G B D' gs' (m' r) us evs qb ov oblk outs ∧ SlOwn w' 44 6 v (news r).length ((news r).flatMap ocl) blk ∧ (∀ g, blk = some g → wr.heap.size ≤ g) ∧ (∀ o ∈ news r, RowAt w' D' o.2.2 o.2.1.row) ∧ wr.heap.size ≤ w'.heap.size := by
  obtain ⟨D', r, gs', v, blk, h1, h2, h3, he, hn, hs, hb, hg, hG, hown, hr, hon⟩ := ha
  have hBl := h.Blt
  have hno : ∀ b, b < wr.heap.size → ¬ (gs.own n b ∨ D b) → ¬ (gs'.own n b ∨ D' b) := by
    rintro b hb hnn (hh | hh)
    · rcases hown b hh with hh | hh
      · exact hnn (.inl hh)
      · omega
    · rcases h2 b hh with hh | hh
      · exact hnn (.inr hh)
      · omega
  refine ⟨D', r, gs', v, blk, he, ⟨hg, hG.trans h.hG, hn, h3, h.all.keep hon.size fun b hb hl => hon.block b hl fun ho => ?_, h.out.keep fun g hg => hon.block g (h.out.lt_of hg) fun ho => h.apO g hg (.inl ho), fun o ho => ((h.rows o ho).keep fun b hb hl => hon.block b hl fun ho => h.gate.hD b hb (by rw [h.hn]; exact ho)).mono h1, h.newB, h.newQ, h.newO, fun b hb => ?_, hno B hBl h.apB, fun i hi g hg => hno g (h.all.qbB hi hg).2 (h.apQ i hi g hg), fun g hg => hno g (h.out.lt_of hg) (h.apO g hg), ?_⟩, hs, hb, hr, hon.size⟩
  · rcases hb with rfl | hb | ⟨i, hi, hq⟩
    · exact h.apB (.inl ho)
    · have := h.newG b ho; omega
    · exact h.apQ i hi b hq (.inl ho)
  · rcases hown b hb with hh | hh
    · exact h.newG b hh
    · exact Nat.le_trans h.bl.size hh
  · exact h.bl.trans (hon.below h.bl.size fun x hx => h.newG x hx)

/-- It is laid behind what arrived at its input. -/
theorem LSt.push {w1 w3 : World} {i : Nat} {p : EV} {v' : Value} {blk' : Option Nat} (h : LSt w2 wr n G B D gs m us evs qb ov oblk outs) (hi : i < n) (hp : RowAt wr (fun b => b < w2.heap.size) p.2 p.1.row)
    (hb1 : Below wr.heap.size wr w1) (hs : SlOwn w3 34 5 v' ((evs i).length + 1) ((evs i).flatMap ecl ++ ecl p) blk') (hg : w1.grownBy w3 (qb i)) (hat : blk' = qb i ∨ blk' = some w1.heap.size) :
    LSt w2 (w3.setCell ⟨B, i, none⟩ v') n G B D gs m (fun j => if j = i then v' else us j) (fun j => if j = i then evs i ++ [p] else evs j) (fun j => if j = i then blk' else qb j) ov oblk outs ∧
      (∀ b, b < wr.heap.size → b ≠ B → qb i ≠ some b → (w3.setCell ⟨B, i, none⟩ v').heap[b]? = wr.heap[b]?) ∧ wr.heap.size ≤ (w3.setCell ⟨B, i, none⟩ v').heap.size := by
  have s1 := hb1.size
  have s3 := hg.size
  have hfr : ∀ b, b < wr.heap.size → b ≠ B → qb i ≠ some b → (w3.setCell ⟨B, i, none⟩ v').heap[b]? = wr.heap[b]? := fun b hl hB hq =>
    (heap_set_ne _ hB).trans ((hg.block b (by omega) (fun e => hq e.symm)).trans (hb1.block b hl))
  have hsz : (w3.setCell ⟨B, i, none⟩ v').heap.size = w3.heap.size := by simp [World.setCell]
  have hGD : ∀ b, b < wr.heap.size → gs.own n b ∨ D b → (w3.setCell ⟨B, i, none⟩ v').heap[b]? = wr.heap[b]? := fun b hl hh =>
    hfr b hl (fun e => h.apB (e ▸ hh)) (fun e => h.apQ i hi b e hh)
  refine ⟨⟨h.gate.hold fun b hl hh => hGD b hl (by rw [← h.hn]; exact hh), h.hG, h.hn, fun b hb => by have := h.hD b hb; omega, h.all.add hi hp hb1 hs hg hat, h.out.keep fun g hg' => hfr g (h.out.lt_of hg') (fun e => h.oB (e ▸ hg')) (fun e => h.oQ hi e hg'), fun o ho => (h.rows o ho).keep fun b hb hl => hGD b hl (.inr hb), h.newB, fun j hj g hg' => ?_, h.newO, h.newG, h.apB, fun j hj g hg' => ?_, h.apO, ?_⟩, hfr, by omega⟩
  · by_cases e : j = i
    · rw [if_pos e] at hg'
      rcases hat with e' | e'
      · exact h.newQ i hi g (e' ▸ hg')
      · rw [hg'] at e'; injection e' with e'; have := h.bl.size; omega
    · rw [if_neg e] at hg'
      exact h.newQ j hj g hg'
  · by_cases e : j = i
    · rw [if_pos e] at hg'
      rcases hat with e' | e'
      · exact h.apQ i hi g (e' ▸ hg')
      · rw [hg'] at e'; injection e' with e'
        rintro (hh | hh)
        · have := h.gate.lt (b := g) (by rw [h.hn]; exact hh); omega
        · have := h.hD g hh; omega
    · rw [if_neg e] at hg'
      exact h.apQ j hj g hg'
  · exact ((h.bl.trans (hb1.mono h.bl.size)).grown hg (by have := h.bl.size; omega) (fun q hq => h.newQ i hi q hq)).setCell h.newB _

/-- What passed is laid behind what passed before. -/
theorem LSt.pass {w3 : World} {news : List OV} {v4 : Value} {bk4 : Option Nat} (h : LSt w2 wr n G B D gs m us evs qb ov oblk outs) (hr : ∀ o ∈ news, RowAt wr D o.2.2 o.2.1.row)
    (hs : SlOwn w3 44 6 v4 (outs.length + news.length) (outs.flatMap ocl ++ news.flatMap ocl) bk4) (hg : wr.grownBy w3 oblk) (hat : bk4 = oblk ∨ bk4 = some wr.heap.size) :
    LSt w2 w3 n G B D gs m us evs qb v4 bk4 (outs ++ news) := by
  have hfr : ∀ b, b < wr.heap.size → oblk ≠ some b → w3.heap[b]? = wr.heap[b]? := fun b hl ho => hg.block b hl (fun e => ho e.symm)
  have hGD : ∀ b, b < wr.heap.size → gs.own n b ∨ D b → w3.heap[b]? = wr.heap[b]? := fun b hl hh => hfr b hl (fun e => h.apO b e hh)
  refine ⟨h.gate.hold fun b hl hh => hGD b hl (by rw [← h.hn]; exact hh), h.hG, h.hn, fun b hb => Nat.lt_of_lt_of_le (h.hD b hb) hg.size, h.all.keep hg.size fun b hb hl => hfr b hl fun e => ?_, by simpa using hs, fun o ho => ?_, h.newB, h.newQ, fun g hg' => ?_, h.newG, h.apB, h.apQ, fun g hg' => ?_, h.bl.grown hg h.bl.size (fun q hq => h.newO q hq)⟩
  · rcases hb with rfl | hb | ⟨i, hi, hq⟩
    · exact h.oB e
    · have := h.newO b e; omega
    · exact h.oQ hi hq e
  · have hk : ∀ {r row}, RowAt wr D r row → RowAt w3 D r row := fun hx => hx.keep fun b hb hl => hGD b hl (.inr hb)
    rcases List.mem_append.1 ho with ho | ho
    · exact hk (h.rows o ho)
    · exact hk (hr o ho)
  · rcases hat with e | e
    · exact h.newO g (e ▸ hg')
    · rw [hg'] at e; injection e with e; have := h.bl.size; omega
  · rcases hat with e | e
    · exact h.apO g (e ▸ hg')
    · rw [hg'] at e; injection e with e
      rintro (hh | hh)
      · have := h.gate.lt (b := g) (by rw [h.hn]; exact hh); omega
      · have := h.hD g hh; omega
end
end Go.Proofs.Ytdnkfgnjeibjeaa

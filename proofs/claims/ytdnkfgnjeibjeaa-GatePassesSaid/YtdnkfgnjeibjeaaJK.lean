import Derived.Test.YtdnkfgnjeibjeaaJJ
namespace Go.Proofs.Ytdnkfgnjeibjeaa.W
open Go.RowKit Go.Shelf

/-- An entry of the law's map. -/
structure AtE where
  k : Int
  v : Value
  born : Nat
  ll : List (List Elem)

def AtE.entry (e : AtE) : MapEntry := { key := .int .i64 e.k, val := e.v, born := e.born }
def AtE.pair (e : AtE) : Int × Value := (e.k, e.v)
def AtE.abs (e : AtE) : Int × List (List Elem) := (e.k, e.ll)

theorem atE_ents (AT : List AtE) : Ents (AT.map AtE.entry).toArray.toList (AT.map AtE.pair) := by
  unfold Ents
  simp only [List.map_map]
  rfl

theorem lookup48 (W : World) (r clock : Nat) (k : Int) {es : Array MapEntry} {l : List (Int × Value)} (he : Ents es.toList l) (h : W.heap[r]? = some (.map es clock)) :
    (Instr.lookup 48 (.map (some r)) (.int .i64 k) false).run Try.prog W = .ok ((valAt l k).getD (.slice none 0 0)) W := by
  have hz : ∀ w, (zeroValue 47).run Try.prog w = .ok (.slice none 0 0) w := fun w => by kernel_rfl
  have u := Try.underlying48
  have ho : (getObj r).run Try.prog W = .ok (.map es clock) W := by simp [getObj, Sem.run, h]
  cases hk : keyAt l k 0 with
  | none => simp [Instr.lookup, run_underlying u, ho, run_checkKey_int, run_findKey W he, hk, hz, valAt]
  | some p => simp [Instr.lookup, run_underlying u, ho, run_checkKey_int, run_findKey W he, hk, valAt]

theorem store48 (W : World) (r clock : Nat) (k : Int) (v : Value) {es : Array MapEntry} {l : List (Int × Value)} (he : Ents es.toList l) (h : W.heap[r]? = some (.map es clock)) (hk : keyAt l k 0 = none) :
    (Instr.mapUpdate 48 (.map (some r)) (.int .i64 k) v).run Try.prog W = .ok () (W.putObj r (.map (es.push { key := .int .i64 k, val := v, born := clock }) (clock + 1))) := by
  have u := Try.underlying48
  have ho : (getObj r).run Try.prog W = .ok (.map es clock) W := by simp [getObj, Sem.run, h]
  have hs : ∀ o, (setObj r o).run Try.prog W = .ok () (W.putObj r o) := fun o => by simp [setObj, Sem.run, World.putObj, h]
  simp [Instr.mapUpdate, run_underlying u, ho, run_checkKey_int, run_findKey W he, hk, hs]

theorem valAt_ats (AT : List AtE) (k : Int) : valAt (AT.map AtE.pair) k = (AT.find? fun e => e.k == k).map AtE.v := by
  unfold valAt
  have : ∀ i, (keyAt (AT.map AtE.pair) k i).map Prod.snd = (AT.find? fun e => e.k == k).map AtE.v := by
    induction AT with
    | nil => intro i; rfl
    | cons x l ih =>
      intro i
      by_cases e : x.k = k
      · have e' : x.pair.1 = k := e
        have e2 : (x.k == k) = true := by simpa using e
        simp only [List.map_cons, keyAt, if_pos e', List.find?_cons, e2]
        rfl
      · have e' : ¬ x.pair.1 = k := e
        have e2 : (x.k == k) = false := by simpa using e
        simp only [List.map_cons, keyAt, if_neg e', List.find?_cons, e2]
        exact ih (i + 1)
  exact this 0

theorem keyAt_ats {AT : List AtE} {k : Int} (h : ∀ e ∈ AT, e.k ≠ k) : keyAt (AT.map AtE.pair) k 0 = none := by
  have : ∀ i, keyAt (AT.map AtE.pair) k i = none := by
    induction AT with
    | nil => intro i; rfl
    | cons x l ih =>
      intro i
      have e' : ¬ x.pair.1 = k := h x (List.mem_cons_self ..)
      simp only [List.map_cons, keyAt, if_neg e']
      exact ih (fun e he => h e (List.mem_cons_of_mem _ he)) (i + 1)
  exact this 0

theorem atOf_ats {AT : List AtE} {k : Int} {ll : List (List Elem)} (h : atOf (AT.map AtE.abs) k = some ll) : ∃ e ∈ AT, e.ll = ll ∧ valAt (AT.map AtE.pair) k = some e.v := by
  rw [valAt_ats]
  unfold atOf at h
  rw [List.find?_map] at h
  cases hf : AT.find? fun e => e.k == k with
  | none =>
    have : AT.find? ((fun e : Int × List (List Elem) => e.1 == k) ∘ AtE.abs) = none := hf
    rw [this] at h; cases h
  | some e =>
    have : AT.find? ((fun e : Int × List (List Elem) => e.1 == k) ∘ AtE.abs) = some e := hf
    rw [this] at h
    simp only [Option.map_some, Option.some.injEq] at h
    exact ⟨e, List.mem_of_find?_eq_some hf, h, rfl⟩

/-- The law's world: the gate, what arrived, what passed, what had passed when a barrier did, what passes now; a colour for each block keeps them apart. -/
structure N4 (w2 wr : World) (n G M B1 B2 : Nat) (col : Nat → Nat) (D : Nat → Prop) (gs : GS) (m : Gm) (ns : List NoteC) (us1 : Nat → Value) (ev1 : Nat → List EV) (qb1 : Nat → Option Nat) (us2 : Nat → Value) (ev2 : Nat → List EV) (qb2 : Nat → Option Nat) (AT : List AtE) (ov : Value) (outs : List OV) (oblk : Option Nat) : Prop where
  gate : FreeAt wr D gs m ns
  hG : gs.G = G
  hn : m.n = n
  hD : ∀ b, D b → b < wr.heap.size
  inl : LA wr n B1 0 n us1 ev1 qb1 (fun b => b < w2.heap.size)
  got : LA wr n B2 0 n us2 ev2 qb2 D
  map : ∃ clk, wr.heap[M]? = some (.map (AT.map AtE.entry).toArray clk)
  ats : ∀ e ∈ AT, ListsAt wr D e.v e.ll
  out : SlOwn wr 44 6 ov outs.length (outs.flatMap ocl) oblk
  rows : ∀ o ∈ outs, RowAt wr D o.2.2 o.2.1.row
  c0 : ∀ b, b < w2.heap.size → col b = 0
  cF : ∀ b, fown gs n ns b → col b = 1
  cI : ∀ b, lown n B1 qb1 b → col b = 2
  cT : ∀ b, lown n B2 qb2 b → col b = 3
  cM : col M = 4
  cD : ∀ b, D b → col b = 5
  cO : ∀ b, oblk = some b → col b = 6
  bl : Below w2.heap.size w2 wr

section
variable {w2 wr w' : World} {n G M B1 B2 : Nat} {col : Nat → Nat} {D : Nat → Prop} {gs : GS} {m : Gm} {ns : List NoteC} {us1 us2 : Nat → Value} {ev1 ev2 : Nat → List EV} {qb1 qb2 : Nat → Option Nat} {AT : List AtE} {ov : Value} {outs : List OV} {oblk : Option Nat}

theorem N4.Mlt (h : N4 w2 wr n G M B1 B2 col D gs m ns us1 ev1 qb1 us2 ev2 qb2 AT ov outs oblk) : M < wr.heap.size := by
  obtain ⟨clk, hm⟩ := h.map
  exact heap_lt hm

theorem N4.next (h : N4 w2 wr n G M B1 B2 col D gs m ns us1 ev1 qb1 us2 ev2 qb2 AT ov outs oblk) (hb : Below wr.heap.size wr w') : N4 w2 w' n G M B1 B2 col D gs m ns us1 ev1 qb1 us2 ev2 qb2 AT ov outs oblk := by
  obtain ⟨clk, hm⟩ := h.map
  exact ⟨h.gate.below hb, h.hG, h.hn, fun b hb' => Nat.lt_of_lt_of_le (h.hD b hb') hb.size, h.inl.below hb, h.got.below hb, ⟨clk, (hb.block _ (heap_lt hm)).trans hm⟩, fun e he => (h.ats e he).below hb, h.out.keep fun g hg => hb.block g (h.out.lt_of hg), fun o ho => (h.rows o ho).below hb, h.c0, h.cF, h.cI, h.cT, h.cM, h.cD, h.cO, h.bl.trans (hb.mono h.bl.size)⟩

/-- What passes now is forgotten. -/
theorem N4.forget (h : N4 w2 wr n G M B1 B2 col D gs m ns us1 ev1 qb1 us2 ev2 qb2 AT ov outs oblk) : N4 w2 wr n G M B1 B2 col D gs m ns us1 ev1 qb1 us2 ev2 qb2 AT (.slice none 0 0) [] none :=
  ⟨h.gate, h.hG, h.hn, h.hD, h.inl, h.got, h.map, h.ats, SlOwn.nil _ _ _, fun o ho => (by cases ho), h.c0, h.cF, h.cI, h.cT, h.cM, h.cD, fun b hb => (by cases hb), h.bl⟩

theorem listsAt_keep {w w' : World} {D : Nat → Prop} {v : Value} {ll : List (List Elem)} (h : ListsAt w D v ll) (hk : ∀ b, D b → b < w.heap.size → w'.heap[b]? = w.heap[b]?) : ListsAt w' D v ll := h.keep hk

/-- An element has arrived at the gate. -/
theorem N4.arr (h : N4 w2 wr n G M B1 B2 col D gs m ns us1 ev1 qb1 us2 ev2 qb2 AT ov outs oblk) {m' : Gm} {N' : List Note} {O : List (Nat × Elem)} {v : Value} (hr : FRes wr D gs n ns m' N' O v w') :
    ∃ col' D' gs' ns' outs' blk', N4 w2 w' n G M B1 B2 col' D' gs' m' ns' us1 ev1 qb1 us2 ev2 qb2 AT v outs' blk' ∧ ns'.map NoteC.abs = N' ∧ outE' outs' = O ∧ wr.heap.size ≤ w'.heap.size := by
  obtain ⟨D', gs', ns', outs', blk', hs, hN, hO, hv, hb, hrow⟩ := hr
  have hk : ∀ b, b < wr.heap.size → col b ≠ 1 → w'.heap[b]? = wr.heap[b]? := fun b hl hc => hs.only.block b hl fun hh => hc (h.cF b hh)
  obtain ⟨clk, hm⟩ := h.map
  have hML := heap_lt hm
  have hsz := hs.only.size
  classical
  refine ⟨fun b => if b < wr.heap.size then col b else if D' b then 5 else if fown gs' n ns' b then 1 else 6, D', gs', ns', outs', blk', ⟨hs.gate, hs.G.trans h.hG, hs.hn, hs.d3, h.inl.keep hsz fun b hb' hl => hk b hl ?_, (h.got.keep hsz fun b hb' hl => hk b hl ?_).widen hs.d1 fun b hb' => ⟨hs.d3 b hb', fun hl => ?_⟩, ⟨clk, (hk M hML (by rw [h.cM]; decide)).trans hm⟩, fun e he => ((h.ats e he).keep fun b hb' hl => hk b hl (by rw [h.cD b hb']; decide)).mono hs.d1, hv, hrow, fun b hb' => ?_, fun b hb' => ?_, fun b hb' => ?_, fun b hb' => ?_, ?_, fun b hb' => ?_, fun b hb' => ?_, h.bl.trans (hs.only.below h.bl.size fun x hx => ?_)⟩, hN, hO, hsz⟩
  · rcases hb' with hb' | hb'
    · rw [h.cI b hb']; decide
    · rw [h.c0 b hb']; decide
  · rcases hb' with hb' | hb'
    · rw [h.cT b hb']; decide
    · rw [h.cD b hb']; decide
  · have hlt := h.got.lt hl
    rcases hs.d2 b hb' with hb' | hb'
    · have e1 := h.cD b hb'; have e2 := h.cT b hl; rw [e1] at e2; cases e2
    · omega
  · have := h.bl.size
    rw [if_pos (by omega)]; exact h.c0 b hb'
  · by_cases hl : b < wr.heap.size
    · rw [if_pos hl]
      rcases hs.own b hb' with hb' | hb'
      · exact h.cF b hb'
      · omega
    · have hnd : ¬ D' b := fun hd => hs.gate.hD hd (by rw [hs.hn]; exact hb')
      rw [if_neg hl, if_neg hnd, if_pos hb']
  · rw [if_pos (h.inl.lt hb')]; exact h.cI b hb'
  · rw [if_pos (h.got.lt hb')]; exact h.cT b hb'
  · rw [if_pos hML]; exact h.cM
  · by_cases hl : b < wr.heap.size
    · rw [if_pos hl]
      rcases hs.d2 b hb' with hb' | hb'
      · exact h.cD b hb'
      · omega
    · rw [if_neg hl, if_pos hb']
  · obtain ⟨h1, h2, h3⟩ := hb b hb'
    rw [if_neg (by omega), if_neg h3, if_neg h2]
  · refine Nat.le_of_not_lt fun hlt => ?_
    have := h.c0 x hlt
    rw [h.cF x hx] at this; cases this

/-- It is laid behind what arrived at its input. -/
theorem N4.push {w1 w3 : World} {i : Nat} {p : EV} {v' : Value} {blk' : Option Nat} (h : N4 w2 wr n G M B1 B2 col D gs m ns us1 ev1 qb1 us2 ev2 qb2 AT ov outs oblk) (hi : i < n) (hp : RowAt wr (fun b => b < w2.heap.size) p.2 p.1.row)
    (hb1 : Below wr.heap.size wr w1) (hs : SlOwn w3 34 5 v' ((ev1 i).length + 1) ((ev1 i).flatMap ecl ++ ecl p) blk') (hg : w1.grownBy w3 (qb1 i)) (hat : blk' = qb1 i ∨ blk' = some w1.heap.size) :
    ∃ col', N4 w2 (w3.setCell ⟨B1, 0 + i, none⟩ v') n G M B1 B2 col' D gs m ns (fun j => if j = i then v' else us1 j) (fun j => if j = i then ev1 i ++ [p] else ev1 j) (fun j => if j = i then blk' else qb1 j) us2 ev2 qb2 AT ov outs oblk := by
  have ho : Only (lown n B1 qb1) wr (w3.setCell ⟨B1, 0 + i, none⟩ v') := LA.add_only hb1 hg hi
  have hk : ∀ b, b < wr.heap.size → col b ≠ 2 → (w3.setCell ⟨B1, 0 + i, none⟩ v').heap[b]? = wr.heap[b]? := fun b hl hc => ho.block b hl fun hh => hc (h.cI b hh)
  obtain ⟨clk, hm⟩ := h.map
  have hML := heap_lt hm
  have hsz := ho.size
  have hn := h.hn
  refine ⟨fun b => if b < wr.heap.size then col b else 2, ⟨h.gate.hold fun b hl hb => hk b hl ?_, h.hG, h.hn, fun b hb => Nat.lt_of_lt_of_le (h.hD b hb) hsz, h.inl.add hi hp hb1 hs hg hat, h.got.keep hsz fun b hb hl => hk b hl ?_, ⟨clk, (hk M hML (by rw [h.cM]; decide)).trans hm⟩, fun e he => (h.ats e he).keep fun b hb' hl => hk b hl (by rw [h.cD b hb']; decide), h.out.keep fun g hg' => hk g (h.out.lt_of hg') (by rw [h.cO g hg']; decide), fun o ho => (h.rows o ho).keep fun b hb' hl => hk b hl (by rw [h.cD b hb']; decide), fun b hb' => ?_, fun b hb' => ?_, fun b hb' => ?_, fun b hb' => ?_, ?_, fun b hb' => ?_, fun b hb' => ?_, h.bl.trans (ho.below h.bl.size fun x hx => ?_)⟩⟩
  · rcases hb with hb | hb
    · rw [hn] at hb; rw [h.cF b hb]; decide
    · rw [h.cD b hb]; decide
  · rcases hb with hb' | hb'
    · rw [h.cT b hb']; decide
    · rw [h.cD b hb']; decide
  · have := h.bl.size
    rw [if_pos (by omega)]; exact h.c0 b hb'
  · rw [if_pos (h.gate.lt (by rw [hn]; exact hb'))]; exact h.cF b hb'
  · rcases LA.add_own hat hi hb' with hb' | hb'
    · rw [if_pos (h.inl.lt hb')]; exact h.cI b hb'
    · have := hb1.size
      rw [if_neg (by omega)]
  · rw [if_pos (h.got.lt hb')]; exact h.cT b hb'
  · rw [if_pos hML]; exact h.cM
  · rw [if_pos (h.hD b hb')]; exact h.cD b hb'
  · rw [if_pos (h.out.lt_of hb')]; exact h.cO b hb'
  · refine Nat.le_of_not_lt fun hlt => ?_
    have := h.c0 x hlt
    rw [h.cI x hx] at this; cases this

/-- An element has passed. -/
theorem N4.pass {w1 w3 : World} {i : Nat} {p : EV} {v' : Value} {blk' : Option Nat} (h : N4 w2 wr n G M B1 B2 col D gs m ns us1 ev1 qb1 us2 ev2 qb2 AT ov outs oblk) (hi : i < n) (hp : RowAt wr D p.2 p.1.row)
    (hb1 : Below wr.heap.size wr w1) (hs : SlOwn w3 34 5 v' ((ev2 i).length + 1) ((ev2 i).flatMap ecl ++ ecl p) blk') (hg : w1.grownBy w3 (qb2 i)) (hat : blk' = qb2 i ∨ blk' = some w1.heap.size) :
    ∃ col', N4 w2 (w3.setCell ⟨B2, 0 + i, none⟩ v') n G M B1 B2 col' D gs m ns us1 ev1 qb1 (fun j => if j = i then v' else us2 j) (fun j => if j = i then ev2 i ++ [p] else ev2 j) (fun j => if j = i then blk' else qb2 j) AT ov outs oblk := by
  have ho : Only (lown n B2 qb2) wr (w3.setCell ⟨B2, 0 + i, none⟩ v') := LA.add_only hb1 hg hi
  have hk : ∀ b, b < wr.heap.size → col b ≠ 3 → (w3.setCell ⟨B2, 0 + i, none⟩ v').heap[b]? = wr.heap[b]? := fun b hl hc => ho.block b hl fun hh => hc (h.cT b hh)
  obtain ⟨clk, hm⟩ := h.map
  have hML := heap_lt hm
  have hsz := ho.size
  have hn := h.hn
  refine ⟨fun b => if b < wr.heap.size then col b else 3, ⟨h.gate.hold fun b hl hb => hk b hl ?_, h.hG, h.hn, fun b hb => Nat.lt_of_lt_of_le (h.hD b hb) hsz, h.inl.keep hsz fun b hb hl => hk b hl ?_, h.got.add hi hp hb1 hs hg hat, ⟨clk, (hk M hML (by rw [h.cM]; decide)).trans hm⟩, fun e he => (h.ats e he).keep fun b hb' hl => hk b hl (by rw [h.cD b hb']; decide), h.out.keep fun g hg' => hk g (h.out.lt_of hg') (by rw [h.cO g hg']; decide), fun o ho => (h.rows o ho).keep fun b hb' hl => hk b hl (by rw [h.cD b hb']; decide), fun b hb' => ?_, fun b hb' => ?_, fun b hb' => ?_, fun b hb' => ?_, ?_, fun b hb' => ?_, fun b hb' => ?_, h.bl.trans (ho.below h.bl.size fun x hx => ?_)⟩⟩
  · rcases hb with hb | hb
    · rw [hn] at hb; rw [h.cF b hb]; decide
    · rw [h.cD b hb]; decide
  · rcases hb with hb' | hb'
    · rw [h.cI b hb']; decide
    · rw [h.c0 b hb']; decide
  · have := h.bl.size
    rw [if_pos (by omega)]; exact h.c0 b hb'
  · rw [if_pos (h.gate.lt (by rw [hn]; exact hb'))]; exact h.cF b hb'
  · rw [if_pos (h.inl.lt hb')]; exact h.cI b hb'
  · rcases LA.add_own hat hi hb' with hb' | hb'
    · rw [if_pos (h.got.lt hb')]; exact h.cT b hb'
    · have := hb1.size
      rw [if_neg (by omega)]
  · rw [if_pos hML]; exact h.cM
  · rw [if_pos (h.hD b hb')]; exact h.cD b hb'
  · rw [if_pos (h.out.lt_of hb')]; exact h.cO b hb'
  · refine Nat.le_of_not_lt fun hlt => ?_
    have := h.c0 x hlt
    rw [h.cT x hx] at this; cases this

/-- What had passed when a barrier did is kept. -/
theorem N4.mark {w1 : World} {k : Int} {Bc oc cc clk : Nat} {usc : Nat → Value} {evc : Nat → List EV} {qbc : Nat → Option Nat} {ll : List (List Elem)} (h : N4 w2 wr n G M B1 B2 col D gs m ns us1 ev1 qb1 us2 ev2 qb2 AT ov outs oblk) (hb1 : Below wr.heap.size wr w1)
    (hla : LA w1 n Bc oc cc usc evc qbc D) (hnew : ∀ b, lown n Bc qbc b → wr.heap.size ≤ b) (hll : (List.range n).map (fun i => eL (evc i)) = ll) (hlen : ∀ i, i < n → (evc i).length ≤ 1000000) (hn1 : n ≤ 1000000) (hclk : w1.heap[M]? = some (.map (AT.map AtE.entry).toArray clk)) :
    ∃ col' D', (∀ b, D b → D' b) ∧ N4 w2 (w1.putObj M (.map ((AT.map AtE.entry).toArray.push { key := .int .i64 k, val := .slice (some ⟨Bc, oc, none⟩) n cc, born := clk }) (clk + 1))) n G M B1 B2 col' D' gs m ns us1 ev1 qb1 us2 ev2 qb2 (AT ++ [⟨k, .slice (some ⟨Bc, oc, none⟩) n cc, clk, ll⟩]) ov outs oblk := by
  have h1 := h.next hb1
  have hML := heap_lt hclk
  have hset : (w1.putObj M (.map ((AT.map AtE.entry).toArray.push { key := .int .i64 k, val := .slice (some ⟨Bc, oc, none⟩) n cc, born := clk }) (clk + 1))).heap[M]? = some (.map ((AT.map AtE.entry).toArray.push { key := .int .i64 k, val := .slice (some ⟨Bc, oc, none⟩) n cc, born := clk }) (clk + 1)) := by
    simp only [World.putObj, Array.getElem?_setIfInBounds, if_true]
    rw [if_pos hML]
  have hk : ∀ b, b ≠ M → (w1.putObj M (.map ((AT.map AtE.entry).toArray.push { key := .int .i64 k, val := .slice (some ⟨Bc, oc, none⟩) n cc, born := clk }) (clk + 1))).heap[b]? = w1.heap[b]? := fun b hb => by
    simp only [World.putObj, Array.getElem?_setIfInBounds]
    rw [if_neg (fun e => hb e.symm)]
  have h9 := grownBy_putObj' w1 M (.map ((AT.map AtE.entry).toArray.push { key := .int .i64 k, val := .slice (some ⟨Bc, oc, none⟩) n cc, born := clk }) (clk + 1))
  generalize w1.putObj M (.map ((AT.map AtE.entry).toArray.push { key := .int .i64 k, val := .slice (some ⟨Bc, oc, none⟩) n cc, born := clk }) (clk + 1)) = w9 at hset hk h9 ⊢
  have hs1 := hb1.size
  have hs9 := h9.size
  have hMw := h.Mlt
  have hn := h.hn
  have hcM : ∀ b, col b ≠ 4 → b ≠ M := fun b hb e => hb (e ▸ h.cM)
  have hlM : ∀ b, lown n Bc qbc b → b ≠ M := fun b hb e => by have := hnew b hb; omega
  have hlist : ListsAt w1 (fun b => D b ∨ lown n Bc qbc b) (.slice (some ⟨Bc, oc, none⟩) n cc) ll := by
    rw [← hll]
    exact (hla.lists hn1 hlen).mono fun b hb => hb.symm
  refine ⟨fun b => if b < wr.heap.size then col b else 5, fun b => D b ∨ lown n Bc qbc b, fun b hb => .inl hb, ⟨(h1.gate.hold fun b hl hb => hk b (hcM b ?_)).widen (fun b hb => .inl hb) fun b hb hh => ?_, h.hG, h.hn, fun b hb => ?_, h1.inl.keep hs9 fun b hb hl => hk b (hcM b ?_), (h1.got.keep hs9 fun b hb hl => hk b (hcM b ?_)).widen (fun b hb => .inl hb) fun b hb => ⟨?_, fun hh => ?_⟩, ⟨clk + 1, ?_⟩, fun e he => ?_, h1.out.keep fun g hg => hk g (hcM g (by rw [h.cO g hg]; decide)), fun o ho => ((h1.rows o ho).keep fun b hb' hl => hk b (hcM b (by rw [h.cD b hb']; decide))).mono fun b hb => .inl hb, fun b hb' => ?_, fun b hb' => ?_, fun b hb' => ?_, fun b hb' => ?_, ?_, fun b hb' => ?_, fun b hb' => ?_, ?_⟩⟩
  · rcases hb with hb | hb
    · rw [hn] at hb; rw [h.cF b hb]; decide
    · rw [h.cD b hb]; decide
  · rcases hb with hb | hb
    · exact h.gate.hD hb hh
    · have := hnew b hb; have := h.gate.lt hh; omega
  · rcases hb with hb | hb
    · have := h.hD b hb; omega
    · have := hla.lt hb; omega
  · rcases hb with hb' | hb'
    · rw [h.cI b hb']; decide
    · rw [h.c0 b hb']; decide
  · rcases hb with hb' | hb'
    · rw [h.cT b hb']; decide
    · rw [h.cD b hb']; decide
  · rcases hb with hb | hb
    · have := h.hD b hb; omega
    · have := hla.lt hb; omega
  · rcases hb with hb | hb
    · have e1 := h.cD b hb; have e2 := h.cT b hh; rw [e1] at e2; cases e2
    · have := hnew b hb; have := h.got.lt hh; omega
  · rw [hset, List.map_append, List.push_toArray]
    rfl
  · rcases List.mem_append.1 he with he | he
    · exact ((h1.ats e he).keep fun b hb' hl => hk b (hcM b (by rw [h.cD b hb']; decide))).mono fun b hb => .inl hb
    · rw [List.mem_singleton] at he; subst he
      exact hlist.keep fun b hb hl => hk b (by
        rcases hb with hb | hb
        · exact hcM b (by rw [h.cD b hb]; decide)
        · exact hlM b hb)
  · have := h.bl.size
    rw [if_pos (by omega)]; exact h.c0 b hb'
  · rw [if_pos (h.gate.lt (by rw [hn]; exact hb'))]; exact h.cF b hb'
  · rw [if_pos (h.inl.lt hb')]; exact h.cI b hb'
  · rw [if_pos (h.got.lt hb')]; exact h.cT b hb'
  · rw [if_pos hMw]; exact h.cM
  · rcases hb' with hb' | hb'
    · rw [if_pos (h.hD b hb')]; exact h.cD b hb'
    · have := hnew b hb'
      rw [if_neg (by omega)]
  · rw [if_pos (h.out.lt_of hb')]; exact h.cO b hb'
  · refine (h.bl.trans (hb1.mono h.bl.size)).grown h9 (Nat.le_trans h.bl.size hs1) fun q hq => ?_
    injection hq with hq
    subst hq
    refine Nat.le_of_not_lt fun hlt => ?_
    have := h.c0 M hlt
    rw [h.cM] at this; cases this
end
end Go.Proofs.Ytdnkfgnjeibjeaa.W

import Derived.Test.YtdnkfgnjeibjeaaK2
namespace Go.Proofs.Ytdnkfgnjeibjeaa.W
open Go.RowKit Go.Shelf

abbrev AGS := Go.Proofs.Ytdnkfgnjeibjeaa.GS
abbrev AGateAt := Go.Proofs.Ytdnkfgnjeibjeaa.GateAt

/-- A gate of either kind in memory: F are its blocks, D those of the rows, N its notes. -/
def GW (w : World) (D F : Nat → Prop) (G : Nat) (m : Gm) (N : List Note) : Prop :=
  (m.al = true ∧ N = [] ∧ ∃ gs : AGS, AGateAt w D gs m ∧ gs.G = G ∧ ∀ b, F b ↔ gs.own m.n b) ∨
  (m.al = false ∧ ∃ gs ns, FreeAt w D gs m ns ∧ ns.map NoteC.abs = N ∧ gs.G = G ∧ ∀ b, F b ↔ fown gs m.n ns b)

section
variable {w w' : World} {D F : Nat → Prop} {G : Nat} {m : Gm} {N : List Note}

theorem GW.lt (h : GW w D F G m N) {b : Nat} (hb : F b) : b < w.heap.size := by
  rcases h with ⟨_, _, gs, hg, _, hF⟩ | ⟨_, gs, ns, hg, _, _, hF⟩
  · exact hg.lt ((hF b).1 hb)
  · exact hg.lt ((hF b).1 hb)

theorem GW.hD (h : GW w D F G m N) {b : Nat} (hb : D b) : ¬ F b := by
  rcases h with ⟨_, _, gs, hg, _, hF⟩ | ⟨_, gs, ns, hg, _, _, hF⟩
  · exact fun hf => hg.hD b hb ((hF b).1 hf)
  · exact fun hf => hg.hD hb ((hF b).1 hf)

theorem GW.hold (h : GW w D F G m N) (hk : ∀ b, b < w.heap.size → F b ∨ D b → w'.heap[b]? = w.heap[b]?) : GW w' D F G m N := by
  rcases h with ⟨h1, h2, gs, hg, h3, hF⟩ | ⟨h1, gs, ns, hg, h2, h3, hF⟩
  · exact .inl ⟨h1, h2, gs, Go.Proofs.Ytdnkfgnjeibjeaa.GateAt.hold hg fun b hl hb => hk b hl (hb.imp (hF b).2 id), h3, hF⟩
  · exact .inr ⟨h1, gs, ns, hg.hold fun b hl hb => hk b hl (hb.imp (hF b).2 id), h2, h3, hF⟩

theorem GW.below (h : GW w D F G m N) (hb : Below w.heap.size w w') : GW w' D F G m N := h.hold fun b hl _ => hb.block b hl

theorem GW.pos (h : GW w D F G m N) : 0 < m.n ∧ m.n ≤ 200 := by
  rcases h with ⟨_, _, gs, hg, _, _⟩ | ⟨_, gs, ns, hg, _, _, _⟩
  · exact ⟨hg.pos, hg.le⟩
  · exact ⟨hg.gate.pos, hg.gate.le⟩
end

/-- What a call on a gate gives. -/
def GRes (w : World) (D F : Nat → Prop) (G n : Nat) (m' : Gm) (N' : List Note) (O : List (Nat × Elem)) (v : Value) (w' : World) : Prop :=
  ∃ D' F' outs blk, GW w' D' F' G m' N' ∧ m'.n = n ∧ (∀ b, F' b → F b ∨ w.heap.size ≤ b) ∧ (∀ b, D b → D' b) ∧ (∀ b, D' b → D b ∨ w.heap.size ≤ b) ∧ (∀ b, D' b → b < w'.heap.size) ∧ Only F w w' ∧
    outE' outs = O ∧ SlOwn w' 44 6 v outs.length (outs.flatMap ocl) blk ∧ (∀ g, blk = some g → w.heap.size ≤ g ∧ ¬ F' g) ∧ (∀ o ∈ outs, RowAt w' D' o.2.2 o.2.1.row)

/-- A slice of what passed is apart from an aligned gate. -/
theorem out_apart {w : World} {D : Nat → Prop} {gs : AGS} {m : Gm} (h : AGateAt w D gs m) {v : Value} {n : Nat} {xs : List Value} {blk : Option Nat} (hs : SlOwn w 44 6 v n xs blk) {g : Nat} (hg : blk = some g) : ¬ gs.own m.n g := by
  obtain ⟨cs, hc⟩ : ∃ cs, w.heap[g]? = some (.cells cs 44 (0, 0)) := by
    rcases hs.2 with ⟨_, _, hx⟩ | ⟨g', o, cap, cur, hx, _, hc, _⟩
    · rw [hg] at hx; cases hx
    · rw [hg] at hx; injection hx with hx; subst hx; exact ⟨cur, hc⟩
  rintro (hb | hb | hb | ⟨i, hi, hb⟩ | ⟨i, hi, hb⟩)
  · exact ne_of_cells hc h.hG (by decide) hb
  · obtain ⟨cs2, hc2, _⟩ := h.harr; exact ne_of_cells hc hc2 (by decide) hb
  · exact ne_of_map hc h.hmap hb
  · exact ne_of_cells hc (h.hib i hi) (by decide) hb
  · obtain ⟨cur, hcq⟩ := h.qb_cells hi hb
    exact ne_of_cells hc hcq (by decide) rfl

theorem GRes.arr {w w' : World} {D F : Nat → Prop} {gs : AGS} {n : Nat} {m' : Value → Gm} {outs : Value → List OV} {err : Int} {e : Ending} (hF : ∀ b, gs.own n b → F b) (h : Arr w D gs n m' outs err e w') (hal : ∀ r, (m' r).al = true) : ∃ v r, e = .returned (.tuple #[v, .int .i64 err]) ∧ GRes w D F gs.G n (m' r) [] (outE' (outs r)) v w' := by
  obtain ⟨D', r, gs', v, blk, h1, h2, h3, he, hn, hs, hb, hg, hG, hown, hr, hon⟩ := h
  refine ⟨v, r, he, D', gs'.own n, outs r, blk, .inl ⟨hal r, rfl, gs', hg, hG, fun b => by rw [hn]⟩, hn, fun b hb' => (hown b hb').imp (hF b) id, h1, h2, h3, hon.mono fun b _ hb' => hF b hb', rfl, hs, fun g hg' => ⟨hb g hg', ?_⟩, hr⟩
  have := out_apart hg hs hg'
  rw [hn] at this
  exact this

theorem GRes.gives {w w' : World} {D F : Nat → Prop} {gs : AGS} {n : Nat} {m' : Gm} {o : List OV} {v : Value} (hF : ∀ b, gs.own n b → F b) (hD : ∀ b, D b → b < w.heap.size) (h : Gives w D gs n m' o (.returned v) w') (hal : m'.al = true) : GRes w D F gs.G n m' [] (outE' o) v w' := by
  obtain ⟨gs', v', blk, he, hn, hs, hb, hg, hl, hr, hon⟩ := h
  injection he with he
  subst he
  refine ⟨D, gs'.own n, o, blk, .inl ⟨hal, rfl, gs', hg, hl.G, fun b => by rw [hn]⟩, hn, fun b hb' => .inl (hF b ((Go.Proofs.Ytdnkfgnjeibjeaa.like_own hl n b).1 hb')), fun _ h => h, fun _ h => .inl h, fun b hb' => Nat.lt_of_lt_of_le (hD b hb') hon.size, hon.mono fun b _ hb' => hF b hb', rfl, hs, fun g hg' => ⟨hb g hg', ?_⟩, hr⟩
  have := out_apart hg hs hg'
  rw [hn] at this
  exact this

theorem GRes.free {w w' : World} {D F : Nat → Prop} {gs : GS} {n : Nat} {ns : List NoteC} {m' : Gm} {N' : List Note} {O : List (Nat × Elem)} {v : Value} (hF : ∀ b, fown gs n ns b → F b) (h : FRes w D gs n ns m' N' O v w') : GRes w D F gs.G n m' N' O v w' := by
  obtain ⟨D', gs', ns', outs, blk, hs, hN, hO, hv, hb, hr⟩ := h
  have hn := hs.hn
  refine ⟨D', fown gs' n ns', outs, blk, .inr ⟨hs.gate.al, gs', ns', hs.gate, hN, hs.G, fun b => by rw [hn]⟩, hn, fun b hb' => (hs.own b hb').imp (hF b) id, hs.d1, hs.d2, hs.d3, hs.only.mono fun b _ hb' => hF b hb', hO, hv, fun g hg => ⟨(hb g hg).1, (hb g hg).2.1⟩, hr⟩

/-- An element that can arrive: what becomes of the gate, what passes. -/
inductive ArrR (m : Gm) (N : List Note) (i : Nat) (x : Elem) : Gm → List Note → List (Nat × Elem) → Prop
  | wait (r : Value) (hal : m.al = true) (hb : m.blocked i = true) : ArrR m N i x (m.upd i { m.inp i with last := if x.k == 3 then x.n else (m.inp i).last, queue := (m.inp i).queue ++ [(x, r)] }) N []
  | look (r : Value) {m' : Gm} {o : List OV} (hal : m.al = true) (hb : m.blocked i = false) (h : Runs (.look i (x, r)) (m.upd i { m.inp i with last := if x.k == 3 then x.n else (m.inp i).last }) m' o) : ArrR m N i x m' N (outE' o)
  | free (hal : m.al = false) : ArrR m N i x (fLook (m.upd i { m.inp i with last := if x.k == 3 then x.n else (m.inp i).last }) N i x).1 (fLook (m.upd i { m.inp i with last := if x.k == 3 then x.n else (m.inp i).last }) N i x).2.1 (fLook (m.upd i { m.inp i with last := if x.k == 3 then x.n else (m.inp i).last }) N i x).2.2

inductive CloseR (m : Gm) (N : List Note) (i : Nat) : Gm → List Note → List (Nat × Elem) → Prop
  | al {m' : Gm} {o : List OV} (hal : m.al = true) (h : Runs (.whole i) (m.upd i (m.inp i).shut) m' o) : CloseR m N i m' N (outE' o)
  | free (hal : m.al = false) : CloseR m N i (fWhole (m.upd i (m.inp i).shut) N).1 (fWhole (m.upd i (m.inp i).shut) N).2 []

inductive CancelR (m : Gm) (N : List Note) : Gm → List Note → List (Nat × Elem) → Prop
  | al {m' : Gm} {o : List OV} (hal : m.al = true) (h : Runs .go m.ends m' o) : CancelR m N m' N (outE' o)
  | free (hal : m.al = false) : CancelR m N m.ends (N.filter (fun y => y.1 != m.under)) []

/-- What bounds a gate. -/
structure Bnd (m : Gm) (N : List Note) : Prop where
  under : 0 ≤ m.under
  done : 0 ≤ m.done
  q : qsum m m.n ≤ 900
  k : m.al = false → KOk m N
  s : nSum N ≤ 900

def AnyErr (w : World) (e : Ending) (w' : World) (err : Int) : Prop := e = .returned (.tuple #[.slice none 0 0, .int .i64 err]) ∧ Below w.heap.size w w'

/-- 'Close', in all cases. -/
def CloseTo (w : World) (D F : Nat → Prop) (G : Nat) (m : Gm) (N : List Note) (oi : Int) (e : Ending) (w' : World) : Prop :=
  (((oi < 0 ∨ (m.n : Int) ≤ oi) ∧ AnyErr w e w' 7)) ∨ (∃ i : Nat, oi = i ∧ i < m.n ∧ (m.inp i).closed = true ∧ AnyErr w e w' 10) ∨
  (∃ i : Nat, oi = i ∧ i < m.n ∧ (m.inp i).closed = false ∧ ∃ v m' N' O, e = .returned (.tuple #[v, .int .i64 0]) ∧ CloseR m N i m' N' O ∧ GRes w D F G m.n m' N' O v w')

theorem close_any {w : World} {D F : Nat → Prop} {G : Nat} {m : Gm} {N : List Note} (h : GW w D F G m N) (hD : ∀ b, D b → b < w.heap.size) (hb : Bnd m N) (oi : Int) :
    Calls Try.prog 29 #[.pointer (some ⟨G, 0, none⟩), .int .i64 oi] w (CloseTo w D F G m N oi) := by
  by_cases hi : oi < 0 ∨ (m.n : Int) ≤ oi
  · rcases h with ⟨hal, hN, gs, hg, rfl, hF⟩ | ⟨hal, gs, ns, hg, hN, rfl, hF⟩
    · exact (Go.Proofs.Ytdnkfgnjeibjeaa.f29_rng w D gs m hg oi hi).mono fun e w' ⟨he, hw⟩ => .inl ⟨hi, he, hw ▸ Below.refl _ _⟩
    · exact (f29_rng w D gs m hg.gate oi hi).mono fun e w' ⟨he, hw⟩ => .inl ⟨hi, he, hw ▸ Below.refl _ _⟩
  · obtain ⟨i, rfl⟩ : ∃ i : Nat, oi = i := ⟨oi.toNat, by omega⟩
    have hi' : i < m.n := by omega
    cases hcl : (m.inp i).closed with
    | true =>
      rcases h with ⟨hal, hN, gs, hg, rfl, hF⟩ | ⟨hal, gs, ns, hg, hN, rfl, hF⟩
      · exact (Go.Proofs.Ytdnkfgnjeibjeaa.f29_closed w D gs m hg i hi' hcl).mono fun e w' ⟨he, hw⟩ => .inr (.inl ⟨i, rfl, hi', hcl, he, hw ▸ Below.refl _ _⟩)
      · exact (f29_closed w D gs m hg.gate i hi' hcl).mono fun e w' ⟨he, hw⟩ => .inr (.inl ⟨i, rfl, hi', hcl, he, hw ▸ Below.refl _ _⟩)
    | false =>
      rcases h with ⟨hal, hN, gs, hg, rfl, hF⟩ | ⟨hal, gs, ns, hg, hN, rfl, hF⟩
      · have hq : qsum (m.upd i (m.inp i).shut) m.n = qsum m m.n := qsum_same (m := m) (i := i) (x := (m.inp i).shut) rfl m.n
        obtain ⟨m', o, hr⟩ := (runs_all _ (m.upd i (m.inp i).shut) rfl hb.under hb.done).2.1 i
        have hal' : m'.al = true := hr.fix.2.trans hal
        have hq9 := hb.q
        refine (f29_ok w D gs m m' o hg hD i hi' hcl (hr.to D hal (by rw [show (m.upd i (m.inp i).shut).n = m.n from rfl, hq]; omega))).mono ?_
        rintro e w' ⟨v, he, hgv⟩
        subst hN
        exact .inr (.inr ⟨i, rfl, hi', hcl, v, m', [], _, he, .al hal hr, GRes.gives (fun b hb => (hF b).2 hb) hD hgv hal'⟩)
      · subst hN
        refine (f29_free w D gs m ns hg hD i hi' hcl (hb.k hal)).mono ?_
        rintro e w' ⟨v, he, hres⟩
        exact .inr (.inr ⟨i, rfl, hi', hcl, v, _, _, _, he, .free hal, GRes.free (fun b hb => (hF b).2 hb) hres⟩)

def CancelTo (w : World) (D F : Nat → Prop) (G : Nat) (m : Gm) (N : List Note) (e : Ending) (w' : World) : Prop :=
  (m.under = 0 ∧ AnyErr w e w' 8) ∨ (m.under ≠ 0 ∧ ∃ v m' N' O, e = .returned (.tuple #[v, .int .i64 0]) ∧ CancelR m N m' N' O ∧ GRes w D F G m.n m' N' O v w')

theorem cancel_any {w : World} {D F : Nat → Prop} {G : Nat} {m : Gm} {N : List Note} (h : GW w D F G m N) (hD : ∀ b, D b → b < w.heap.size) (hb : Bnd m N) :
    Calls Try.prog 30 #[.pointer (some ⟨G, 0, none⟩)] w (CancelTo w D F G m N) := by
  by_cases hu : m.under = 0
  · rcases h with ⟨hal, hN, gs, hg, rfl, hF⟩ | ⟨hal, gs, ns, hg, hN, rfl, hF⟩
    · exact (Go.Proofs.Ytdnkfgnjeibjeaa.f30_none w D gs m hg hu).mono fun e w' ⟨he, hw⟩ => .inl ⟨hu, he, hw ▸ Below.refl _ _⟩
    · exact (f30_none w D gs m hg.gate hu).mono fun e w' ⟨he, hw⟩ => .inl ⟨hu, he, hw ▸ Below.refl _ _⟩
  · rcases h with ⟨hal, hN, gs, hg, rfl, hF⟩ | ⟨hal, gs, ns, hg, hN, rfl, hF⟩
    · have hd : 0 ≤ m.ends.done := by
        have := hb.done
        show 0 ≤ max m.done m.under
        omega
      obtain ⟨m', o, hr⟩ := (runs_all _ m.ends rfl (Int.le_refl _) hd).1
      have hal' : m'.al = true := hr.fix.2.trans hal
      have hq9 := hb.q
      have hto := hr.to D hal (by rw [show m.ends.n = m.n from rfl, ends_qsum]; omega)
      refine (f30_ok w D gs m m' o hg hD hal hu hto.1).mono ?_
      rintro e w' ⟨v, he, hgv⟩
      subst hN
      exact .inr ⟨hu, v, m', [], _, he, .al hal hr, GRes.gives (fun b hb => (hF b).2 hb) hD hgv hal'⟩
    · subst hN
      refine (f30_free w D gs m ns hg hD hu).mono ?_
      rintro e w' ⟨v, he, hres⟩
      exact .inr ⟨hu, v, _, _, _, he, .free hal, GRes.free (fun b hb => (hF b).2 hb) hres⟩

/-- Which error 'Arrive' gives. -/
def arrErr (m : Gm) (oi : Int) (x : Elem) : Int :=
  if validElem x = false then 1 else if oi < 0 ∨ (m.n : Int) ≤ oi then 7 else if (m.inp oi.toNat).closed = true then 10 else if x.k = 3 ∧ x.n ≤ (m.inp oi.toNat).last then 7 else 0

def ArriveG (w : World) (D F : Nat → Prop) (G : Nat) (m : Gm) (N : List Note) (oi : Int) (x : Elem) (e : Ending) (w' : World) : Prop :=
  (arrErr m oi x ≠ 0 ∧ AnyErr w e w' (arrErr m oi x)) ∨
  (arrErr m oi x = 0 ∧ ∃ i : Nat, oi = i ∧ i < m.n ∧ validElem x = true ∧ (m.inp i).closed = false ∧ (x.k = 3 → (m.inp i).last < x.n) ∧ ∃ v m' N' O, e = .returned (.tuple #[v, .int .i64 0]) ∧ ArrR m N i x m' N' O ∧ GRes w D F G m.n m' N' O v w')

theorem arrive_g {w : World} {D F : Nat → Prop} {G : Nat} {m : Gm} {N : List Note} (h : GW w D F G m N) (hD : ∀ b, D b → b < w.heap.size) (hb : Bnd m N) (oi : Int) (x : Elem) (r : Value) (D0 : Nat → Prop) (hr : RowAt w D0 r x.row) (hD0 : ∀ b, D0 b → ¬ F b) (hsm : x.row.length ≤ 1000000) :
    Calls Try.prog 13 #[.pointer (some ⟨G, 0, none⟩), .int .i64 oi, ev x r] w (ArriveG w D F G m N oi x) := by
  have hq := hb.q
  have hs := hb.s
  cases hv : validElem x with
  | false =>
    have he0 : arrErr m oi x = 1 := if_pos hv
    exact (f13_inv w _ _ oi x r hr hv).mono fun e w' h => .inl ⟨by rw [he0]; decide, by rw [he0]; exact h⟩
  | true =>
    have hv' : ¬ validElem x = false := by rw [hv]; decide
    by_cases hi : oi < 0 ∨ (m.n : Int) ≤ oi
    · have he0 : arrErr m oi x = 7 := by unfold arrErr; rw [if_neg hv', if_pos hi]
      rcases h with ⟨hal, hN, gs, hg, rfl, hF⟩ | ⟨hal, gs, ns, hg, hN, rfl, hF⟩
      · exact (Go.Proofs.Ytdnkfgnjeibjeaa.f13_rng w _ gs m hg oi x r hr hv hi).mono fun e w' h => .inl ⟨by rw [he0]; decide, by rw [he0]; exact h⟩
      · exact (f13_rng w D _ gs m hg.gate oi x r hr hv hi).mono fun e w' h => .inl ⟨by rw [he0]; decide, by rw [he0]; exact h⟩
    · obtain ⟨i, rfl⟩ : ∃ i : Nat, oi = i := ⟨oi.toNat, by omega⟩
      have hi' : i < m.n := by omega
      have hti : (i : Int).toNat = i := by omega
      cases hcl : (m.inp i).closed with
      | true =>
        have he0 : arrErr m i x = 10 := by unfold arrErr; rw [if_neg hv', if_neg hi, hti, if_pos hcl]
        rcases h with ⟨hal, hN, gs, hg, rfl, hF⟩ | ⟨hal, gs, ns, hg, hN, rfl, hF⟩
        · exact (Go.Proofs.Ytdnkfgnjeibjeaa.f13_closed w D _ gs m hg i x r hr hv hi' hcl).mono fun e w' h => .inl ⟨by rw [he0]; decide, by rw [he0]; exact h⟩
        · exact (f13_closed w D _ gs m hg.gate i x r hr hv hi' hcl).mono fun e w' h => .inl ⟨by rw [he0]; decide, by rw [he0]; exact h⟩
      | false =>
        have hcl' : ¬ (m.inp i).closed = true := by rw [hcl]; decide
        by_cases hl : x.k = 3 ∧ x.n ≤ (m.inp i).last
        · have he0 : arrErr m i x = 7 := by unfold arrErr; rw [if_neg hv', if_neg hi, hti, if_neg hcl', if_pos hl]
          rcases h with ⟨hal, hN, gs, hg, rfl, hF⟩ | ⟨hal, gs, ns, hg, hN, rfl, hF⟩
          · exact (Go.Proofs.Ytdnkfgnjeibjeaa.f13_old w D _ gs m i x r hg hr hv hi' hcl hl.1 hl.2).mono fun e w' h => .inl ⟨by rw [he0]; decide, by rw [he0]; exact h⟩
          · exact (f13_old w D _ gs m i x r ns hg hD hr hv hi' hcl hl.1 hl.2).mono fun e w' h => .inl ⟨by rw [he0]; decide, by rw [he0]; exact h⟩
        · have he0 : arrErr m i x = 0 := by unfold arrErr; rw [if_neg hv', if_neg hi, hti, if_neg hcl', if_neg hl]
          have hlt : x.k = 3 → (m.inp i).last < x.n := fun e => by
            rcases Int.lt_or_le (m.inp i).last x.n with h | h
            · exact h
            · exact absurd ⟨e, h⟩ hl
          rcases h with ⟨hal, hN, gs, hg, rfl, hF⟩ | ⟨hal, gs, ns, hg, hN, rfl, hF⟩
          · subst hN
            have hD0' : ∀ b, D0 b → ¬ gs.own m.n b := fun b hb hh => hD0 b hb ((hF b).2 hh)
            have hF' : ∀ b, gs.own m.n b → F b := fun b hb => (hF b).2 hb
            have fin : ∀ {e w'} {m' : Value → Gm} {outs : Value → List OV}, Arr w D gs m.n m' outs 0 e w' → (∀ r, (m' r).al = true) → (∀ r, ArrR m [] i x (m' r) [] (outE' (outs r))) → ArriveG w D F gs.G m [] i x e w' := fun ha h1 h2 => by
              obtain ⟨v, r, he, hres⟩ := GRes.arr hF' ha h1
              exact .inr ⟨he0, i, rfl, hi', hv, hcl, hlt, v, _, _, _, he, h2 r, hres⟩
            cases hk : (x.k == 3) with
            | false =>
              have hk3 : x.k ≠ 3 := by simpa using hk
              cases hbl : m.blocked i with
              | true =>
                refine (f13_wait w D D0 gs m i x r hg hD hr hsm hv hi' hcl hk hbl (by omega) (by omega)).mono fun e w' ha => ?_
                refine fin ha (fun _ => hal) fun r => ?_
                have := ArrR.wait (N := []) (x := x) r hal hbl
                rw [hk] at this
                exact this
              | false =>
                have hex : ∀ r : Value, ∃ m' o, Runs (.look i (x, r)) m m' o := fun r => (runs_all _ m rfl hb.under hb.done).2.2 i _ hi'
                refine (f13_pass w D D0 gs m i x r (fun r => (hex r).choose) (fun r => (hex r).choose_spec.choose) hg hD hr hsm hv hi' hcl hk hbl (fun D r => ((hex r).choose_spec.choose_spec).to D hal (by omega))).mono fun e w' ha => ?_
                refine fin ha (fun r => ((hex r).choose_spec.choose_spec).fix.2.trans hal) fun r => ?_
                refine ArrR.look r hal hbl ?_
                rw [hk]
                simp only [Bool.false_eq_true, if_false]
                rw [upd_last]
                exact (hex r).choose_spec.choose_spec
            | true =>
              have hk3 : x.k = 3 := by simpa using hk
              cases hbl : m.blocked i with
              | true =>
                refine (f13_waitbar w D D0 gs m i x r hg hD hr hsm hv hi' hcl hk3 (hlt hk3) hD0' hbl (by omega) (by omega)).mono fun e w' ha => ?_
                refine fin ha (fun _ => hal) fun r => ?_
                have := ArrR.wait (N := []) (x := x) r hal hbl
                rw [hk] at this
                exact this
              | false =>
                have hs2 : qsum (m.upd i { m.inp i with last := x.n }) m.n = qsum m m.n := qsum_same (m := m) (i := i) (x := { m.inp i with last := x.n }) rfl m.n
                have hex : ∀ r : Value, ∃ m' o, Runs (.look i (x, r)) (m.upd i { m.inp i with last := x.n }) m' o := fun r => (runs_all _ (m.upd i { m.inp i with last := x.n }) rfl hb.under hb.done).2.2 i _ hi'
                refine (f13_bar w D D0 gs m i x r (fun r => (hex r).choose) (fun r => (hex r).choose_spec.choose) hg hD hr hsm hv hi' hcl hk3 (hlt hk3) hD0' hbl (fun D r => ((hex r).choose_spec.choose_spec).to D hal (by rw [show (m.upd i { m.inp i with last := x.n }).n = m.n from rfl, hs2]; omega))).mono fun e w' ha => ?_
                refine fin ha (fun r => ((hex r).choose_spec.choose_spec).fix.2.trans hal) fun r => ?_
                refine ArrR.look r hal hbl ?_
                rw [hk]
                exact (hex r).choose_spec.choose_spec
          · subst hN
            rw [← noteSum_abs] at hs
            have hD0' : ∀ b, D0 b → ¬ fown gs m.n ns b := fun b hb hh => hD0 b hb ((hF b).2 hh)
            have fin : ∀ {e w'}, FArr w D gs m.n ns (fLook (m.upd i { m.inp i with last := if x.k == 3 then x.n else (m.inp i).last }) (ns.map NoteC.abs) i x).1 (fLook (m.upd i { m.inp i with last := if x.k == 3 then x.n else (m.inp i).last }) (ns.map NoteC.abs) i x).2.1 (fLook (m.upd i { m.inp i with last := if x.k == 3 then x.n else (m.inp i).last }) (ns.map NoteC.abs) i x).2.2 0 e w' → ArriveG w D F gs.G m (ns.map NoteC.abs) i x e w' := fun ha => by
              obtain ⟨v, he, hres⟩ := ha
              exact .inr ⟨he0, i, rfl, hi', hv, hcl, hlt, v, _, _, _, he, .free hal, GRes.free (fun b hb => (hF b).2 hb) hres⟩
            cases hk : (x.k == 3) with
            | false =>
              refine (f13_plain w D D0 gs m ns i x r hg hD hr hD0' hsm hv hi' hcl hk (hb.k hal) (by omega)).mono fun e w' ha => fin ?_
              rw [hk]
              simp only [Bool.false_eq_true, if_false]
              rw [upd_last]
              exact ha
            | true =>
              have hk3 : x.k = 3 := by simpa using hk
              refine (f13_barr w D D0 gs m ns i x r hg hD hr hD0' hsm hv hi' hcl hk3 (hlt hk3) (hb.k hal) (by omega)).mono fun e w' ha => fin ?_
              rw [hk]
              exact ha
end Go.Proofs.Ytdnkfgnjeibjeaa.W

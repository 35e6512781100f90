import Derived.Test.YtdnkfgnjeibjeaaJB
namespace Go.Proofs.Ytdnkfgnjeibjeaa.W
open Go.RowKit Go.Shelf

/-- 'looked' of the free kind. -/
def fLook (m : Gm) (N : List Note) (i : Nat) (e : Elem) : Gm × List Note × List (Nat × Elem) :=
  if e.k == 3 then
    if e.n ≤ m.done ∨ (0 < m.under ∧ e.n < m.under) then (m, N, [])
    else if 0 < m.under ∧ m.under < e.n then ((fBegin m.ends (N.filter (fun y => y.1 != m.under)) i e.n).1, (fBegin m.ends (N.filter (fun y => y.1 != m.under)) i e.n).2, [(i, barE e.n)])
    else if m.under = 0 then ((fBegin m N i e.n).1, (fBegin m N i e.n).2, [(i, barE e.n)])
    else ((fWhole (m.upd i (m.inp i).send) N).1, (fWhole (m.upd i (m.inp i).send) N).2, [])
  else (m, if noting m i then noteAdd N m.under (i, e) else N, [(i, e)])

theorem f44_free (w : World) (D : Nat → Prop) (i : Nat) (e : Elem) (r : Value) (gs : GS) (m : Gm) (ns : List NoteC) (h : FreeAt w D gs m ns) (hD : ∀ b, D b → b < w.heap.size) (hr : RowAt w D r e.row) (hi : i < m.n) (hok : KOk m (ns.map NoteC.abs))
    (hsm : e.row.length ≤ 1000000) (hlen : noteSum ns ≤ 1000000) :
    Calls Try.prog 44 #[.pointer (some ⟨gs.G, 0, none⟩), .int .i64 i, ev e r] w (FGives w D gs m.n ns (fLook m (ns.map NoteC.abs) i e).1 (fLook m (ns.map NoteC.abs) i e).2.1 (fLook m (ns.map NoteC.abs) i e).2.2) := by
  unfold fLook
  cases hk : (e.k == 3) with
  | true =>
    have hk3 : e.k = 3 := by simpa using hk
    simp only [if_true]
    by_cases h1 : e.n ≤ m.done ∨ (0 < m.under ∧ e.n < m.under)
    · rw [if_pos h1]
      exact f44_drop w D i e r gs m ns h hD hr hk3 h1
    · rw [if_neg h1]
      have hd : m.done < e.n := by omega
      by_cases h2 : 0 < m.under ∧ m.under < e.n
      · rw [if_pos h2]
        exact f44_over w D i e r gs m ns h hD hr hi hk3 hd h2.1 h2.2 hok
      · rw [if_neg h2]
        by_cases h3 : m.under = 0
        · rw [if_pos h3]
          exact f44_first w D i e r gs m ns h hD hr hi hk3 hd h3 hok
        · rw [if_neg h3]
          have := hok.pos
          exact f44_same w D i e r gs m ns h hD hr hi hk3 hd (by omega) (by omega) hok
  | false =>
    simp only [Bool.false_eq_true, if_false]
    cases hno : noting m i with
    | false =>
      simp only [Bool.false_eq_true, if_false]
      exact f44_pass w D i e r gs m ns h hD hr hi hk hno
    | true =>
      simp only [if_true]
      have hu : 0 < m.under := by
        unfold noting at hno
        simpa using (Bool.and_eq_true_iff.1 hno).1
      obtain ⟨y, hy, hyk⟩ := hok.has hu
      obtain ⟨x, hx, rfl⟩ := List.mem_map.1 hy
      refine f44_note w D i e r gs m ns h hD hr hi hk hno hsm x hx hyk ?_
      have hle : ∀ (l : List NoteC), x ∈ l → x.outs.length ≤ noteSum l := by
        intro l
        induction l with
        | nil => intro h; cases h
        | cons z l ih =>
          intro h
          simp only [noteSum, List.map_cons, List.sum_cons] at *
          rcases List.mem_cons.1 h with rfl | h
          · omega
          · have := ih h; omega
      exact Nat.le_trans (hle ns hx) hlen

/-- The gate and the element's box, while 'Arrive' asks. -/
structure FA (w W : World) (D : Nat → Prop) (gs : GS) (n : Nat) (ns : List NoteC) (m : Gm) (x : Elem) (r : Value) : Prop where
  step : FStep w D gs n ns W D gs m ns
  box : W.heap[w.heap.size]? = some (.cells #[.int .i64 x.k, .int .i64 x.n, .int .i64 x.t, r, .int .i64 x.c] 34 (0, 0))

theorem FA.next {w W W' : World} {D : Nat → Prop} {gs : GS} {n : Nat} {ns : List NoteC} {m : Gm} {x : Elem} {r : Value} (h : FA w W D gs n ns m x r) (hb : Below W.heap.size W W') : FA w W' D gs n ns m x r :=
  ⟨h.step.below hb, (hb.block _ (heap_lt h.box)).trans h.box⟩

theorem FA.start {w : World} {D : Nat → Prop} {gs : GS} {ns : List NoteC} {m : Gm} (h : FreeAt w D gs m ns) (hD : ∀ b, D b → b < w.heap.size) (x : Elem) (r : Value) : FA w (w.alloc (.cells #[.int .i64 x.k, .int .i64 x.n, .int .i64 x.t, r, .int .i64 x.c] 34)) D gs m.n ns m x r :=
  ⟨(FStep.refl h hD).below ((Below.refl _ _).alloc (Nat.le_refl _) _), World.alloc_heap_new _ _⟩

/-- The number of the last barrier is noted. -/
theorem FA.lasts {w W : World} {D : Nat → Prop} {gs : GS} {ns : List NoteC} {m : Gm} {x : Elem} {r : Value} (h : FA w W D gs m.n ns m x r) (hlt : ∀ b, gs.own m.n b → b < w.heap.size) {i : Nat} (hi : i < m.n) (k : Int) : FA w (W.setCell ⟨gs.ib i, 0, none⟩ (.int .i64 k)) D gs m.n ns (m.upd i { m.inp i with last := k }) x r := by
  have hg := h.step.gate.gate
  have hh := heap_set (j := 0) (hg.hib i hi) (.int .i64 k)
  have hset := hg.setI (w' := W.setCell ⟨gs.ib i, 0, none⟩ (.int .i64 k)) hi { m.inp i with last := k } rfl (by simpa using hh) (fun b hne => heap_set_ne _ hne)
  have hf := h.step.gate.turn hset rfl rfl h.step.gate.al (emp_upd h.step.gate.emp hi rfl) ((Only.refl _ _).setCell (fun _ => own_ib gs hi) _)
  refine ⟨h.step.same hf rfl rfl (fun _ h => .inl h) ((Only.refl _ _).setCell (fun _ => .inl (own_ib gs hi)) _), (heap_set_ne _ fun e => ?_).trans h.box⟩
  have := hlt _ (own_ib gs hi)
  omega

/-- What 'Arrive' gives. -/
def FArr (w : World) (D : Nat → Prop) (gs : GS) (n : Nat) (ns : List NoteC) (m' : Gm) (N' : List Note) (O : List (Nat × Elem)) (err : Int) (e : Ending) (w' : World) : Prop :=
  ∃ v, e = .returned (.tuple #[v, .int .i64 err]) ∧ FRes w D gs n ns m' N' O v w'

theorem FA.look {w W4 W5 : World} {D : Nat → Prop} {gs : GS} {n : Nat} {ns : List NoteC} {m : Gm} {x : Elem} {r r5 : Value} {i : Nat} (h : FA w W4 D gs n ns m x r) (hb : Below W4.heap.size W4 W5) (hr5 : RowAt W5 (fun b => W4.heap.size ≤ b) r5 x.row) (hi : i < m.n) (hok : KOk m (ns.map NoteC.abs))
    (hsm : x.row.length ≤ 1000000) (hlen : noteSum ns ≤ 1000000) :
    Calls Try.prog 44 #[.pointer (some ⟨gs.G, 0, none⟩), .int .i64 i, ev x r5] W5 fun e w' => ∃ v, e = .returned v ∧ FRes w D gs n ns (fLook m (ns.map NoteC.abs) i x).1 (fLook m (ns.map NoteC.abs) i x).2.1 (fLook m (ns.map NoteC.abs) i x).2.2 v w' := by
  have h5 := h.step.below hb
  have hn : m.n = n := h.step.hn
  have hst : FStep w D gs n ns W5 (fun b => D b ∨ (W4.heap.size ≤ b ∧ b < W5.heap.size)) gs m ns := by
    refine ⟨h5.gate.widen (fun _ h => .inl h) fun b hb' hh => ?_, h5.hn, h5.G, h5.own, fun _ h => .inl h, fun b hb' => ?_, fun b hb' => ?_, h5.only⟩
    · rcases hb' with hb' | hb'
      · exact h5.gate.hD hb' hh
      · have := h.step.gate.lt hh; omega
    · rcases hb' with hb' | hb'
      · exact .inl hb'
      · exact .inr (Nat.le_trans h.step.only.size hb'.1)
    · rcases hb' with hb' | hb'
      · exact h5.d3 b hb'
      · exact hb'.2
  refine (f44_free W5 _ i x r5 gs m ns hst.gate hst.d3 (hr5.imp fun b hl hb' => .inr ⟨hb', hl⟩) hi hok hsm hlen).mono ?_
  rintro e w' ⟨v, he, hres⟩
  rw [hn] at hres
  exact ⟨v, he, hres.from hst⟩
end Go.Proofs.Ytdnkfgnjeibjeaa.W

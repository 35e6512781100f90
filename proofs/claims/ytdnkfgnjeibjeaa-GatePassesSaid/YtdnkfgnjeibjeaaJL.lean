import Derived.Test.YtdnkfgnjeibjeaaJK
namespace Go.Proofs.Ytdnkfgnjeibjeaa.W
open Go.RowKit Go.Shelf

theorem noteSum_abs (ns : List NoteC) : noteSum ns = nSum (ns.map NoteC.abs) := by
  unfold noteSum nSum
  rw [List.map_map]
  congr 1
  refine List.map_congr_left fun y _ => ?_
  simp [NoteC.abs, outE']

/-- The law's state. -/
structure St4 (w2 wr : World) (n G M B1 B2 c : Nat) (col : Nat → Nat) (D : Nat → Prop) (gs : GS) (m : Gm) (ns : List NoteC) (us1 : Nat → Value) (ev1 : Nat → List EV) (qb1 : Nat → Option Nat) (us2 : Nat → Value) (ev2 : Nat → List EV) (qb2 : Nat → Option Nat) (AT : List AtE) (ins : Nat → List Elem) : Prop where
  n4 : N4 w2 wr n G M B1 B2 col D gs m ns us1 ev1 qb1 us2 ev2 qb2 AT (.slice none 0 0) [] none
  pi : PI m (ns.map NoteC.abs) ins (AT.map AtE.abs)
  e1 : ∀ i, i < n → eL (ev1 i) = ins i
  e2 : ∀ i, i < n → eL (ev2 i) = (ins i).filter plainE
  sz : ∀ i, i < n → (ins i).length ≤ c ∧ ∀ x ∈ ins i, x.row.length ≤ 20 ∧ validElem x = true
  cnt : nSum (ns.map NoteC.abs) ≤ c

section
variable {w2 wr w' : World} {n G M B1 B2 c : Nat} {col : Nat → Nat} {D : Nat → Prop} {gs : GS} {m : Gm} {ns : List NoteC} {us1 us2 : Nat → Value} {ev1 ev2 : Nat → List EV} {qb1 qb2 : Nat → Option Nat} {AT : List AtE} {ins : Nat → List Elem}

theorem St4.next (h : St4 w2 wr n G M B1 B2 c col D gs m ns us1 ev1 qb1 us2 ev2 qb2 AT ins) (hb : Below wr.heap.size wr w') : St4 w2 w' n G M B1 B2 c col D gs m ns us1 ev1 qb1 us2 ev2 qb2 AT ins := ⟨h.n4.next hb, h.pi, h.e1, h.e2, h.sz, h.cnt⟩

theorem St4.more (h : St4 w2 wr n G M B1 B2 c col D gs m ns us1 ev1 qb1 us2 ev2 qb2 AT ins) : St4 w2 wr n G M B1 B2 (c + 1) col D gs m ns us1 ev1 qb1 us2 ev2 qb2 AT ins := ⟨h.n4, h.pi, h.e1, h.e2, fun i hi => ⟨Nat.le_succ_of_le (h.sz i hi).1, (h.sz i hi).2⟩, Nat.le_succ_of_le h.cnt⟩

/-- What 'Arrive' gives. -/
def A4 (w2 wr : World) (n G M B1 B2 c : Nat) (us1 : Nat → Value) (ev1 : Nat → List EV) (qb1 : Nat → Option Nat) (us2 : Nat → Value) (ev2 : Nat → List EV) (qb2 : Nat → Option Nat) (AT : List AtE) (ins : Nat → List Elem) (oi : Int) (x : Elem) (e : Ending) (w' : World) : Prop :=
  ∃ v err, e = .returned (.tuple #[v, .int .i64 err]) ∧ wr.heap.size ≤ w'.heap.size ∧
    ((err ≠ 0 ∧ ∃ col D gs m ns, St4 w2 w' n G M B1 B2 c col D gs m ns us1 ev1 qb1 us2 ev2 qb2 AT ins) ∨
     (err = 0 ∧ ∃ (i : Nat) (col : Nat → Nat) (D : Nat → Prop) (gs : GS) (m : Gm) (ns : List NoteC) (outs : List OV) (blk : Option Nat), oi = i ∧ i < n ∧ N4 w2 w' n G M B1 B2 col D gs m ns us1 ev1 qb1 us2 ev2 qb2 AT v outs blk ∧ validElem x = true ∧
        PI m (ns.map NoteC.abs) (pushL ins i x) (AT.map AtE.abs ++ ((outE' outs).filter (fun o => !plainE o.2)).map fun o => (o.2.n, gotL n ins)) ∧ nSum (ns.map NoteC.abs) ≤ c + 1 ∧
        ((outE' outs = [] ∧ plainE x = false) ∨ (outE' outs = [(i, x)] ∧ plainE x = true) ∨ (outE' outs = [(i, barE x.n)] ∧ plainE x = false ∧ ∀ e ∈ AT, e.k < x.n))))

theorem A4.no {err : Int} {e : Ending} {x : Elem} {oi : Int} (h : St4 w2 wr n G M B1 B2 c col D gs m ns us1 ev1 qb1 us2 ev2 qb2 AT ins) (he : e = .returned (.tuple #[.slice none 0 0, .int .i64 err])) (h0 : err ≠ 0) (hb : Below wr.heap.size wr w') : A4 w2 wr n G M B1 B2 c us1 ev1 qb1 us2 ev2 qb2 AT ins oi x e w' :=
  ⟨_, err, he, hb.size, .inl ⟨h0, col, D, gs, m, ns, h.next hb⟩⟩

theorem A4.yes {e : Ending} {x : Elem} {i : Nat} (h : St4 w2 wr n G M B1 B2 c col D gs m ns us1 ev1 qb1 us2 ev2 qb2 AT ins) (hi : i < n) (hv : validElem x = true) (m1 : Gm) (hm1 : m1 = if x.k == 3 then m.upd i { m.inp i with last := x.n } else m)
    (ha : FArr wr D gs n ns (fLook m1 (ns.map NoteC.abs) i x).1 (fLook m1 (ns.map NoteC.abs) i x).2.1 (fLook m1 (ns.map NoteC.abs) i x).2.2 0 e w') : A4 w2 wr n G M B1 B2 c us1 ev1 qb1 us2 ev2 qb2 AT ins i x e w' := by
  obtain ⟨v, he, hr⟩ := ha
  obtain ⟨col', D', gs', ns', outs', blk', hN, hns, hO, hsz⟩ := h.n4.arr hr
  have hn := h.n4.hn
  obtain ⟨p1, p2, p3⟩ := h.pi.arrive (by rw [hn]; exact hi) x m1 hm1
  have hkeys : (ns.map NoteC.abs).Pairwise fun x y => x.1 ≠ y.1 := by
    rw [List.pairwise_map]
    exact h.n4.gate.keys
  have hc := nSum_look hkeys m1 i x
  have hcnt := h.cnt
  refine ⟨v, 0, he, hsz, .inr ⟨rfl, i, col', D', gs', _, ns', outs', blk', rfl, hi, hN, hv, ?_, ?_, ?_⟩⟩
  · rw [hns, hO, ← hn]; exact p1
  · rw [hns]; omega
  · rw [hO]
    refine p3.imp id fun p3 => p3.imp id fun p3 => ⟨p3.1, p3.2.1, fun e he => ?_⟩
    exact p3.2.2 _ (List.mem_map.2 ⟨e, he, rfl⟩)

theorem arrive4 (h : St4 w2 wr n G M B1 B2 c col D gs m ns us1 ev1 qb1 us2 ev2 qb2 AT ins) (hc : c ≤ 400) (x : Elem) (r : Value) (hr : RowAt wr (fun b => b < w2.heap.size) r x.row) (hsm : x.row.length ≤ 1000000) (oi : Int) :
    Calls Try.prog 13 #[.pointer (some ⟨G, 0, none⟩), .int .i64 oi, ev x r] wr (A4 w2 wr n G M B1 B2 c us1 ev1 qb1 us2 ev2 qb2 AT ins oi x) := by
  have hG := h.n4.hG
  have hn := h.n4.hn
  have hg := h.n4.gate
  have hcnt := h.cnt
  rw [← noteSum_abs] at hcnt
  subst hG
  have hD0 : ∀ b, b < w2.heap.size → ¬ fown gs m.n ns b := fun b hb ho => by
    have e1 := h.n4.c0 b hb
    have e2 := h.n4.cF b (by rw [← hn]; exact ho)
    rw [e1] at e2; cases e2
  cases hv : validElem x with
  | false => exact (f13_inv wr _ _ oi x r hr hv).mono fun e w' ⟨he, hb⟩ => A4.no h he (by decide) hb
  | true =>
    by_cases hi : oi < 0 ∨ (m.n : Int) ≤ oi
    · exact (f13_rng wr D _ gs m hg.gate oi x r hr hv hi).mono fun e w' ⟨he, hb⟩ => A4.no h he (by decide) hb
    · obtain ⟨i, rfl⟩ : ∃ i : Nat, oi = i := ⟨oi.toNat, by omega⟩
      have hi' : i < m.n := by omega
      have hcl := h.pi.closed i hi'
      cases hk : (x.k == 3) with
      | false =>
        refine (f13_plain wr D _ gs m ns i x r hg h.n4.hD hr hD0 hsm hv hi' hcl hk h.pi.kok (by omega)).mono fun e w' ha => ?_
        rw [hn] at ha
        exact A4.yes h (by omega) hv m (by rw [hk]; rfl) ha
      | true =>
        have hk3 : x.k = 3 := by simpa using hk
        by_cases hl : x.n ≤ (m.inp i).last
        · exact (f13_old wr D _ gs m i x r ns hg h.n4.hD hr hv hi' hcl hk3 hl).mono fun e w' ⟨he, hb⟩ => A4.no h he (by decide) hb
        · refine (f13_barr wr D _ gs m ns i x r hg h.n4.hD hr hD0 hsm hv hi' hcl hk3 (by omega) h.pi.kok (by omega)).mono fun e w' ha => ?_
          rw [hn] at ha
          exact A4.yes h (by omega) hv _ (by rw [hk]; rfl) ha
end

theorem LA.rowsNil {wr : World} {n B o cap : Nat} {us : Nat → Value} {qb : Nat → Option Nat} {D D' : Nat → Prop} (h : LA wr n B o cap us (fun _ => []) qb D) (hD : ∀ b, D' b → b < wr.heap.size ∧ ¬ lown n B qb b) : LA wr n B o cap us (fun _ => []) qb D' :=
  ⟨h.arr, h.own, fun i hi p hp => (by cases hp), h.inj, fun b hb => ⟨(hD b hb).1, fun e => (hD b hb).2 (.inl e), fun i hi e => (hD b hb).2 (.inr ⟨i, hi, e⟩)⟩⟩

theorem toW {w : World} {D : Nat → Prop} {g : Go.Proofs.Ytdnkfgnjeibjeaa.GS} {m : Gm} (h : Go.Proofs.Ytdnkfgnjeibjeaa.GateAt w D g m) : GateAt w D ⟨g.G, g.arr, g.cap, g.map, g.clock, #[], g.ib, g.qv, g.qb⟩ m :=
  ⟨h.pos, h.le, h.hG, h.harr, h.hib, h.inj, h.hq, h.qinj, h.hrow, h.hD, h.hmap⟩

theorem f12_f (w : World) (n : Nat) (h1 : 1 ≤ n) (h2 : n ≤ 200) :
    Calls Try.prog 12 #[.int .i64 n, .bool false] w fun e w' => ∃ G, e = .returned (.tuple #[.pointer (some ⟨G, 0, none⟩), .int .i64 0]) ∧ ∃ gs, FreeAt w' NoB gs (Gm.new n false) [] ∧ gs.G = G ∧ (∀ b, fown gs n [] b → w.heap.size ≤ b) ∧ Below w.heap.size w w' := by
  refine (f12_ok w n false h1 h2).mono ?_
  rintro e w' ⟨he, v, ib, hN⟩
  obtain ⟨gs, hG, hg, ho⟩ := hN.gate h1 h2 NoB (fun b hb => hb.elim)
  refine ⟨_, he, _, ⟨toW hg, rfl, fun i _ => rfl, rfl, fun x hx => (by cases hx), fun x hx => (by cases hx), List.Pairwise.nil, fun b hb => hb.elim⟩, hG, fun b hb => ?_, hN.below⟩
  rcases hb with hb | ⟨x, hx, _⟩
  · exact ho b hb
  · cases hx

theorem PI.new (n : Nat) : PI (Gm.new n false) [] (fun _ => []) [] := by
  refine ⟨⟨Int.le_refl _, fun h => absurd h (by show ¬ (0 : Int) < 0; omega), fun y hy => (by cases hy), Int.le_refl _⟩, fun h => absurd h (by show ¬ (0 : Int) < 0; omega), fun i _ => rfl, fun i _ x hx => (by cases hx), fun y hy => (by cases hy), fun y hy => (by cases hy), fun y hy => (by cases hy), fun h => absurd h (by show ¬ (0 : Int) < 0; omega), fun h => absurd h (by show ¬ (0 : Int) < 0; omega), fun _ i _ => rfl, fun e he => (by cases he)⟩

theorem St4.start {w w' : World} {n G : Nat} {gs : GS} (hn : n ≤ 1000000) (hg : FreeAt w' NoB gs (Gm.new n false) []) (hG : gs.G = G) (ho : ∀ b, fown gs n [] b → w.heap.size ≤ b) (hb : Below w.heap.size w w') :
    ∃ col, St4 w (((w'.alloc (.cells (madeCells #[.slice none 0 0] n) 49)).alloc (.cells (madeCells #[.slice none 0 0] n) 49)).alloc (.map #[] 0)) n G (w'.heap.size + 2) w'.heap.size (w'.heap.size + 1) 0 col NoB gs (Gm.new n false) [] (fun _ => .slice none 0 0) (fun _ => []) (fun _ => none) (fun _ => .slice none 0 0) (fun _ => []) (fun _ => none) [] (fun _ => []) := by
  have hsz := hb.size
  have b1 : Below w'.heap.size w' (w'.alloc (.cells (madeCells #[.slice none 0 0] n) 49)) := (Below.refl _ _).alloc (Nat.le_refl _) _
  have z1 : (w'.alloc (.cells (madeCells #[.slice none 0 0] n) 49)).heap.size = w'.heap.size + 1 := by simp
  have l1 := LA.make w' n hn
  generalize w'.alloc (.cells (madeCells #[.slice none 0 0] n) 49) = u1 at b1 z1 l1 ⊢
  have b2 : Below u1.heap.size u1 (u1.alloc (.cells (madeCells #[.slice none 0 0] n) 49)) := (Below.refl _ _).alloc (Nat.le_refl _) _
  have z2 : (u1.alloc (.cells (madeCells #[.slice none 0 0] n) 49)).heap.size = w'.heap.size + 2 := by simp [z1]
  have l2 := LA.make u1 n hn
  rw [z1] at l2
  generalize u1.alloc (.cells (madeCells #[.slice none 0 0] n) 49) = u2 at b2 z2 l2 ⊢
  have b3 : Below u2.heap.size u2 (u2.alloc (.map #[] 0)) := (Below.refl _ _).alloc (Nat.le_refl _) _
  have hm := World.alloc_heap_new u2 (.map #[] 0)
  have z3 : (u2.alloc (.map #[] 0)).heap.size = w'.heap.size + 3 := by simp [z2]
  rw [z2] at hm
  generalize u2.alloc (.map #[] 0) = u3 at b3 hm z3 ⊢
  have b12 : Below w'.heap.size w' u3 := (b1.trans (b2.mono (by omega))).trans (b3.mono (by omega))
  have hfl : ∀ b, fown gs n [] b → b < w'.heap.size := fun b hb => hg.lt hb
  refine ⟨fun b => if b < w.heap.size then 0 else if b < w'.heap.size then 1 else if b = w'.heap.size then 2 else if b = w'.heap.size + 1 then 3 else if b = w'.heap.size + 2 then 4 else 6, ⟨⟨hg.below b12, hG, rfl, fun b hb => hb.elim, ?_, ?_, ⟨0, hm⟩, fun e he => (by cases he), SlOwn.nil _ _ _, fun o ho => (by cases ho), fun b hb => if_pos hb, fun b hb => ?_, fun b hb => ?_, fun b hb => ?_, ?_, fun b hb => hb.elim, fun b hb => (by cases hb), hb.trans (b12.mono hsz)⟩, PI.new n, fun i _ => rfl, fun i _ => rfl, fun i _ => ⟨Nat.le_refl _, fun x hx => (by cases hx)⟩, Nat.le_refl _⟩⟩
  · exact ((l1.below b2).below b3).keep (Nat.le_refl _) (fun _ _ _ => rfl) |>.rowsNil fun b hb => ⟨by omega, fun hl => by
      rcases hl with hl | ⟨i, _, hl⟩
      · omega
      · cases hl⟩
  · exact (l2.below b3).rowsNil fun b hb => hb.elim
  · have h1 := ho b hb
    have h2 := hfl b hb
    simp only [if_neg (show ¬ b < w.heap.size by omega), if_pos h2]
  · rcases hb with hb | ⟨i, _, hb⟩
    · subst hb
      simp only [if_neg (show ¬ w'.heap.size < w.heap.size by omega), if_neg (show ¬ w'.heap.size < w'.heap.size by omega), if_true]
    · cases hb
  · rcases hb with hb | ⟨i, _, hb⟩
    · subst hb
      simp only [if_neg (show ¬ w'.heap.size + 1 < w.heap.size by omega), if_neg (show ¬ w'.heap.size + 1 < w'.heap.size by omega), if_neg (show ¬ w'.heap.size + 1 = w'.heap.size by omega), if_true]
    · cases hb
  · simp only [if_neg (show ¬ w'.heap.size + 2 < w.heap.size by omega), if_neg (show ¬ w'.heap.size + 2 < w'.heap.size by omega), if_neg (show ¬ w'.heap.size + 2 = w'.heap.size by omega), if_neg (show ¬ w'.heap.size + 2 = w'.heap.size + 1 by omega), if_true]
end Go.Proofs.Ytdnkfgnjeibjeaa.W

import Derived.Test.YtdnkfgnjeibjeaaJ9
namespace Go.Proofs.Ytdnkfgnjeibjeaa.W
open Go.RowKit Go.Shelf

theorem GateAt.sendAt {w : World} {D : Nat → Prop} {gs : GS} {m : Gm} (h : GateAt w D gs m) {i : Nat} (hi : i < m.n) : GateAt (w.setCell ⟨gs.ib i, 3, none⟩ (.bool true)) D gs (m.upd i (m.inp i).send) := by
  refine h.setI hi (m.inp i).send rfl ?_ (fun b hne => heap_set_ne _ hne)
  have hh := heap_set (j := 3) (h.hib i hi) (.bool true)
  simpa [Inp.send] using hh

theorem GateAt.underAt {w : World} {D : Nat → Prop} {gs : GS} {m : Gm} (h : GateAt w D gs m) (u : Int) : GateAt (w.setCell ⟨gs.G, 2, none⟩ (.int .i64 u)) D gs { m with under := u } := by
  refine h.setG u m.done ?_ (fun b hne => heap_set_ne _ hne)
  have hh := heap_set (j := 2) h.hG (.int .i64 u)
  simpa using hh

theorem emp_upd {m : Gm} (hem : ∀ i, i < m.n → (m.inp i).queue = []) {i : Nat} (hi : i < m.n) {x : Inp} (hx : x.queue = (m.inp i).queue) : ∀ j, j < (m.upd i x).n → ((m.upd i x).inp j).queue = [] := fun j hj => by
  by_cases e : j = i
  · subst e; simp [Gm.upd, hx, hem j hi]
  · have := hem j hj
    simpa [Gm.upd, e] using this

theorem FreeAt.sendAt {w : World} {D : Nat → Prop} {gs : GS} {m : Gm} {ns : List NoteC} (h : FreeAt w D gs m ns) {i : Nat} (hi : i < m.n) : FreeAt (w.setCell ⟨gs.ib i, 3, none⟩ (.bool true)) D gs (m.upd i (m.inp i).send) ns :=
  h.turn (h.gate.sendAt hi) rfl rfl h.al (emp_upd h.emp hi rfl) ((Only.refl _ _).setCell (fun _ => own_ib gs hi) _)

theorem FreeAt.underAt {w : World} {D : Nat → Prop} {gs : GS} {m : Gm} {ns : List NoteC} (h : FreeAt w D gs m ns) (u : Int) : FreeAt (w.setCell ⟨gs.G, 2, none⟩ (.int .i64 u)) D gs { m with under := u } ns :=
  h.turn (h.gate.underAt u) rfl rfl h.al h.emp ((Only.refl _ _).setCell (fun _ => own_G gs _) _)

/-- Two slices of what passed, put together. -/
theorem FRes.app {w W W4 : World} {D D1 : Nat → Prop} {gs gs1 : GS} {n : Nat} {ns ns1 : List NoteC} {m1 : Gm} {outs1 outs2 : List OV} {v4 : Value} {bk1 bk4 : Option Nat} (h : FStep w D gs n ns W D1 gs1 m1 ns1)
    (hbk : ∀ g, bk1 = some g → w.heap.size ≤ g ∧ ¬ fown gs1 n ns1 g ∧ ¬ D1 g) (hr1 : ∀ o ∈ outs1, RowAt W D1 o.2.2 o.2.1.row) (hr2 : ∀ o ∈ outs2, RowAt W D1 o.2.2 o.2.1.row)
    (hgr : W.grownBy W4 bk1) (h4 : SlOwn W4 44 6 v4 (outs1.length + outs2.length) (outs1.flatMap ocl ++ outs2.flatMap ocl) bk4) (hat : bk4 = bk1 ∨ bk4 = some W.heap.size) :
    FRes w D gs n ns m1 (ns1.map NoteC.abs) (outE' (outs1 ++ outs2)) v4 W4 := by
  have hkeep : ∀ b, b < W.heap.size → fown gs1 n ns1 b ∨ D1 b → W4.heap[b]? = W.heap[b]? := fun b hl hb => hgr.block b hl fun e => by
    have := hbk b e.symm
    rcases hb with hb | hb
    · exact this.2.1 hb
    · exact this.2.2 hb
  have hn : m1.n = n := h.hn
  have hst : FStep w D gs n ns W4 D1 gs1 m1 ns1 :=
    ⟨h.gate.hold fun b hl hb => hkeep b hl (by rw [hn] at hb; exact hb), h.hn, h.G, h.own, h.d1, h.d2, fun b hb => Nat.lt_of_lt_of_le (h.d3 b hb) hgr.size, h.only.grown hgr fun k hk hl => by have := (hbk k hk).1; omega⟩
  refine ⟨D1, gs1, ns1, outs1 ++ outs2, bk4, hst, rfl, rfl, by simpa using h4, fun g hg => ?_, fun o ho => ?_⟩
  · rcases hat with e | e
    · exact hbk g (e ▸ hg)
    · rw [hg] at e; injection e with e
      subst e
      refine ⟨h.only.size, fun hh => ?_, fun hh => ?_⟩
      · have := h.gate.lt (b := W.heap.size) (by rw [hn]; exact hh); omega
      · have := h.d3 _ hh; omega
  · have hrow : ∀ {r row}, RowAt W D1 r row → RowAt W4 D1 r row := fun hx => hx.keep fun b hb hl => hkeep b hl (.inr hb)
    rcases List.mem_append.1 ho with ho | ho
    · exact hrow (hr1 o ho)
    · exact hrow (hr2 o ho)

def fBegin (m : Gm) (N : List Note) (i : Nat) (k : Int) : Gm × List Note := fWhole (Gm.upd { m with under := k } i (m.inp i).send) (N ++ [(k, [], false)])

theorem KOk.send {m : Gm} {N : List Note} (h : KOk m N) (i : Nat) (x : Inp) : KOk (m.upd i x) N := ⟨h.pos, h.has, h.le, h.dpos⟩

theorem KOk.begin {m : Gm} {N : List Note} (h : KOk m N) (h0 : m.under = 0) {k : Int} (hk : m.done < k) (i : Nat) (x : Inp) : KOk (Gm.upd { m with under := k } i x) (N ++ [(k, [], false)]) := by
  have := h.dpos
  refine ⟨by show 0 ≤ k; omega, fun _ => ⟨_, List.mem_append_right _ (List.mem_singleton.2 rfl), rfl⟩, fun y hy => ?_, h.dpos⟩
  rcases List.mem_append.1 hy with hy | hy
  · rcases h.le y hy with e | e
    · exact .inl e
    · omega
  · rw [List.mem_singleton] at hy; subst hy
    exact .inr ⟨by show 0 < k; omega, rfl⟩

theorem KOk.gone {m : Gm} {N : List Note} (h : KOk m N) : KOk m.ends (N.filter (fun y => y.1 != m.under)) := by
  refine ⟨Int.le_refl _, fun hh => absurd hh (by show ¬ (0 : Int) < 0; omega), fun y hy => ?_, ?_⟩
  · obtain ⟨hy, hne⟩ := List.mem_filter.1 hy
    have hne' : y.1 ≠ m.under := by simpa using hne
    refine .inl ?_
    show y.1 ≤ max m.done m.under
    rcases h.le y hy with e | e
    · omega
    · exact absurd e.2 hne'
  · show 0 ≤ max m.done m.under
    have := h.dpos; omega

theorem outE_nil {outs : List OV} (h : outE' outs = []) : outs = [] := List.map_eq_nil_iff.1 h

theorem noteOf_none {m : Gm} {ns : List NoteC} (h : KOk m (ns.map NoteC.abs)) (h0 : m.under = 0) {k : Int} (hk : m.done < k) : noteOf ns k = none := by
  unfold noteOf
  refine List.find?_eq_none.2 fun x hx => ?_
  have := h.le _ (List.mem_map.2 ⟨x, hx, rfl⟩)
  have e : x.abs.1 = x.k := rfl
  rw [e] at this
  simp only [beq_iff_eq]
  omega

section walks
set_option maxHeartbeats 1000000
set_option maxRecDepth 100000

theorem f44_drop (w : World) (D : Nat → Prop) (i : Nat) (e : Elem) (r : Value) (gs : GS) (m : Gm) (ns : List NoteC) (h : FreeAt w D gs m ns) (hD : ∀ b, D b → b < w.heap.size) (hr : RowAt w D r e.row) (hk : e.k = 3) (hd : e.n ≤ m.done ∨ (0 < m.under ∧ e.n < m.under)) :
    Calls Try.prog 44 #[.pointer (some ⟨gs.G, 0, none⟩), .int .i64 i, ev e r] w (FGives w D gs m.n ns m (ns.map NoteC.abs) []) := by
  obtain ⟨k, kn, t, row, c⟩ := e
  dsimp only at hk hd
  subst hk
  obtain ⟨ra, rc, hv, _⟩ := hr
  dsimp only at hv
  subst hv
  have hb0 : Below w.heap.size w (w.alloc (Obj.cells #[.int .i64 3, .int .i64 kn, .int .i64 t, .slice ra row.length rc, .int .i64 c] 34)) := (Below.refl _ _).alloc (Nat.le_refl _) _
  have hst := (FStep.refl h hD).below hb0
  have HS := Lib.hid hst
  obtain ⟨g0, g1, g2, g3, g4, gf⟩ := h.gate.cells
  have hG := h.gate.lt (own_G gs m.n)
  clear h hst hb0
  go_enter Try.func44, Try.ntmps44
  rcases Int.lt_or_le m.done kn with h1 | h1
  · obtain ⟨h2, h3⟩ := hd.resolve_left (by omega)
    go_wp2_with fail
    go_ret
    exact ⟨_, rfl, FRes.nil HS.out⟩
  · go_wp2_with fail
    go_ret
    exact ⟨_, rfl, FRes.nil HS.out⟩

/-- A barrier that is the one under way. -/
theorem f44_same (w : World) (D : Nat → Prop) (i : Nat) (e : Elem) (r : Value) (gs : GS) (m : Gm) (ns : List NoteC) (h : FreeAt w D gs m ns) (hD : ∀ b, D b → b < w.heap.size) (hr : RowAt w D r e.row) (hi : i < m.n) (hk : e.k = 3) (hd : m.done < e.n) (hu : e.n = m.under) (hu0 : 0 < m.under) (hok : KOk m (ns.map NoteC.abs)) :
    Calls Try.prog 44 #[.pointer (some ⟨gs.G, 0, none⟩), .int .i64 i, ev e r] w (FGives w D gs m.n ns (fWhole (m.upd i (m.inp i).send) (ns.map NoteC.abs)).1 (fWhole (m.upd i (m.inp i).send) (ns.map NoteC.abs)).2 []) := by
  obtain ⟨k, kn, t, row, c⟩ := e
  dsimp only at hk hd hu
  subst hk hu
  obtain ⟨ra, rc, hv, _⟩ := hr
  dsimp only at hv
  subst hv
  obtain ⟨i0, hi0, hz0, hz1, hz2⟩ := info_parts info44
  obtain ⟨g0, g1, g2, g3, g4, gf⟩ := h.gate.cells
  obtain ⟨ia, x0, x1, x2, x3, x4, xf⟩ := h.gate.icells hi
  have l1 := h.gate.lt (own_G gs m.n)
  have l2 := h.gate.lt (own_ib gs hi)
  have l3 : gs.arr < w.heap.size := h.gate.lt (.inr (.inl rfl))
  have hst : ∀ o : Obj, FStep w D gs m.n ns ((w.setCell ⟨gs.ib i, 3, none⟩ (.bool true)).alloc o) D gs (m.upd i (m.inp i).send) ns := fun o =>
    (((FStep.refl h hD).same (h.sendAt hi) rfl rfl (fun _ h => .inl h) ((Only.refl _ _).setCell (fun _ => .inl (own_ib gs hi)) _)).below ((Below.refl _ _).alloc (Nat.le_refl _) o))
  have hc := fun o => f53_free _ D i gs _ ns (hst o).gate (hst o).d3 (hok.send i _)
  have HC := Lib.hid hc
  have HS := Lib.hid hst
  clear hc hst h hD hok
  have j1 : (0 : Int) ≤ (i : Int) := by omega
  have j2 : (i : Int) < (m.n : Int) := by omega
  go_enter Try.func44, Try.ntmps44
  go_wp2_with (first
    | (go_at_call 53; refine (HC.out _).mono ?_; rintro e w3 ⟨v3, rfl, D3, gs3, ns3, outs3, bk3, hs3, hN3, hO3, ho3, hb3, hr3⟩; have he3 := outE_nil hO3; subst he3; clear hO3; have HN3 := Lib.hid hN3; have HS3 := Lib.hid hs3; clear hN3 hs3)
    | (at_builtin; refine wpList_append_S rfl (.tmp 143) (.tmp 146) 37 rfl 44 i0 _ 6 64 Try.underlying37 hi0 hz0 hz1 hz2 rfl (by omega) (.slice none 0 0) 0 [] none rfl (SlOwn.nil _ _ _) v3 0 [] rfl ho3.src (fun u hu => by cases hu) (by simp [maxLen]) (by omega) ?_; intro v4 w4 bk4 hown4 hgrow4 hat4))
  go_ret
  rw [← HN3.out]
  exact ⟨_, rfl, FRes.app (outs1 := []) (outs2 := []) (bk1 := none) ((HS.out _).trans HS3.out) (fun g hg => by cases hg) (fun o ho => by cases ho) (fun o ho => by cases ho) hgrow4 hown4 hat4⟩

def barE (k : Int) : Elem := { k := 3, n := k, t := 0, row := [], c := 0 }

theorem f120_free (w : World) (D : Nat → Prop) (gs : GS) (m : Gm) (ns : List NoteC) (h : FreeAt w D gs m ns) (hD : ∀ b, D b → b < w.heap.size) (k : Int) (i : Nat) (hno : noteOf ns k = none) :
    Calls Try.prog 120 #[.agg #[], .pointer (some ⟨gs.G, 0, none⟩), .int .i64 k, .int .i64 i] w fun e w' => ∃ v blk gs' ns', e = .returned v ∧ SlOwn w' 44 6 v 1 ([(i, bar k)].flatMap ocl) blk ∧ (∀ g, blk = some g → w.heap.size ≤ g ∧ ¬ fown gs' m.n ns' g ∧ ¬ D g) ∧
      FStep w D gs m.n ns w' D gs' m ns' ∧ ns'.map NoteC.abs = ns.map NoteC.abs ++ [(k, [], false)] := by
  refine (f120_any _ gs _ h.gate k i h.pairs (keyAt_none_iff.2 hno)).mono ?_
  rintro e w1 ⟨v1, bk1, rfl, ho1, hb1, hg1, hbox1, hon1⟩
  have hf1 := h.add hD hno (Nat.le_succ _) hbox1 hg1 hon1
  refine ⟨v1, bk1, _, _, rfl, ho1, fun g hg => ⟨by have := hb1 g hg; omega, fun hh => ?_, fun hh => ?_⟩, (FStep.refl h hD).same hf1 rfl rfl (fun b hb => ?_) (hon1.mono fun b _ hb => .inl (.inr (.inr (.inl hb)))), ?_⟩
  · have hgt := hb1 g hg
    rcases hh with hh | ⟨z, hz, hh⟩
    · have := h.gate.lt (b := g) hh; omega
    · rcases List.mem_append.1 hz with hz | hz
      · have := (h.notes z hz).lt hh; omega
      · rw [List.mem_singleton] at hz; subst hz
        rcases hh with hh | hh
        · have hh' : g = w.heap.size + 1 := hh
          omega
        · cases hh
  · have := hb1 g hg; have := hD g hh; omega
  · rcases hb with hb | ⟨z, hz, hb⟩
    · exact .inl (.inl hb)
    · rcases List.mem_append.1 hz with hz | hz
      · exact .inl (.inr ⟨z, hz, hb⟩)
      · rw [List.mem_singleton] at hz; subst hz
        rcases hb with hb | hb
        · have hb' : b = w.heap.size + 1 := hb
          exact .inr (by omega)
        · cases hb
  · rw [List.map_append]; rfl

/-- The first of a barrier. -/
theorem f44_first (w : World) (D : Nat → Prop) (i : Nat) (e : Elem) (r : Value) (gs : GS) (m : Gm) (ns : List NoteC) (h : FreeAt w D gs m ns) (hD : ∀ b, D b → b < w.heap.size) (hr : RowAt w D r e.row) (hi : i < m.n) (hk : e.k = 3) (hd : m.done < e.n) (hu0 : m.under = 0) (hok : KOk m (ns.map NoteC.abs)) :
    Calls Try.prog 44 #[.pointer (some ⟨gs.G, 0, none⟩), .int .i64 i, ev e r] w (FGives w D gs m.n ns (fBegin m (ns.map NoteC.abs) i e.n).1 (fBegin m (ns.map NoteC.abs) i e.n).2 [(i, barE e.n)]) := by
  obtain ⟨k, kn, t, row, c⟩ := e
  dsimp only at hk hd
  subst hk
  obtain ⟨ra, rc, hv, _⟩ := hr
  dsimp only at hv
  subst hv
  obtain ⟨i0, hi0, hz0, hz1, hz2⟩ := info_parts info44
  obtain ⟨g0, g1, g2, g3, g4, gf⟩ := h.gate.cells
  rw [h.al] at g1
  simp only [howV, Bool.false_eq_true, if_false] at g1
  rw [hu0] at g2
  have l1 := h.gate.lt (own_G gs m.n)
  have hst : ∀ o : Obj, FStep w D gs m.n ns ((w.setCell ⟨gs.G, 2, none⟩ (.int .i64 kn)).alloc o) D gs { m with under := kn } ns := fun o =>
    (((FStep.refl h hD).same (h.underAt kn) rfl rfl (fun _ h => .inl h) ((Only.refl _ _).setCell (fun _ => .inl (own_G gs _)) _)).below ((Below.refl _ _).alloc (Nat.le_refl _) o))
  have hc := fun o => f120_free _ D gs _ ns (hst o).gate (hst o).d3 kn i (noteOf_none hok hu0 hd)
  have hok1 := fun x => hok.begin hu0 hd i x
  have HC := Lib.hid hc
  have HS := Lib.hid hst
  have HOK := Lib.hid hok1
  clear hc hst h hD hok hok1
  have j1 : (0 : Int) ≤ (i : Int) := by omega
  have j2 : (i : Int) < (m.n : Int) := by omega
  go_enter Try.func44, Try.ntmps44
  go_wp2_with (first
    | (go_at_call 120; refine (HC.out _).mono ?_; rintro e w1 ⟨v1, bk1, gs1, ns1, rfl, ho1, hb1, hs1, hN1⟩
       have hs1' := (HS.out (Obj.cells #[.int .i64 3, .int .i64 kn, .int .i64 t, .slice ra row.length rc, .int .i64 c] 34)).trans hs1
       have hG1 : gs1.G = gs.G := hs1'.G
       obtain ⟨g0', g1', g2', g3', g4', gf'⟩ := hs1'.gate.gate.cells
       obtain ⟨ia, x0, x1, x2, x3, x4, xf⟩ := hs1'.gate.gate.icells hi
       rw [hG1] at g0' g1' g2' g3' g4' gf'
       have hs2 := hs1'.same (hs1'.gate.sendAt hi) rfl rfl (fun _ h => .inl h) ((Only.refl _ _).setCell (fun _ => .inl (own_ib gs1 hi)) _)
       have hc := f53_free _ D i gs1 _ ns1 hs2.gate hs2.d3 (by rw [hN1]; exact HOK.out _)
       rw [hG1] at hc
       have ho2 := ho1.keep (w' := w1.setCell ⟨gs1.ib i, 3, none⟩ (.bool true)) fun g hg => heap_set_ne _ (fun e => (hb1 g hg).2.1 (.inl (e ▸ own_ib gs1 hi)))
       have HC1 := Lib.hid hc; have HS2 := Lib.hid hs2; have HO2 := Lib.hid ho2; have HB1 := Lib.hid hb1; have HN1 := Lib.hid hN1
       clear hc hs2 ho2 hb1 hN1 ho1 hs1 hs1' hG1)
    | (go_at_call 53; refine HC1.out.mono ?_; rintro e w3 ⟨v3, rfl, D3, gs3, ns3, outs3, bk3, hs3, hN3, hO3, ho3, hb3, hr3⟩
       have he3 := outE_nil hO3; subst he3; clear hO3
       have ho23 := HO2.out.keep (w' := w3) fun g hg => hs3.only.block g (HO2.out.lt_of hg) (HB1.out g hg).2.1
       obtain ⟨a1, c1, rfl⟩ := ho23.form
       have HN3 := Lib.hid hN3; have HS3 := Lib.hid hs3; clear hN3 hs3)
    | (at_builtin; refine wpList_append_S rfl (.tmp 143) (.tmp 146) 37 rfl 44 i0 _ 6 64 Try.underlying37 hi0 hz0 hz1 hz2 rfl (by omega) (.slice a1 1 c1) 1 ([(i, bar kn)].flatMap ocl) bk1 rfl ho23 v3 0 [] rfl ho3.src (fun u hu => by cases hu) (by simp [maxLen]) (by omega) ?_; intro v4 w4 bk4 hown4 hgrow4 hat4))
  go_ret
  rw [HN1.out] at HN3 HS3
  have hE : [(i, barE kn)] = outE' ([(i, bar kn)] ++ []) := rfl
  have e1 : fBegin m (ns.map NoteC.abs) i kn = fWhole (Gm.upd { m with under := kn } i (m.inp i).send) (ns.map NoteC.abs ++ [(kn, [], false)]) := rfl
  rw [hE, e1, ← HN3.out]
  refine ⟨_, rfl, FRes.app (outs1 := [(i, bar kn)]) (outs2 := []) (bk1 := bk1) (HS2.out.trans HS3.out) (fun g hg => ?_) (fun o ho => ?_) (fun o ho => by cases ho) hgrow4 hown4 hat4⟩
  · have hlt := HO2.out.lt_of hg
    refine ⟨Nat.le_trans ?_ (HB1.out g hg).1, fun hh => ?_, fun hh => ?_⟩
    · simp [World.setCell]
    · rcases HS3.out.own g hh with h | h
      · exact (HB1.out g hg).2.1 h
      · omega
    · rcases HS3.out.d2 g hh with h | h
      · exact (HB1.out g hg).2.2 h
      · omega
  · rw [List.mem_singleton] at ho; subst ho
    exact RowAt.nil _ _

/-- A barrier that gives up the one under way. -/
theorem f44_over (w : World) (D : Nat → Prop) (i : Nat) (e : Elem) (r : Value) (gs : GS) (m : Gm) (ns : List NoteC) (h : FreeAt w D gs m ns) (hD : ∀ b, D b → b < w.heap.size) (hr : RowAt w D r e.row) (hi : i < m.n) (hk : e.k = 3) (hd : m.done < e.n) (hu0 : 0 < m.under) (hu : m.under < e.n) (hok : KOk m (ns.map NoteC.abs)) :
    Calls Try.prog 44 #[.pointer (some ⟨gs.G, 0, none⟩), .int .i64 i, ev e r] w (FGives w D gs m.n ns (fBegin m.ends ((ns.map NoteC.abs).filter (fun y => y.1 != m.under)) i e.n).1 (fBegin m.ends ((ns.map NoteC.abs).filter (fun y => y.1 != m.under)) i e.n).2 [(i, barE e.n)]) := by
  obtain ⟨k, kn, t, row, c⟩ := e
  dsimp only at hk hd hu
  subst hk
  have hr0 := hr
  obtain ⟨ra, rc, hv, _⟩ := hr
  dsimp only at hv
  subst hv
  obtain ⟨i0, hi0, hz0, hz1, hz2⟩ := info_parts info44
  obtain ⟨g0, g1, g2, g3, g4, gf⟩ := h.gate.cells
  rw [h.al] at g1
  simp only [howV, Bool.false_eq_true, if_false] at g1
  have l1 := h.gate.lt (own_G gs m.n)
  have hok2 := hok.gone
  have hbox := World.alloc_heap_new w (Obj.cells #[.int .i64 3, .int .i64 kn, .int .i64 t, .slice ra row.length rc, .int .i64 c] 34)
  have hb0 : Below w.heap.size w (w.alloc (Obj.cells #[.int .i64 3, .int .i64 kn, .int .i64 t, .slice ra row.length rc, .int .i64 c] 34)) := (Below.refl _ _).alloc (Nat.le_refl _) _
  have hs0 := (FStep.refl h hD).below hb0
  have hc0 := f123_any _ gs m ns hs0.gate
  have hown0 : ∀ b, fown gs m.n ns b → b ≠ w.heap.size := fun b hb e => by have := h.lt hb; omega
  have hDown : ∀ b, D b → ¬ fown gs m.n ns b := fun b hb => h.hD hb
  have HOK := Lib.hid hok2
  have HX := Lib.hid hbox
  have HS0 := Lib.hid hs0
  have HC0 := Lib.hid hc0
  have HOW := Lib.hid hown0
  have HR := Lib.hid hr0
  have HDO := Lib.hid hDown
  have HD := Lib.hid hD
  clear hok hok2 hbox hb0 hs0 hc0 h hD hown0 hr0 hDown
  have hdn : (m.ends).done < kn := by
    show max m.done m.under < kn
    omega
  go_enter Try.func44, Try.ntmps44
  go_wp2_with (first
    | (go_at_call 123; refine HC0.out.mono ?_; rintro e w1 ⟨rfl, hf1, ho1⟩
       have hs1 := HS0.out.same (W' := w1) hf1 rfl rfl (fun b hb => .inl (by
         rcases hb with hb | ⟨z, hz, hb⟩
         · exact .inl hb
         · exact .inr ⟨z, (List.mem_filter.1 hz).1, hb⟩)) (ho1.mono fun b _ hb => .inl (.inr (.inr (.inl hb))))
       have hx1 := (ho1.block _ (heap_lt HX.out) (fun e => HOW.out _ (.inl (.inr (.inr (.inl rfl)))) e.symm)).trans HX.out
       have hc1 := f54_any w1 _ m hf1.gate
       have HC1 := Lib.hid hc1; have HS1 := Lib.hid hs1; have HX1 := Lib.hid hx1
       clear hf1 ho1 hs1 hx1 hc1)
    | (go_at_call 54; refine HC1.out.mono ?_; rintro e w2 ⟨rfl, hg2, ho2⟩
       have hf2 := HS1.out.gate.ends hg2 ho2
       have hs2 := HS1.out.same (W' := w2) hf2 rfl rfl (fun b hb => .inl hb) (ho2.mono fun b _ hb => .inl hb)
       have hx2 := (ho2.block _ (heap_lt HX1.out) (fun e => HOW.out _ (.inl e) rfl)).trans HX1.out
       have hc2 := f55_none D _ m.ends w2 hg2 hs2.d3 hf2.emp
       have HC2 := Lib.hid hc2; have HS2 := Lib.hid hs2; have HX2 := Lib.hid hx2
       clear hg2 ho2 hf2 hs2 hx2 hc2)
    | (go_at_call 55; refine HC2.out.mono ?_; rintro e w3 ⟨rfl, hb3⟩
       have hs3 := HS2.out.below hb3
       have hx3 := (hb3.block _ (heap_lt HX2.out)).trans HX2.out
       have hr3 := HR.out.keep (w' := w3) fun b hb hl => hs3.only.block b hl (HDO.out b hb)
       have hc3 := f44_first w3 D i ⟨3, kn, t, row, c⟩ (.slice ra row.length rc) _ m.ends _ hs3.gate hs3.d3 hr3 hi rfl hdn rfl (by rw [abs_filter ns (fun k => k != m.under)]; exact HOK.out)
       rw [abs_filter ns (fun k => k != m.under)] at hc3
       obtain ⟨y0, y1, y2, y3, y4, yf⟩ := blk5 hx3
       have HC3 := Lib.hid hc3; have HS3 := Lib.hid hs3
       clear hb3 hs3 hx3 hr3 hc3)
    | (go_at_call 44; refine HC3.out.mono ?_; rintro e w4 ⟨v4, rfl, D4, gs4, ns4, outs4, bk4, hs4, hN4, hO4, ho4, hb4, hr4⟩
       have HN4 := Lib.hid hN4; have HS4 := Lib.hid hs4; have HO4 := Lib.hid hO4
       have hl4 : outs4.length = 1 := by have := congrArg List.length hO4; simpa [outE'] using this
       clear hN4 hs4 hO4)
    | (at_builtin; refine wpList_append_S rfl (.tmp 111) (.tmp 115) 37 rfl 44 i0 _ 6 64 Try.underlying37 hi0 hz0 hz1 hz2 rfl (by omega) (.slice none 0 0) 0 [] none rfl (SlOwn.nil _ _ _) v4 outs4.length (outs4.flatMap ocl) rfl ho4.src (okCells_of hr4) (by simp only [maxLen]; omega) (by omega) ?_; intro v5 w5 bk5 hown5 hgrow5 hat5))
  go_ret
  rw [← HO4.out, ← HN4.out]
  exact ⟨_, rfl, FRes.app (outs1 := []) (outs2 := outs4) (bk1 := none) (HS3.out.trans HS4.out) (fun g hg => by cases hg) (fun o ho => by cases ho) hr4 hgrow5 hown5 hat5⟩
end walks
end Go.Proofs.Ytdnkfgnjeibjeaa.W

import Derived.Test.YtdnkfgnjeibjeaaMF
namespace Go.Proofs.Ytdnkfgnjeibjeaa
open Go.RowKit Go.Shelf

theorem Only.at {S : Nat → Prop} {w w' : World} (h : Only S w w') (b o : Nat) (hb : b < w.heap.size) (hn : ¬ S b) : w'.cell? ⟨b, o, none⟩ = w.cell? ⟨b, o, none⟩ := World.cell?_of_block (a := ⟨b, o, none⟩) (h.block b hb hn)

theorem RowAt.form2 {w : World} {D : Nat → Prop} {r : Value} {row : List Val} (h : RowAt w D r row) : ∃ a n c, r = .slice a n c := by
  obtain ⟨a, c, h, _⟩ := h
  exact ⟨a, _, c, h⟩

/-- What waits for a deferred call stays. -/
def DefKeep (w W : World) : Prop := ∀ (k : Nat) (o : Option (List Deferred)), w.heap[k]? = some (.deferred o) → W.heap[k]? = some (.deferred o)

theorem DefKeep.trans {a b c : World} (h : DefKeep a b) (k : DefKeep b c) : DefKeep a c := fun x o hh => k x o (h x o hh)
theorem DefKeep.of_below {a b : World} (h : Below a.heap.size a b) : DefKeep a b := fun _ _ hh => (h.block _ (heap_lt hh)).trans hh
theorem DefKeep.of_only {S : Nat → Prop} {a b : World} (h : Only S a b) (hs : ∀ k o, S k → a.heap[k]? ≠ some (.deferred o)) : DefKeep a b := fun k o hh => (h.block k (heap_lt hh) (fun hS => hs k o hS hh)).trans hh

/-- 'goOn's closure brings a gate there. -/
def F76To (D : Nat → Prop) (m m' : Gm) (news : List OV) : Prop :=
  ∀ (n B Bo Bg Ba : Nat) (gs gs' : GS) (outs : List OV) (v : Value) (blk : Option Nat) (w0 w : World), ABase B D Bo Bg Ba w.heap.size (w.heap.size + 1) w0 → gs.map < B → AStart B D gs gs' Bo Bg Ba w0 m outs v blk w → outs.length + news.length ≤ 10000 →
    CallsIn Fence.wide n Try.prog 76 #[.func (.func 78) #[] #[.pointer (some ⟨Bo, 0, none⟩)], .pointer (some ⟨Bg, 0, none⟩), .pointer (some ⟨Ba, 0, none⟩)] w fun e W' => e = .returned (.tuple #[]) ∧ DefKeep w W' ∧
      ∃ gs' v blk, AStart B D gs gs' Bo Bg Ba w0 m' (outs ++ news) v blk W'

section
variable {B : Nat} {D : Nat → Prop} {gs gs' : GS} {Bo Bg Ba Bp Bn : Nat} {w0 : World} {m : Gm} {outs : List OV} {nx : Int} {v : Value} {blk : Option Nat} {W W' : World}

/-- A barrier is taken off a queue, and looked at. -/
theorem AGood.popped (h : AGood B D gs gs' Bo Bg Ba Bp Bn w0 m outs nx v blk W) {j : Nat} (hj : j < m.n) {e : EV} {rest : List EV} (hq : (m.inp j).queue = e :: rest) {tail : Value} (ht : SlOwn W 34 5 tail rest.length (rest.flatMap ecl) (gs'.qb j)) :
    ∃ gs2, AGood B D gs gs2 Bo Bg Ba Bp Bn w0 (m.upd j { m.inp j with queue := rest, holds := true }) outs nx v blk ((W.setCell ⟨gs.ib j, 2, none⟩ tail).setCell ⟨gs.ib j, 4, none⟩ (.bool true)) := by
  have hib : gs'.ib j = gs.ib j := by rw [h.like.ib]
  have hI0 := h.gate.hib j hj
  have hI1 := heap_set (j := 2) hI0 tail
  have h1 := h.gate.setQ (w' := W.setCell ⟨gs'.ib j, 2, none⟩ tail) hj tail rest ht (fun p hp => by rw [hq]; exact List.mem_cons_of_mem _ hp) (by simpa using hI1) (fun b hb => heap_set_ne _ hb)
  have hl2 : gs.like { gs' with qv := fun k => if k = j then tail else gs'.qv k } := ⟨h.like.G, h.like.arr, h.like.cap, h.like.map, h.like.ib, h.like.qb⟩
  have a1 := h.owned (m2 := m.upd j { m.inp j with queue := rest }) rfl hl2 h1 ((Only.refl _ _).setCell (fun _ => own_ib gs' hj) _)
  have hj1 : j < (m.upd j { m.inp j with queue := rest }).n := hj
  have hI2 := heap_set (j := 4) (a1.gate.hib j hj1) (.bool true)
  have h2 := a1.gate.setI (w' := (W.setCell ⟨gs'.ib j, 2, none⟩ tail).setCell ⟨gs'.ib j, 4, none⟩ (.bool true)) hj1 { (m.upd j { m.inp j with queue := rest }).inp j with holds := true } rfl (by simpa using hI2) (fun b hb => heap_set_ne _ hb)
  have a2 := a1.owned (m2 := (m.upd j { m.inp j with queue := rest }).upd j { (m.upd j { m.inp j with queue := rest }).inp j with holds := true }) rfl hl2 h2 (Only.setCell (Only.refl _ _) (p := ⟨gs'.ib j, 4, none⟩) (fun _ => own_ib { gs' with qv := fun k => if k = j then tail else gs'.qv k } hj1) _)
  rw [upd_inp, upd_upd, hib] at a2
  exact ⟨_, a2⟩

theorem AGood.noDef (h : AGood B D gs gs' Bo Bg Ba Bp Bn w0 m outs nx v blk W) {b : Nat} {o : Option (List Deferred)} (hb : W.heap[b]? = some (.deferred o)) : ¬ (gs'.own m.n b ∨ b = Bo ∨ blk = some b) := by
  have hc : ∀ {c : Array Value} {t : TypeId} {f : Nat × Nat}, W.heap[b]? ≠ some (.cells c t f) := fun hh => by rw [hb] at hh; injection hh with hh; cases hh
  rintro (hh | rfl | hh)
  · rcases hh with rfl | rfl | rfl | ⟨i, hi, rfl⟩ | ⟨i, hi, hq⟩
    · exact hc h.gate.hG
    · obtain ⟨cs, hc', _⟩ := h.gate.harr; exact hc hc'
    · have := h.gate.hmap; rw [hb] at this; injection this with this; cases this
    · exact hc (h.gate.hib i hi)
    · obtain ⟨cur, hc'⟩ := h.gate.qb_cells hi hq; exact hc hc'
  · exact hc h.box.box
  · have := h.box.own
    rw [hh] at this
    rcases this.2 with ⟨_, _, hx⟩ | ⟨g', o, cap, cur, hx, _, hg, _⟩
    · cases hx
    · injection hx with hx; subst hx; exact hc hg

/-- The barrier has been looked at. -/
theorem AGood.unheld (h : AGood B D gs gs' Bo Bg Ba Bp Bn w0 m outs nx v blk W) {j : Nat} (hj : j < m.n) :
    AGood B D gs gs' Bo Bg Ba Bp Bn w0 (m.upd j { m.inp j with holds := false }) outs nx v blk (W.setCell ⟨gs.ib j, 4, none⟩ (.bool false)) := by
  have hib : gs'.ib j = gs.ib j := by rw [h.like.ib]
  have hI2 := heap_set (j := 4) (h.gate.hib j hj) (.bool false)
  have h2 := h.gate.setI (w' := W.setCell ⟨gs'.ib j, 4, none⟩ (.bool false)) hj { m.inp j with holds := false } rfl (by simpa using hI2) (fun b hb => heap_set_ne _ hb)
  have a2 := h.owned (m2 := m.upd j { m.inp j with holds := false }) rfl h.like h2 (Only.setCell (Only.refl _ _) (p := ⟨gs'.ib j, 4, none⟩) (fun _ => own_ib gs' hj) _)
  rw [hib] at a2
  exact a2

/-- What is no block of cells turns beyond the gate's. -/
theorem AStart.grown (hD : ∀ b, D b → b < B) (h : AStart B D gs gs' Bo Bg Ba w0 m outs v blk W) {row : Option Nat} (hg : W.grownBy W' row) (hr : ∀ r, row = some r → B ≤ r ∧ r ≠ gs.map ∧ ∃ o : Obj, W.heap[r]? = some o ∧ o.isCells = false) :
    AStart B D gs gs' Bo Bg Ba w0 m outs v blk W' := by
  have hl : ∀ {b : Nat} {c : Array Value} {t : TypeId} {f : Nat × Nat}, W.heap[b]? = some (Obj.cells c t f) → W'.heap[b]? = some (Obj.cells c t f) := fun {b c t f} hb => (hg.block b (heap_lt hb) (fun e => by
    obtain ⟨_, _, o, ho, hc⟩ := hr b e.symm
    rw [hb] at ho
    injection ho with ho
    subst ho
    cases hc)).trans hb
  have hl2 : ∀ {b : Nat} {c : Array Value} {t : TypeId} {f : Nat × Nat}, W.heap[b]? = some (Obj.cells c t f) → W'.heap[b]? = W.heap[b]? := fun hb => (hl hb).trans hb.symm
  have hrow : ∀ {r row}, RowAt W D r row → RowAt W' D r row := fun hx => hx.keep fun b hb hlt => hg.block b hlt (fun e => by
    have h1 := hD b hb
    have h2 := (hr b e.symm).1
    omega)
  have g := h.gate
  obtain ⟨cs, hc, hcs⟩ := g.harr
  refine ⟨⟨g.pos, g.le, hl g.hG, ⟨cs, hl hc, hcs⟩, fun i hi => hl (g.hib i hi), g.inj, fun i hi => (g.hq i hi).keep fun b hb => ?_, g.qinj, fun i hi p hp => hrow (g.hrow i hi p hp), g.hD, ?_⟩, h.like, ⟨hl h.box.box, h.box.own.keep fun b hb => ?_⟩, h.new, hl h.hg, hl h.ha, fun o ho => hrow (h.rows o ho), ?_⟩
  · obtain ⟨cur, hc⟩ := g.qb_cells hi hb; exact hl2 hc
  · refine (hg.block _ (heap_lt g.hmap) (fun e => (hr _ e.symm).2.1 h.like.map)).trans g.hmap
  · have := h.box.own
    rw [hb] at this
    rcases this.2 with ⟨_, _, hx⟩ | ⟨g', o, cap, cur, hx, _, hgg, _⟩
    · cases hx
    · injection hx with hx; subst hx; exact hl2 hgg
  · exact h.only.grown hg (fun k hk _ => .inr (hr k hk).1)

/-- What a look and 'pass' may turn. -/
def Turns (gs : GS) (n Bo : Nat) (blk : Option Nat) (b : Nat) : Prop := gs.own n b ∨ b = Bo ∨ blk = some b

theorem AGood.noTurn (h : AGood B D gs gs' Bo Bg Ba Bp Bn w0 m outs nx v blk W) {b : Nat} {c : Array Value} {t : TypeId} {f : Nat × Nat} (hb : W.heap[b]? = some (.cells c t f)) (h1 : t ≠ 88) (h2 : t ≠ 90) (h3 : t ≠ 92) (h4 : t ≠ 34) (h5 : t ≠ 37) (h6 : t ≠ 44) : ¬ Turns gs m.n Bo blk b := by
  rintro (hh | rfl | hh)
  · have hh' : gs'.own m.n b := (like_own h.like _ _).2 hh
    rcases hh' with rfl | rfl | rfl | ⟨i, hi, rfl⟩ | ⟨i, hi, hq⟩
    · exact ne_of_cells hb h.gate.hG h1 rfl
    · obtain ⟨cs, hc, _⟩ := h.gate.harr; exact ne_of_cells hb hc h2 rfl
    · exact ne_of_map hb h.gate.hmap rfl
    · exact ne_of_cells hb (h.gate.hib i hi) h3 rfl
    · obtain ⟨cur, hc⟩ := h.gate.qb_cells hi hq; exact ne_of_cells hb hc h4 rfl
  · exact ne_of_cells hb h.box.box h5 rfl
  · have := h.box.own
    rw [hh] at this
    rcases this.2 with ⟨_, _, hx⟩ | ⟨g', o, cap, cur, hx, _, hg, _⟩
    · cases hx
    · injection hx with hx; subst hx; exact ne_of_cells hb hg h6 rfl

theorem AGood.newTurn (h : AGood B D gs gs' Bo Bg Ba Bp Bn w0 m outs nx v blk W) {b : Nat} (hb : W.heap.size ≤ b) : ¬ Turns gs m.n Bo blk b := by
  rintro (hh | rfl | hh)
  · have := h.gate.lt ((like_own h.like _ _).2 hh); omega
  · have := heap_lt h.box.box; omega
  · have := h.box.own.lt_of hh; omega
end

attribute [local go_sem] Oper.semAt_some

section walks
set_option maxHeartbeats 2000000
set_option maxRecDepth 100000

theorem f76_step (D : Nat → Prop) (m m5 : Gm) (news : List OV) (hqs : qsum m m.n ≤ 100000)
    (hend : (drainNx m (m.list m.n) < 0 ∧ m5 = m.drainTo (m.list m.n) ∧ news = drainOuts m (m.list m.n)) ∨
      ∃ (j : Nat) (x : EV) (rest : List EV) (m3 : Gm) (o2 o3 : List OV), j < m.n ∧ drainNx m (m.list m.n) = j ∧ ((m.drainTo (m.list m.n)).inp j).queue = x :: rest ∧ x.1.k = 3 ∧
        LookTo D j x ((m.drainTo (m.list m.n)).upd j { (m.drainTo (m.list m.n)).inp j with queue := rest, holds := true }) m3 o2 ∧
        F76To D (m3.upd j { m3.inp j with holds := false }) m5 o3 ∧ news = drainOuts m (m.list m.n) ++ (o2 ++ o3)) : F76To D m m5 news := by
  intro n B Bo Bg Ba gs gs' outs v blk w0 w hA hmap h hlen1
  have hlen : outs.length + qsum m m.n ≤ 1000000 := by omega
  have hF : ∀ f, Fence.wide.fn f = True := fun _ => rfl
  have hDe : Fence.wide.depth.isSome = false := rfl
  obtain ⟨b0, bf⟩ := blk1 h.hg
  obtain ⟨a0, af⟩ := blk1 h.ha
  have l1 := heap_lt h.hg
  have l2 := heap_lt h.ha
  have l3 := World.new_ne w _ b0
  have l4 : Bg < w.heap.size + 1 := by omega
  have hcl := (callsIn_wide (n := n - 1)).2 (f77_any ((w.alloc (Obj.cells #[Value.func (Fn.func 78) #[] #[.pointer (some ⟨Bo, 0, none⟩)]] 135)).alloc (Obj.cells #[Value.int IntKind.i64 (-1)] 3)) gs)
  have HC := Lib.hid hcl
  have HH := Lib.hid h
  clear hcl h
  refine callsIn_of_wp_marks Try.func76 rfl trivial ?_ rfl
  simp only [Try.ntmps76, List.size_toArray, List.length_cons, List.length_nil, Nat.reduceAdd, Nat.reduceSub, Array.replicate_succ, Array.replicate_zero, List.push_toArray, List.append_toArray, List.nil_append, List.cons_append]
  gi_wp2_with (gi_at_call 77; refine HC.out.mono ?_; rintro e w' ⟨rfl, rfl⟩)
  refine range_law (α := Nat) (gf := 93) (lb := #[.pointer (some ⟨w.heap.size + 2, 0, none⟩)]) ?_ ?_ (fun i => #[.int .i64 i, .pointer (some ⟨gs.ib i, 0, none⟩)]) ?_ (fun pre W => LoopI B D gs Bo Bg Ba w.heap.size (w.heap.size + 1) (w.heap.size + 2) w0 m outs pre W ∧ DefKeep w W) ?_ ?_ (fun pre i => pre = m.list i ∧ i < m.n ∧ m.waits i = true) (fun xs => xs = m.list m.n) ?_ (fr76 Bo Bg Ba w.heap.size (w.heap.size + 1) (w.heap.size + 2) gs) ?_ ?_ ?_
  · rfl
  · intro args w'
    kernel_rfl
  · intro i; rfl
  · rintro pre W W' row ⟨⟨⟨gs1, v1, blk1, hg⟩, hs⟩, hdk⟩ hgr hrow
    have hB : B ≤ w.heap.size := Nat.le_trans hA.hB HH.out.only.size
    refine ⟨⟨⟨gs1, v1, blk1, hg.grow hA hgr fun r hr => ?_⟩, ?_⟩, fun k o hk => (hgr.block k (heap_lt (hdk k o hk)) (fun e => ?_)).trans (hdk k o hk)⟩
    · obtain ⟨h1, h2⟩ := hrow r hr
      simp only [World.size_alloc] at h1
      exact ⟨by omega, by omega, h2⟩
    · refine (hgr.block _ (heap_lt hs) (fun e => ?_)).trans hs
      obtain ⟨_, o, ho, hc⟩ := hrow _ e.symm
      rw [hs] at ho; injection ho with ho; subst ho; cases hc
    · have h1 := (hrow k e.symm).1
      have h2 := heap_lt hk
      simp only [World.size_alloc] at h1
      omega
  · have hb3 : Below w.heap.size w (((w.alloc (Obj.cells #[Value.func (Fn.func 78) #[] #[.pointer (some ⟨Bo, 0, none⟩)]] 135)).alloc (Obj.cells #[Value.int IntKind.i64 (-1)] 3)).alloc (Obj.cells #[.pointer (some ⟨gs.G, 0, none⟩)] 25)) := (((Below.refl _ _).alloc (Nat.le_refl _) _).alloc (by simp) _).alloc (by simp only [World.size_alloc]; omega) _
    refine ⟨⟨⟨gs', v, blk, ?_⟩, ?_⟩, DefKeep.of_below hb3⟩
    · have h0 : outs ++ drainOuts m [] = outs := by simp [drainOuts]
      rw [h0]
      refine (HH.out.below hb3).good ?_ ?_
      · refine (Below.heap_alloc _ _ _ (by simp only [World.size_alloc]; omega)).trans ((Below.heap_alloc _ _ _ (by simp)).trans (World.alloc_heap_new _ _))
      · have := World.alloc_heap_new (w.alloc (Obj.cells #[Value.func (Fn.func 78) #[] #[.pointer (some ⟨Bo, 0, none⟩)]] 135)) (Obj.cells #[Value.int IntKind.i64 (-1)] 3)
        rw [World.size_alloc] at this
        exact (Below.heap_alloc _ _ _ (by simp)).trans this
    · have := World.alloc_heap_new ((w.alloc (Obj.cells #[Value.func (Fn.func 78) #[] #[.pointer (some ⟨Bo, 0, none⟩)]] 135)).alloc (Obj.cells #[Value.int IntKind.i64 (-1)] 3)) (Obj.cells #[.pointer (some ⟨gs.G, 0, none⟩)] 25)
      rw [World.size_alloc, World.size_alloc] at this
      exact this
  · intro l J W hJI hJb hY hJ0
    refine f93_in (D := D) n l (w.heap.size + 2) gs m J W (fun pre W hJ => ?_) hJb (fun i W1 hJ hi hw => ?_) hJ0
    · obtain ⟨⟨⟨gs1, v1, blk1', hg⟩, hs⟩, _⟩ := hJI pre W hJ
      exact ⟨gs1, hg.gate, hg.like, (blk1 hs).1⟩
    · exact hY (m.list i) i W1 hJ ⟨rfl, hi, hw⟩
  · intro l i W K hK
    have hFi : ∀ f, (Fence.wide.inRound l).fn f = True := fun _ => rfl
    gi_wp2_with fail
    exact hK
  · rintro l pre i W ⟨⟨⟨gs1, v1, blk1', hg⟩, hs⟩, hdk⟩ ⟨rfl, hi, hw⟩
    have hin : (m.drainTo (m.list i)).inp i = m.inp i := m.drainTo_inp _ _ (m.not_mem_list i)
    have hq1 := drainOuts_len m i
    have hq2 : qsum m (i + 1) ≤ qsum m m.n := qsum_mono m hi
    simp only [qsum] at hq2
    have hb := body76_ok (n - 1 - 1) l i B Bo Bg Ba w.heap.size (w.heap.size + 1) (w.heap.size + 2) D gs (m.drainTo (m.list i)) (outs ++ drainOuts m (m.list i)) (drainNx m (m.list i)) w0 W hA (by rw [(m.drainTo_al (m.list i)).2.1]; exact hi) ⟨gs1, v1, blk1', hg⟩ (by rw [hin, List.length_append]; omega)
    refine wpIn_mono hb ?_
    rintro e a' W' hr
    cases e with
    | normal =>
      obtain ⟨hk, gs2, v2, blk2, hg2⟩ := hr
      rw [hin] at hg2
      have e1 := m.drainTo_snoc (m.list i) i
      rw [hin] at e1
      refine ⟨⟨hk.all.size, fun k o _ => hk.all.same k o (Nat.zero_le _)⟩, ⟨⟨gs2, v2, blk2, ?_⟩, hk.box _ _ _ hs⟩, fun k o hh => hk.all.same k _ (Nat.zero_le _) (hdk k o hh) rfl⟩
      rw [e1, drainOuts_snoc, drainNx_snoc, ← List.append_assoc]
      exact hg2
    | ret => exact hr.elim
    | exit id => exact hr.elim
    | goto t => exact hr.elim
    | panic ch => exact hr.elim
    | outgrown => exact hr.elim
  · rintro Dd xs W hD rfl ⟨⟨⟨gs1, v1, blk1', hg⟩, hs⟩, hdk⟩ hdef
    rcases hend with ⟨hnx, rfl, rfl⟩ | ⟨j, ⟨⟨xk, en, et, erow, ec⟩, xr⟩, rest, m3, o2, o3, hj, hnx, hq, hk3, hlook, hagain, rfl⟩
    · obtain ⟨n0, nf⟩ := blk1 hg.hn
      have HG := Lib.hid hg
      have HD := Lib.hid hdef
      have HDK := Lib.hid hdk
      clear hg hdef hdk
      gi_wp2_with fail
      refine ⟨(fun hh => by cases hh), .inl ⟨Dd, _, rfl, run_takeDeferred HD.out, ?_⟩⟩
      have hB : B ≤ w.heap.size := Nat.le_trans hA.hB HH.out.only.size
      simp only [World.size_alloc] at hD
      have hgp := grownBy_putObj' W Dd (.deferred none)
      have hfin := HG.out.grow hA hgp (fun r hr => by
        injection hr with hr
        subst hr
        exact ⟨by omega, by omega, _, HD.out, rfl⟩)
      exact ⟨.tuple #[], res76 _ _, rfl, fun k o hk => (hgp.block k (heap_lt (HDK.out k o hk)) (fun e => by injection e with e; have := heap_lt hk; omega)).trans (HDK.out k o hk), gs1, v1, blk1', hfin.start⟩
    dsimp only at hk3
    subst hk3
    have hpos : gs1.like gs1 := GS.like.refl _
    have hlen2 : outs.length + (drainOuts m (m.list m.n)).length + o2.length + o3.length ≤ 10000 := by simp only [List.length_append] at hlen1; omega
    clear hlen1
    rw [hnx] at hg
    obtain ⟨ra, rl, rc, rfl⟩ := (hg.gate.hrow j (by rw [(m.drainTo_al (m.list m.n)).2.1]; exact hj) _ (by rw [hq]; exact List.mem_cons_self)).form2
    obtain ⟨n0, nf⟩ := blk1 hg.hn
    have HG := Lib.hid hg
    have HD := Lib.hid hdef
    have HDK := Lib.hid hdk
    have HAG := Lib.hid hagain
    obtain ⟨p0, pf⟩ := blk1 hg.hp
    obtain ⟨bg0, bgf⟩ := blk1 hg.hg
    obtain ⟨ba0, baf⟩ := blk1 hg.ha
    clear hg hdef hdk hagain
    have hnn : ¬ ((j : Int) < 0) := by omega
    gi_wp2_with fail
    refine wpIn_wide.2 ?_
    refine wp_region_float 8 0 (fun A => Only (fun _ => False) W A) (by kernel_rfl) (by kernel_rfl) ((Only.refl _ _).drew) ?_
    simp only [List.take_succ_cons, List.take_zero, List.drop_succ_cons, List.drop_zero]
    obtain ⟨al, an, au, ad⟩ := m.drainTo_al (m.list m.n)
    generalize m.drainTo (m.list m.n) = M at HG hq hlook al an au ad
    have hjM : j < M.n := by rw [an]; exact hj
    obtain ⟨ia, i0, i1, ⟨qa, qc, i2⟩, i3, i4, ifr⟩ := HG.out.gate.lcells HG.out.like hjM
    have g0 := HG.out.gate.cells.g0
    rw [HG.out.like.G, HG.out.like.arr, HG.out.like.cap, an] at g0
    have lG : gs.G < W.heap.size := cell_lt g0
    have lA : gs.arr < W.heap.size := cell_lt ia
    have lI : gs.ib j < W.heap.size := cell_lt i0
    have lBg : Bg < W.heap.size := cell_lt bg0
    have lBn : w.heap.size + 1 < W.heap.size := cell_lt n0
    have lBp : w.heap.size < W.heap.size := cell_lt p0
    have lBa : Ba < W.heap.size := cell_lt ba0
    have j0 : (0 : Int) ≤ (j : Int) := by omega
    have j1 : (j : Int) < (m.n : Int) := by omega
    have HAN := Lib.hid an
    clear al an au ad
    repeat (
      refine wpFloat_ex (fun K hK => ?_)
      apply Exists.intro
      refine ⟨fun A hW => ?_, ?_⟩
      · have hk := hW.at
        clear hW
        go_simp
        rfl
      go_simp
      refine hK _ ?_
      clear hK K)
    refine wpFloat_nil ?_
    refine wpChain_nil ?_
    have hsl := HG.out.gate.hq j hjM
    have hqv : gs1.qv j = .slice qa (M.inp j).queue.length qc := by
      have := (HG.out.gate.icells hjM).i2
      rw [HG.out.like.ib, i2] at this
      exact (Option.some.inj this).symm
    rw [hqv] at hsl
    have hql : (M.inp j).queue.length = rest.length + 1 := by rw [hq]; rfl
    obtain ⟨g, o, rfl⟩ : ∃ g o, qa = some ⟨g, o, none⟩ := by
      rcases hsl.2 with ⟨hx, _⟩ | ⟨g, o, cap, cur, _, hx, _⟩
      · injection hx with _ hx _; omega
      · injection hx with hx _ _; exact ⟨g, o, hx⟩
    have hcl : ∀ r u, r < 5 → (ecl (⟨3, en, et, erow, ec⟩, .slice ra rl rc))[r]? = some u → W.cell? ⟨g, o + r, none⟩ = some u := by
      intro r u hr hu
      refine hsl.cell r u ?_
      rw [hq, List.flatMap_cons, List.getElem?_append_left (by rw [ecl_len]; exact hr)]
      exact hu
    have c0 := hcl 0 _ (by omega) rfl
    have c1 := hcl 1 _ (by omega) rfl
    have c2 := hcl 2 _ (by omega) rfl
    have c3 := hcl 3 _ (by omega) rfl
    have c4 := hcl 4 _ (by omega) rfl
    rw [Nat.add_zero] at c0
    have hrow := HG.out.gate.hrow j hjM _ (by rw [hq]; exact List.mem_cons_self)
    rw [hql] at i2 hsl
    rw [hq, List.flatMap_cons] at hsl
    obtain ⟨a', hrun, hsl'⟩ := slice_tail hsl (by omega)
    rw [List.drop_left' (ecl_len _)] at hsl'
    simp only [Nat.add_sub_cancel] at hrun hsl'
    obtain ⟨gs2, hg2⟩ := HG.out.popped hjM hq hsl'
    have HG2 := Lib.hid hg2
    have HS2 := Lib.hid hsl'
    clear hg2 hsl'
    have lg : g < W.heap.size := cell_lt c0
    have HQV := Lib.hid hqv
    have HQL := Lib.hid hql
    have HROW := Lib.hid hrow
    have HQ := Lib.hid hq
    clear hsl hqv hql hcl hq hrow
    gi_wp2_with fail
    refine wpIn_wide.2 ?_
    have h4 : AGood B D gs gs2 Bo Bg Ba w.heap.size (w.heap.size + 1) w0 (M.upd j { M.inp j with queue := rest, holds := true }) (outs ++ drainOuts m (m.list m.n)) j v1 blk1' (((W.setCell ⟨gs.ib j, 2, none⟩ (.slice (some a') rest.length (qc - 1))).setCell ⟨gs.ib j, 4, none⟩ (.bool true)).alloc (.cells #[.int .i64 3, .int .i64 en, .int .i64 et, .slice ra rl rc, .int .i64 ec] 34)).drew := HG2.out.below (((Below.refl _ _).alloc (Nat.le_refl _) _).drew)
    have hz2 : ((W.setCell ⟨gs.ib j, 2, none⟩ (.slice (some a') rest.length (qc - 1))).setCell ⟨gs.ib j, 4, none⟩ (.bool true)).heap.size = W.heap.size := by simp [World.setCell]
    have hb4 : ((((W.setCell ⟨gs.ib j, 2, none⟩ (.slice (some a') rest.length (qc - 1))).setCell ⟨gs.ib j, 4, none⟩ (.bool true)).alloc (.cells #[.int .i64 3, .int .i64 en, .int .i64 et, .slice ra rl rc, .int .i64 ec] 34)).drew).heap[W.heap.size]? = some (.cells #[.int .i64 3, .int .i64 en, .int .i64 et, .slice ra rl rc, .int .i64 ec] 34 (0, 0)) := by
      have hx := World.alloc_heap_new ((W.setCell ⟨gs.ib j, 2, none⟩ (.slice (some a') rest.length (qc - 1))).setCell ⟨gs.ib j, 4, none⟩ (.bool true)) (.cells #[.int .i64 3, .int .i64 en, .int .i64 et, .slice ra rl rc, .int .i64 ec] 34)
      rw [hz2] at hx
      exact hx
    have hib1 : gs1.own M.n (gs.ib j) := by have := own_ib gs1 hjM; rwa [HG.out.like.ib] at this
    have ho4 : Only (fun b => b = gs.ib j) W ((((W.setCell ⟨gs.ib j, 2, none⟩ (.slice (some a') rest.length (qc - 1))).setCell ⟨gs.ib j, 4, none⟩ (.bool true)).alloc (.cells #[.int .i64 3, .int .i64 en, .int .i64 et, .slice ra rl rc, .int .i64 ec] 34)).drew) := ((Only.setCell (Only.setCell (Only.refl (fun b => b = gs.ib j) W) (p := ⟨gs.ib j, 2, none⟩) (fun _ => rfl) _) (p := ⟨gs.ib j, 4, none⟩) (fun _ => rfl) _).alloc _).drew
    have hr4 := HROW.out.keep (w' := (((W.setCell ⟨gs.ib j, 2, none⟩ (.slice (some a') rest.length (qc - 1))).setCell ⟨gs.ib j, 4, none⟩ (.bool true)).alloc (.cells #[.int .i64 3, .int .i64 en, .int .i64 et, .slice ra rl rc, .int .i64 ec] 34)).drew) fun b hb hlt => ho4.block b hlt (fun e => HG.out.gate.hD _ (e ▸ hb) hib1)
    have hd4 := (ho4.block Dd (heap_lt HD.out) (fun e => HG.out.noDef HD.out (.inl (e ▸ hib1)))).trans HD.out
    have hk4 := HDK.out.trans (DefKeep.of_only ho4 fun k o e hh => HG.out.noDef hh (.inl (e ▸ hib1)))
    have hnt := HG2.out.newTurn (b := W.heap.size) (by rw [hz2]; exact Nat.le_refl _)
    have hDW : ∀ b, D b → b < W.heap.size := fun b hb => Nat.lt_of_lt_of_le (hA.hD b hb) (Nat.le_trans hA.hB HG.out.only.size)
    have hs4 := ho4.size
    generalize (((W.setCell ⟨gs.ib j, 2, none⟩ (.slice (some a') rest.length (qc - 1))).setCell ⟨gs.ib j, 4, none⟩ (.bool true)).alloc (.cells #[.int .i64 3, .int .i64 en, .int .i64 et, .slice ra rl rc, .int .i64 ec] 34)).drew = W4 at h4 hb4 ho4 hr4 hd4 hk4 hs4 ⊢
    dsimp only [Gm.upd] at hnt
    have hlk := hlook gs2 W4.drew (h4.below (Below.refl _ _).drew).gate (fun b hb => Nat.lt_of_lt_of_le (hDW b hb) hs4) (hr4.below (Below.refl _ _).drew)
    rw [h4.like.G] at hlk
    dsimp only [ev, Gm.upd] at hlk
    obtain ⟨x0, x0f⟩ := blk1 h4.hp
    obtain ⟨x1, x1f⟩ := blk1 h4.hg
    obtain ⟨x2, x2f⟩ := blk1 h4.hn
    obtain ⟨y0, y1, y2, y3, y4, yf⟩ := blk5 hb4
    have t0 : ¬ Turns gs M.n Bo blk1' w.heap.size := h4.noTurn h4.hp (by decide) (by decide) (by decide) (by decide) (by decide) (by decide)
    have t1 : ¬ Turns gs M.n Bo blk1' Bg := h4.noTurn h4.hg (by decide) (by decide) (by decide) (by decide) (by decide) (by decide)
    have t2 : ¬ Turns gs M.n Bo blk1' (w.heap.size + 1) := h4.noTurn h4.hn (by decide) (by decide) (by decide) (by decide) (by decide) (by decide)
    have H4 := Lib.hid h4
    have HLK := Lib.hid hlk
    have HR4 := Lib.hid hr4
    have HD4 := Lib.hid hd4
    have HK4 := Lib.hid hk4
    clear hlook h4 hlk hr4 hd4 hk4
    refine wp_region_float 4 2 (fun A => Only (Turns gs M.n Bo blk1') W4 A) (by kernel_rfl) (by kernel_rfl) ((Only.refl _ _).drew) ?_
    simp only [List.take_succ_cons, List.take_zero, List.drop_succ_cons, List.drop_zero]
    have lq : ∀ b, b < W.heap.size → b < W4.heap.size := fun b hb => Nat.lt_of_lt_of_le hb hs4
    have l0 := lq _ lBp
    have l1' := lq _ lBg
    have l2' := lq _ lBn
    have l3' := heap_lt hb4
    repeat (
      refine wpFloat_ex (fun K hK => ?_)
      apply Exists.intro
      refine ⟨fun A hW => ?_, ?_⟩
      · have hk := hW.at
        clear hW
        go_simp
        rfl
      go_simp
      refine hK _ ?_
      clear hK K)
    refine wpFloat_nil ?_
    refine wpChain_step (fun K hK => ?_)
    go_simp
    go_at_call 44
    refine HLK.out.mono ?_
    rintro e w6 ⟨gs3, v3, blk3, rfl, hn6, hs6, hf6, hg6, hl6, hr6, ho6⟩
    have h6 := (H4.out.below (Below.refl _ _).drew).owned hn6 (H4.out.like.trans hl6) hg6 ho6
    have hc6 : Only (Turns gs M.n Bo blk1') W4 w6 := ((Only.refl _ _).drew).trans (ho6.mono (S' := Turns gs M.n Bo blk1') fun b _ hb => .inl ((like_own H4.out.like _ _).1 hb)) (fun _ _ h => h)
    refine hK _ _ rfl (fun _ => hc6) ?_
    clear hK K
    refine wpChain_step (fun K hK => ?_)
    go_simp
    go_at_call 78
    refine (f78_any w6 Bo _ o2 v1 v3 blk1' h6.box hs6.src (okCells_of hr6) (by simp only [List.length_append]; omega)).mono ?_
    rintro e w7 ⟨rfl, v7, blk7, hbox7, ho7, hblk7⟩
    have h7 := h6.passed hA hbox7 ho7 hblk7 hr6
    have hc7 : Only (Turns gs M.n Bo blk1') W4 w7 := hc6.trans ho7 (fun b _ hb => .inr hb)
    refine hK _ _ rfl (fun _ => hc7) ?_
    clear hK K
    refine wpChain_nil ?_
    have hkd : ∀ k o, Turns gs M.n Bo blk1' k → W4.heap[k]? ≠ some (.deferred o) := fun k o hT hh => H4.out.noDef hh (hT.imp (fun hT => (like_own H4.out.like _ _).2 hT) (fun hT => hT))
    have hk7 := HK4.out.trans (DefKeep.of_only hc7 hkd)
    have hd7 := DefKeep.of_only hc7 hkd _ _ HD4.out
    have hj7 : j < m3.n := by rw [hn6]; exact hjM
    obtain ⟨ja, j0', j1', j2', j3', j4', jfr⟩ := h7.gate.lcells h7.like hj7
    have h8 := h7.unheld hj7
    have hib7 : ∀ k o, k = gs.ib j → w7.heap[k]? ≠ some (.deferred o) := fun k o e hh => by
      have hx := h7.gate.hib j hj7
      rw [h7.like.ib, ← e, hh] at hx
      injection hx with hx
      cases hx
    have hs8 := (w7.setCell ⟨gs.ib j, 4, none⟩ (.bool false)).heap.size
    have ho8 : Only (fun b => b = gs.ib j) w7 (w7.setCell ⟨gs.ib j, 4, none⟩ (.bool false)) := Only.setCell (Only.refl (fun b => b = gs.ib j) w7) (p := ⟨gs.ib j, 4, none⟩) (fun _ => rfl) _
    have hk8 := hk7.trans (DefKeep.of_only ho8 hib7)
    have hd8 := DefKeep.of_only ho8 hib7 _ _ hd7
    obtain ⟨z0, z0f⟩ := blk1 h7.ha
    obtain ⟨z1, z1f⟩ := blk1 h7.hp
    have H7 := Lib.hid h7
    have H8 := Lib.hid h8
    have HK8 := Lib.hid hk8
    have HD8 := Lib.hid hd8
    clear h6 h7 h8 hk8 hd8 hk7 hd7 hbox7 ho7 hblk7 hr6 hs6 hg6 ho6
    have hB0 : B ≤ w.heap.size := Nat.le_trans hA.hB HH.out.only.size
    have hw8 : w.heap.size ≤ (w7.setCell ⟨gs.ib j, 4, none⟩ (.bool false)).heap.size := by
      have h1 := ho8.size
      have h2 := hc7.size
      omega
    gi_wp2_with (gi_at_call 76; refine (HAG.out _ B Bo Bg Ba gs _ _ _ _ w0 _ ⟨hA.hD, hA.hB, hA.bo, hA.bg, hA.ba, by omega, by omega⟩ hmap H8.out.start (by simp only [List.length_append]; omega)).mono ?_; rintro e w9 ⟨rfl, hk9, gs5, v5, blk5, hg5⟩; have HG5 := Lib.hid hg5; have hd9 := hk9 _ _ HD8.out; have HD9 := Lib.hid hd9; have hk9' := HK8.out.trans hk9; have HK9 := Lib.hid hk9'; clear hk9 hg5 hd9 hk9')
    refine ⟨(fun hh => by cases hh), .inl ⟨Dd, _, rfl, run_takeDeferred HD9.out, ?_⟩⟩
    have hgp := grownBy_putObj' w9 Dd (.deferred none)
    simp only [World.size_alloc] at hD
    have hfin := HG5.out.grown hA.hD hgp (fun r hr => by
      injection hr with hr
      subst hr
      exact ⟨by omega, by omega, _, HD9.out, rfl⟩)
    refine ⟨.tuple #[], res76 _ _, rfl, fun k o hk => (hgp.block k (heap_lt (HK9.out k o hk)) (fun e => by injection e with e; have := heap_lt hk; omega)).trans (HK9.out k o hk), gs5, v5, blk5, ?_⟩
    rw [← List.append_assoc, ← List.append_assoc]
    exact hfin
end walks
end Go.Proofs.Ytdnkfgnjeibjeaa

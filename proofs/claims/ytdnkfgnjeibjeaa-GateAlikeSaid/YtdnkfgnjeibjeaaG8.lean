import Derived.Test.YtdnkfgnjeibjeaaG7
namespace Go.Proofs.Ytdnkfgnjeibjeaa
open Go.RowKit Go.Shelf

/-- The body of the loop over an iterator. -/
def rangeBody : Code → Option Code
  | .rangeFunc _ _ _ b => some b
  | .seq a b => match rangeBody a with
    | some c => some c
    | none => rangeBody b
  | .block _ c => rangeBody c
  | .loop c => rangeBody c
  | .scope c => rangeBody c
  | .cond _ a b => match rangeBody a with
    | some c => some c
    | none => rangeBody b
  | _ => none
noncomputable def body76 : Code := (Try.f76.body.bind rangeBody).getD .skip

/-- The frame of a round of the loop of 'goOn'. -/
abbrev fr76 (Bo Bg Ba Bp Bn Bs : Nat) (gs : GS) (i : Nat) : Act := { tmps := #[.func (.func 78) #[] #[.pointer (some ⟨Bo, 0, none⟩)], .pointer (some ⟨Bg, 0, none⟩), .pointer (some ⟨Ba, 0, none⟩), .pointer (some ⟨Bp, 0, none⟩), .pointer (some ⟨Bn, 0, none⟩), .int .i64 i, .pointer (some ⟨gs.ib i, 0, none⟩), undef, undef, .pointer (some ⟨gs.G, 0, none⟩), .func (.func 93) #[] #[.pointer (some ⟨Bs, 0, none⟩)], .int .i64 i, .pointer (some ⟨gs.ib i, 0, none⟩), undef, undef, undef, undef, undef, undef, undef, undef, undef, undef, undef, undef, undef, undef, undef, undef, undef, undef, undef, undef, undef, undef, undef, undef, undef, undef, undef, undef, undef, undef, undef, undef, undef, undef, undef, undef, undef, undef, undef, undef, undef, undef, undef, undef, undef, undef, undef, undef, undef, undef, undef, undef, undef, undef, undef, undef, undef, undef, undef, undef, undef, undef, undef, undef, undef, undef, undef, undef, undef, undef, undef, undef, undef, undef, undef, undef, undef, undef, undef, undef, undef, undef, undef, undef], defers := [] }

attribute [local go_sem] Oper.semAt_some

/-- Whatever is no block of cells, and the boxes of gates, lie as they lay. -/
structure Keeps2 (W W' : World) : Prop where
  all : KeepsFrom 0 W W'
  box : ∀ (b : Nat) (c : Array Value) (f : Nat × Nat), W.heap[b]? = some (.cells c 25 f) → W'.heap[b]? = some (.cells c 25 f)

theorem Keeps2.refl (W : World) : Keeps2 W W := ⟨KeepsFrom.refl _ _, fun _ _ _ h => h⟩
theorem Keeps2.trans {a b c : World} (h : Keeps2 a b) (k : Keeps2 b c) : Keeps2 a c := ⟨h.all.trans k.all, fun x y z hh => k.box x y z (h.box x y z hh)⟩

theorem Keeps2.of_only {S : Nat → Prop} {W W' : World} (h : Only S W W') (hs : ∀ b o, S b → W.heap[b]? = some o → ∃ c t f, o = .cells c t f ∧ t ≠ 25) : Keeps2 W W' :=
  ⟨⟨h.size, fun k o _ hk ho => (h.block k (heap_lt hk) (fun hS => by obtain ⟨c, t, f, rfl, _⟩ := hs k o hS hk; cases ho)).trans hk⟩,
   fun k c f hk => (h.block k (heap_lt hk) (fun hS => by obtain ⟨c', t, f', he, hne⟩ := hs k _ hS hk; injection he with _ ht; exact hne ht.symm)).trans hk⟩

/-- What a round leaves. -/
def RoundGives (B : Nat) (D : Nat → Prop) (gs : GS) (Bo Bg Ba Bp Bn : Nat) (w0 : World) (m : Gm) (outs : List OV) (nx : Int) (i : Nat) (W : World) : Exit → Act → World → Prop
  | .normal, _, W' => Keeps2 W W' ∧ ∃ gs' v blk, AGood B D gs gs' Bo Bg Ba Bp Bn w0 (m.upd i (m.inp i).drained) (outs ++ ((m.inp i).queue.takeWhile EV.plain).map fun p => (i, p)) (if nx < 0 ∧ (m.inp i).drained.queue ≠ [] then (i : Int) else nx) v blk W'
  | _, _, _ => False

def qlen (wr : World) (b : Nat) : Nat := match wr.cell? ⟨b, 2, none⟩ with | some (.slice _ n _) => n | _ => 0

theorem SlOwn.src {w : World} {e : TypeId} {size : Nat} {v : Value} {n : Nat} {xs : List Value} {blk : Option Nat} (h : SlOwn w e size v n xs blk) : Src w size v n xs := by
  refine ⟨h.1, ?_⟩
  rcases h.2 with ⟨rfl, rfl, _⟩ | ⟨g, o, cap, cur, _, rfl, _⟩
  · exact ⟨_, _, rfl, .inl (List.eq_nil_of_length_eq_zero (by simpa using h.1))⟩
  · exact ⟨_, _, rfl, .inr ⟨_, rfl, fun j u hu => by rw [add_at]; exact h.cell j u hu⟩⟩

theorem rep_put {base : Array Value} {d k : Nat} {val : Nat → Value} : fillT base d k val (Array.replicate k false) = base := by
  apply Array.ext_getElem?
  intro s
  simp only [fillT, Array.getElem?_mapIdx]
  cases base[s]? with
  | none => rfl
  | some v => simp only [Option.map_some]; rw [if_neg]; rintro ⟨_, _, h⟩; rw [rep_false] at h; cases h

theorem fill11 (base : Array Value) (d : Nat) (val : Nat → Value) (h : d + 11 ≤ base.size) :
    fillT base d 11 val (Array.replicate 11 true) = ((((((((((base.setIfInBounds (d + 0) (val 0)).setIfInBounds (d + 1) (val 1)).setIfInBounds (d + 2) (val 2)).setIfInBounds (d + 3) (val 3)).setIfInBounds (d + 4) (val 4)).setIfInBounds (d + 5) (val 5)).setIfInBounds (d + 6) (val 6)).setIfInBounds (d + 7) (val 7)).setIfInBounds (d + 8) (val 8)).setIfInBounds (d + 9) (val 9)).setIfInBounds (d + 10) (val 10) := by
  have e : Array.replicate 11 true = ((((((((((((Array.replicate 11 false).setIfInBounds 0 true).setIfInBounds 1 true).setIfInBounds 2 true).setIfInBounds 3 true).setIfInBounds 4 true).setIfInBounds 5 true).setIfInBounds 6 true).setIfInBounds 7 true).setIfInBounds 8 true).setIfInBounds 9 true).setIfInBounds 10 true) := by decide
  rw [e]
  repeat rw [← fillT_put (by omega) (by simp) h]
  rw [rep_put]

theorem upd_upd (m : Gm) (i : Nat) (x y : Inp) : (m.upd i x).upd i y = m.upd i y := by
  simp only [Gm.upd, Gm.mk.injEq, true_and, and_true]
  funext j
  by_cases e : j = i <;> simp [e]

theorem upd_inp (m : Gm) (i : Nat) (x : Inp) : (m.upd i x).inp i = x := by simp [Gm.upd]

theorem upd_same (m : Gm) (i : Nat) : m.upd i (m.inp i) = m := by
  obtain ⟨n, al, inp, u, d⟩ := m
  simp only [Gm.upd, Gm.mk.injEq, true_and, and_true]
  funext j
  by_cases e : j = i <;> simp [e]

theorem hbox_cells {W : World} {Bo : Nat} {outs : List OV} {v : Value} {blk : Option Nat} (h : OutBox W Bo outs v blk) : ∀ b o, (b = Bo ∨ blk = some b) → W.heap[b]? = some o → ∃ c t f, o = .cells c t f ∧ t ≠ 25 := by
  rintro b o (rfl | hb) ho
  · rw [h.box] at ho; injection ho with ho; subst ho; exact ⟨_, _, _, rfl, by decide⟩
  · have := h.own
    rw [hb] at this
    rcases this.2 with ⟨_, _, hx⟩ | ⟨g', o', cap, cur, hx, _, hg, _⟩
    · cases hx
    · injection hx with hx; subst hx
      rw [hg] at ho; injection ho with ho; subst ho; exact ⟨_, _, _, rfl, by decide⟩

theorem pop_zero (x : Inp) : x.pop 0 = x := by simp [Inp.pop]

theorem pop_plain (x : Inp) : x.pop (plainLen x.queue) = x.drained := by simp [Inp.pop, Inp.drained, drop_plainLen]

/-- The box of the next one turns. -/
theorem AGood.next {B : Nat} {D : Nat → Prop} {gs gs' : GS} {Bo Bg Ba Bp Bn : Nat} {w0 : World} {m : Gm} {outs : List OV} {nx : Int} {v : Value} {blk : Option Nat} {W : World}
    (hA : ABase B D Bo Bg Ba Bp Bn w0) (h : AGood B D gs gs' Bo Bg Ba Bp Bn w0 m outs nx v blk W) (k : Int) : AGood B D gs gs' Bo Bg Ba Bp Bn w0 m outs k v blk (W.setCell ⟨Bn, 0, none⟩ (.int .i64 k)) := by
  have ho : ∀ b, b ≠ Bn → (W.setCell ⟨Bn, 0, none⟩ (.int .i64 k)).heap[b]? = W.heap[b]? := fun b hb => heap_set_ne _ hb
  have hl : ∀ {b : Nat} {c : Array Value} {t : TypeId} {f : Nat × Nat}, W.heap[b]? = some (Obj.cells c t f) → t ≠ 3 → (W.setCell ⟨Bn, 0, none⟩ (.int .i64 k)).heap[b]? = some (Obj.cells c t f) := fun hb h1 => (ho _ (ne_of_cells hb h.hn h1)).trans hb
  have hrow : ∀ {r row}, RowAt W D r row → RowAt (W.setCell ⟨Bn, 0, none⟩ (.int .i64 k)) D r row := fun hr => hr.keep fun b hb _ => ho b (by rintro rfl; have := hA.hD _ hb; have := hA.bn; omega)
  have g := h.gate
  obtain ⟨cs, hc, hcs⟩ := g.harr
  refine ⟨⟨g.pos, g.le, hl g.hG (by decide), ⟨cs, hl hc (by decide), hcs⟩, fun i hi => hl (g.hib i hi) (by decide), g.inj, fun i hi => (g.hq i hi).keep fun b hb => ho b (g.qb_ne hi hb h.hn (by decide)), g.qinj, fun i hi p hp => hrow (g.hrow i hi p hp), g.hD, (ho _ (Ne.symm (ne_of_map h.hn g.hmap))).trans g.hmap⟩, h.like, ⟨hl h.box.box (by decide), h.box.own.keep fun b hb => ho b ?_⟩, h.new, hl h.hg (by decide), hl h.ha (by decide), hl h.hp (by decide), ?_, fun o hm => hrow (h.rows o hm), h.only.setCell (fun _ => .inr hA.bn) _⟩
  · have := h.box.own
    rw [hb] at this
    rcases this.2 with ⟨_, _, hx⟩ | ⟨g', o, cap, cur, hx, _, hg, _⟩
    · cases hx
    · injection hx with hx; subst hx; exact ne_of_cells hg h.hn (by decide)
  · have := heap_set (j := 0) h.hn (.int .i64 k)
    simpa using this

/-- What was given to 'pass'. -/
abbrev P6 (Bo : Nat) (outs news : List OV) (blk : Option Nat) (_ w2 : World) (_ : Value) (w : World) : Prop := Passes w2 Bo outs news blk (.returned (.tuple #[])) w

section walks
set_option maxHeartbeats 2000000
set_option maxRecDepth 100000

theorem body76_ok (n l i B Bo Bg Ba Bp Bn Bs : Nat) (D : Nat → Prop) (gs : GS) (m : Gm) (outs : List OV) (nx : Int) (w0 W : World) (hA : ABase B D Bo Bg Ba Bp Bn w0) (hi : i < m.n)
    (h : ∃ gs' v blk, AGood B D gs gs' Bo Bg Ba Bp Bn w0 m outs nx v blk W) (hlen : outs.length + (m.inp i).queue.length ≤ 1000000) :
    Code.wpIn (Fence.wide.inRound l) n Try.prog body76 (RoundGives B D gs Bo Bg Ba Bp Bn w0 m outs nx i W) (fr76 Bo Bg Ba Bp Bn Bs gs i) W := by
  have hF : ∀ f, (Fence.wide.inRound l).fn f = True := fun _ => rfl
  have hDe : (Fence.wide.inRound l).depth.isSome = false := rfl
  have hDf : Fence.wide.depth.isSome = false := rfl
  unfold body76
  conv => arg 4; whnf
  dsimp only [fr76]
  gi_wp2_with fail
  gi_loopw [13] (fun _ wr => ∃ (j : Nat) (gs' : GS) (v : Value) (blk : Option Nat), j ≤ plainLen (m.inp i).queue ∧ Keeps2 W wr ∧ AGood B D gs gs' Bo Bg Ba Bp Bn w0 (m.upd i ((m.inp i).pop j)) (outs ++ ((m.inp i).queue.take j).map fun p => (i, p)) nx v blk wr) (fun _ wr => qlen wr (gs.ib i))
  case atStart =>
    obtain ⟨gs', v, blk, hg⟩ := h
    exact ⟨0, gs', v, blk, Nat.zero_le _, Keeps2.refl _, by rw [pop_zero, upd_same]; simpa using hg⟩
  case round =>
    obtain ⟨j, gs', v, blk, hj, hkf, hg⟩ := hrel
    have HG := Lib.hid hg
    have hi' : i < (m.upd i ((m.inp i).pop j)).n := hi
    have hin : (m.upd i ((m.inp i).pop j)).inp i = (m.inp i).pop j := by simp [Gm.upd]
    have hlc := hg.gate.lcells hg.like hi'
    rw [hin] at hlc
    obtain ⟨ia, i0, i1, ⟨qa, qc, i2⟩, i3, i4, ifr⟩ := hlc
    by_cases hlt : j < plainLen (m.inp i).queue
    · obtain ⟨hq, hpl⟩ := plain_lt _ _ hlt
      have hql : ((m.inp i).pop j).queue.length = (m.inp i).queue.length - j := by simp [Inp.pop]
      have hqpos : 0 < ((m.inp i).pop j).queue.length := by omega
      have hq0 : (0 : Int) < (((m.inp i).pop j).queue.length : Int) := by omega
      have hsl := hg.gate.hq i hi'
      rw [hin] at hsl
      have hqv : gs'.qv i = .slice qa ((m.inp i).pop j).queue.length qc := by
        have := (hg.gate.icells hi').i2
        rw [hg.like.ib, i2] at this
        exact (Option.some.inj this).symm
      rw [hqv] at hsl
      obtain ⟨g, o, rfl⟩ : ∃ g o, qa = some ⟨g, o, none⟩ := by
        rcases hsl.2 with ⟨hx, _⟩ | ⟨g, o, cap, cur, _, hx, _⟩
        · injection hx with _ hx _; omega
        · injection hx with hx _ _; exact ⟨g, o, hx⟩
      have hhd : ((m.inp i).pop j).queue = (m.inp i).queue[j] :: ((m.inp i).pop (j + 1)).queue := List.drop_eq_getElem_cons hq
      have hcl : ∀ r u, r < 5 → (ecl (m.inp i).queue[j])[r]? = some u → wr.cell? ⟨g, o + r, none⟩ = some u := by
        intro r u hr hu
        refine hsl.cell r u ?_
        rw [hhd, List.flatMap_cons, List.getElem?_append_left (by rw [ecl_len]; exact hr)]
        exact hu
      have c0 := hcl 0 _ (by omega) rfl
      have c1 := hcl 1 _ (by omega) rfl
      have c2 := hcl 2 _ (by omega) rfl
      have c3 := hcl 3 _ (by omega) rfl
      have c4 := hcl 4 _ (by omega) rfl
      rw [Nat.add_zero] at c0
      generalize hx : (m.inp i).queue[j] = x at *
      obtain ⟨e, rv⟩ := x
      obtain ⟨ra, rl, rc, hrv⟩ : ∃ ra rl rc, rv = .slice ra rl rc := by
        obtain ⟨ra, rc, hrv, _⟩ := hg.gate.hrow i hi' (e, rv) (by rw [hin, hhd]; exact List.mem_cons_self)
        exact ⟨ra, _, rc, hrv⟩
      subst hrv
      have hk : (e.k == 3) = false := by
        have : e.k ≠ 3 := by simpa [EV.plain] using hpl
        simpa using this
      have hk' : (e.k != 3) = true := by simp [bne, hk]
      obtain ⟨p0, pf⟩ := blk1 hg.hp
      obtain ⟨bg0, bgf⟩ := blk1 hg.hg
      dsimp only at c0 c1 c2 c3 c4
      have HSL := Lib.hid hsl
      have HHD := Lib.hid hhd
      have HX := Lib.hid hx
      have HQV := Lib.hid hqv
      have HQL := Lib.hid hql
      have HIN := Lib.hid hin
      clear hsl hhd hx hqv hql hin hcl hg hpl hj
      gi_wp2_with fail
      have hmix : Try.prog.follows .mixedOrders = true := by kernel_rfl
      have hLook := fun (W' : World) (hb : Below wr.heap.size wr W') => CallsIn.inRound l ((callsIn_wide (n := n - 1)).2 (f44_plain W' gs' _ i e ra rl rc (HG.out.below hb).gate hi' hk))
      rw [HG.out.like.G] at hLook
      have hPass := fun (W1 W2 : World) (hb : Below wr.heap.size wr W1) (hb2 : Below W1.heap.size W1 W2) (x : Value) (bx : Option Nat) (hx : SlOwn W2 44 6 x 1 (List.flatMap ocl [(i, (e, Value.slice ra rl rc))]) bx) =>
        CallsIn.inRound l ((callsIn_wide (n := n - 1)).2 (f78_any W2 Bo _ [(i, (e, Value.slice ra rl rc))] v x blk ((HG.out.below hb).below hb2).box hx.src (by intro u hu; simp only [List.flatMap_cons, List.flatMap_nil, List.append_nil, ocl, ecl, List.mem_cons, List.not_mem_nil, or_false] at hu; rcases hu with rfl | rfl | rfl | rfl | rfl | rfl <;> rfl) (by simp only [List.length_append, List.length_map, List.length_take, List.length_singleton]; omega)))
      have HLook := Lib.hid hLook
      have HPass := Lib.hid hPass
      clear hLook hPass
      refine region6_ok n l i Bg Bp Bo gs _ qc g o (e, .slice ra rl rc) _ wr (P6 Bo (outs ++ ((m.inp i).queue.take j).map fun p => (i, p)) [(i, (e, Value.slice ra rl rc))] blk) _ rfl rfl rfl rfl rfl p0 bg0 i2 hq0 c0 c1 c2 c3 c4 HLook.out (fun W2 x bx hb hx => (HPass.out wr W2 (Below.refl _ _) hb x bx hx).mono fun e' w' hp => ⟨hp.1, rfl, hp.2⟩) ?_
      intro x2 w2 w3 hb2 hp
      rw [fill11 _ _ _ (by simp)]
      obtain ⟨_, v', blk', hbox, honly, hblk⟩ := hp
      have hg2 := (HG.out.below hb2).passed hA hbox honly hblk (by
        intro ov hov
        rw [List.mem_singleton] at hov
        subst hov
        refine (HG.out.gate.hrow i hi' (e, Value.slice ra rl rc) ?_).below hb2
        rw [HIN.out, HHD.out]
        exact List.mem_cons_self)
      have hlc := hg2.gate.lcells hg2.like hi'
      rw [upd_inp] at hlc
      have hsl := hg2.gate.hq i hi'
      rw [upd_inp, HQV.out] at hsl
      obtain ⟨a', hrun, hsl'⟩ := slice_tail hsl hqpos
      have hi2 := (hg2.gate.icells hi').i2
      rw [hg2.like.ib, HQV.out] at hi2
      obtain ⟨ia, i0, i1, -, i3, i4, ifr⟩ := hlc
      have hkp : Keeps2 wr w3 := (Keeps2.of_only (S := fun _ => False) (Only.of_below hb2) (fun _ _ h => h.elim)).trans (Keeps2.of_only honly (hbox_cells (HG.out.below hb2).box))
      have HKP := Lib.hid hkp
      have HG2 := Lib.hid hg2
      have HS2 := Lib.hid hsl'
      clear HG hg2 hsl hsl' HLook HPass hbox honly hblk c0 c1 c2 c3 c4 p0 pf bg0 bgf
      dsimp only [val6, Nat.reduceAdd]
      gi_wp2_with fail
      have hib := HG2.out.gate.hib i hi'
      rw [upd_inp] at hib
      have hI : (w3.setCell ⟨gs.ib i, 2, none⟩ (.slice (some a') (((m.inp i).pop j).queue.length - 1) (qc - 1))).heap[gs'.ib i]? = some (.cells (icl { (m.inp i).pop j with queue := ((m.inp i).pop (j + 1)).queue } (.slice (some a') (((m.inp i).pop j).queue.length - 1) (qc - 1))) 92 (0, 0)) := by
        rw [← HG2.out.like.ib]
        have := heap_set (j := 2) hib (.slice (some a') (((m.inp i).pop j).queue.length - 1) (qc - 1))
        simpa using this
      have hlen1 : ((m.inp i).pop (j + 1)).queue.length = ((m.inp i).pop j).queue.length - 1 := by
        have := congrArg List.length HHD.out
        simp only [List.length_cons] at this
        omega
      refine ⟨⟨j + 1, { gs' with qv := fun k => if k = i then .slice (some a') (((m.inp i).pop j).queue.length - 1) (qc - 1) else gs'.qv k }, v', blk', by omega, ?_, ?_⟩, ?_⟩
      · refine ((hkf.trans HKP.out).trans (Keeps2.of_only (S := fun b => b = gs.ib i) (Only.setCell (Only.refl (fun b => b = gs.ib i) _) (p := ⟨gs.ib i, 2, none⟩) (fun _ => rfl) _) ?_))
        rintro b ob rfl hb
        rw [← HG2.out.like.ib, HG2.out.gate.hib i hi'] at hb
        injection hb with hb; subst hb; exact ⟨_, _, _, rfl, by decide⟩
      · have hset := HG2.out.gate.setQ (w' := w3.setCell ⟨gs.ib i, 2, none⟩ (.slice (some a') (((m.inp i).pop j).queue.length - 1) (qc - 1))) hi' (.slice (some a') (((m.inp i).pop j).queue.length - 1) (qc - 1)) ((m.inp i).pop (j + 1)).queue (by
            rw [hlen1]
            have e1 : (((m.inp i).pop j).queue.flatMap ecl).drop 5 = ((m.inp i).pop (j + 1)).queue.flatMap ecl := by rw [HHD.out, List.flatMap_cons, List.drop_left' (ecl_len _)]
            have := HS2.out
            rw [e1] at this
            exact this) (by
            intro p hp
            rw [upd_inp, HHD.out]
            exact List.mem_cons_of_mem _ hp) (by rw [upd_inp]; exact hI) (fun b hb => heap_set_ne _ (by rw [HG2.out.like.ib] at hb; exact hb))
        rw [upd_inp, upd_upd] at hset
        have ho : outs ++ List.map (fun p => (i, p)) (List.take (j + 1) (m.inp i).queue) = (outs ++ List.map (fun p => (i, p)) (List.take j (m.inp i).queue)) ++ [(i, (e, Value.slice ra rl rc))] := by
          rw [List.take_succ_eq_append_getElem hq, List.map_append, List.append_assoc, HX.out]
          rfl
        rw [ho]
        exact HG2.out.owned rfl ⟨HG2.out.like.G, HG2.out.like.arr, HG2.out.like.cap, HG2.out.like.map, HG2.out.like.ib, HG2.out.like.qb⟩ hset ((Only.refl _ _).setCell (fun _ => by rw [← HG2.out.like.ib]; exact own_ib gs' hi') _)
      · obtain ⟨_, _, e2, _, _, _⟩ := blk5 hI
        rw [HG2.out.like.ib] at e2
        unfold qlen
        rw [i2, e2]
        dsimp only
        omega
    · have hjl : j = plainLen (m.inp i).queue := by omega
      subst hjl
      rw [pop_plain, take_plainLen] at HG
      rw [pop_plain] at hi' hin i0 i1 i2 i3 i4
      by_cases hz : (m.inp i).drained.queue.length = 0
      · rw [hz] at i2
        have HIN := Lib.hid hin
        clear hin hi'
        gi_wp2_with fail
        refine ⟨hkf, gs', v, blk, ?_⟩
        rw [if_neg (fun hh => hh.2 (List.eq_nil_of_length_eq_zero hz))]
        exact HG.out
      · have hpos : 0 < (m.inp i).drained.queue.length := by omega
        have hpos' : (0 : Int) < ((m.inp i).drained.queue.length : Int) := by omega
        have hsl := HG.out.gate.hq i hi'
        rw [hin] at hsl
        have hqv : gs'.qv i = .slice qa (m.inp i).drained.queue.length qc := by
          have := (HG.out.gate.icells hi').i2
          rw [HG.out.like.ib, i2] at this
          exact (Option.some.inj this).symm
        rw [hqv] at hsl
        obtain ⟨g, o, rfl⟩ : ∃ g o, qa = some ⟨g, o, none⟩ := by
          rcases hsl.2 with ⟨hx, _⟩ | ⟨g, o, cap, cur, _, hx, _⟩
          · injection hx with _ hx _; omega
          · injection hx with hx _ _; exact ⟨g, o, hx⟩
        have hc0 : wr.cell? ⟨g, o, none⟩ = some (.int .i64 3) := by
          have h1 : plainLen (m.inp i).queue < (m.inp i).queue.length := by
            have := hpos
            simp only [Inp.drained, ← drop_plainLen, List.length_drop] at this
            omega
          have h2 := plain_end _ h1
          have h3 : (m.inp i).drained.queue = (m.inp i).queue[plainLen (m.inp i).queue] :: (m.inp i).queue.drop (plainLen (m.inp i).queue + 1) := by
            rw [← pop_plain]; exact List.drop_eq_getElem_cons h1
          have := hsl.cell 0 (.int .i64 3) (by
            rw [h3, List.flatMap_cons, List.getElem?_append_left (by rw [ecl_len]; omega)]
            simp only [EV.plain, bne_eq_false_iff_eq] at h2
            simp [ecl, h2])
          simpa using this
        obtain ⟨n0, nf⟩ := blk1 HG.out.hn
        have hkn : Keeps2 W (wr.setCell ⟨Bn, 0, none⟩ (.int .i64 i)) := hkf.trans (Keeps2.of_only (S := fun b => b = Bn) (Only.setCell (Only.refl (fun b => b = Bn) _) (p := ⟨Bn, 0, none⟩) (fun _ => rfl) _) (by
          rintro b ob rfl hb
          rw [HG.out.hn] at hb
          injection hb with hb; subst hb; exact ⟨_, _, _, rfl, by decide⟩))
        have hne : (m.inp i).drained.queue ≠ [] := fun e => by rw [e] at hpos; exact absurd hpos (by decide)
        have HIN := Lib.hid hin
        have HSL := Lib.hid hsl
        have HKN := Lib.hid hkn
        have HNE := Lib.hid hne
        clear hin hsl hqv hkn hne hz hj hlt hi'
        rcases Int.lt_or_le nx 0 with hnx | hnx
        · gi_wp2_with fail
          refine ⟨HKN.out, gs', v, blk, ?_⟩
          rw [if_pos ⟨hnx, HNE.out⟩]
          exact HG.out.next hA i
        · have hnx' : ¬ nx < 0 := by omega
          gi_wp2_with fail
          refine ⟨hkf, gs', v, blk, ?_⟩
          rw [if_neg (fun hh => absurd hh.1 (by omega))]
          exact HG.out
end walks
end Go.Proofs.Ytdnkfgnjeibjeaa

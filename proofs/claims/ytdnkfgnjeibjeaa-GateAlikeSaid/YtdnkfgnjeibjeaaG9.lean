import Derived.Test.YtdnkfgnjeibjeaaG8
import Derived.Laws.EntriesVeiled
namespace Go.Proofs.Ytdnkfgnjeibjeaa
open Go.RowKit Go.Shelf

/-- The state of 'goOn' between its rounds. -/
structure AStart (B : Nat) (D : Nat → Prop) (gs gs' : GS) (Bo Bg Ba : Nat) (w0 : World) (m : Gm) (outs : List OV) (v : Value) (blk : Option Nat) (W : World) : Prop where
  gate : GateAt W D gs' m
  like : gs.like gs'
  box : OutBox W Bo outs v blk
  new : ∀ g, blk = some g → B ≤ g
  hg : W.heap[Bg]? = some (.cells #[.pointer (some ⟨gs.G, 0, none⟩)] 25 (0, 0))
  ha : W.heap[Ba]? = some (.cells #[.func (.func 76) #[] #[.pointer (some ⟨Bg, 0, none⟩), .pointer (some ⟨Ba, 0, none⟩)]] 134 (0, 0))
  rows : ∀ o ∈ outs, RowAt W D o.2.2 o.2.1.row
  only : Only (fun b => gs.own m.n b ∨ B ≤ b) w0 W

section
variable {B : Nat} {D : Nat → Prop} {gs gs' : GS} {Bo Bg Ba Bp Bn : Nat} {w0 : World} {m : Gm} {outs : List OV} {nx : Int} {v : Value} {blk : Option Nat} {W W' : World}

theorem AGood.start (h : AGood B D gs gs' Bo Bg Ba Bp Bn w0 m outs nx v blk W) : AStart B D gs gs' Bo Bg Ba w0 m outs v blk W :=
  ⟨h.gate, h.like, h.box, h.new, h.hg, h.ha, h.rows, h.only⟩

theorem AStart.good (h : AStart B D gs gs' Bo Bg Ba w0 m outs v blk W) (hp : W.heap[Bp]? = some (.cells #[.func (.func 78) #[] #[.pointer (some ⟨Bo, 0, none⟩)]] 135 (0, 0))) (hn : W.heap[Bn]? = some (.cells #[.int .i64 nx] 3 (0, 0))) :
    AGood B D gs gs' Bo Bg Ba Bp Bn w0 m outs nx v blk W :=
  ⟨h.gate, h.like, h.box, h.new, h.hg, h.ha, hp, hn, h.rows, h.only⟩

theorem AStart.below (h : AStart B D gs gs' Bo Bg Ba w0 m outs v blk W) (hb : Below W.heap.size W W') : AStart B D gs gs' Bo Bg Ba w0 m outs v blk W' := by
  have hl : ∀ {b o}, W.heap[b]? = some o → W'.heap[b]? = some o := fun hh => (hb.block _ (heap_lt hh)).trans hh
  refine ⟨h.gate.below hb, h.like, ⟨hl h.box.box, h.box.own.keep fun g hg => ?_⟩, h.new, hl h.hg, hl h.ha, fun o ho => (h.rows o ho).below hb, h.only.trans (Only.of_below (S := fun _ => False) hb) (fun _ _ hf => hf.elim)⟩
  have := h.box.own
  subst hg
  exact hb.block _ this.blk_lt

/-- What is no block of cells turns beyond the gate's. -/
theorem AGood.grow (hA : ABase B D Bo Bg Ba Bp Bn w0) (h : AGood B D gs gs' Bo Bg Ba Bp Bn w0 m outs nx v blk W) {row : Option Nat} (hg : W.grownBy W' row) (hr : ∀ r, row = some r → B ≤ r ∧ r ≠ gs.map ∧ ∃ o : Obj, W.heap[r]? = some o ∧ o.isCells = false) :
    AGood B D gs gs' Bo Bg Ba Bp Bn w0 m outs nx v blk W' := by
  have hl : ∀ {b : Nat} {c : Array Value} {t : TypeId} {f : Nat × Nat}, W.heap[b]? = some (Obj.cells c t f) → W'.heap[b]? = some (Obj.cells c t f) := fun {b c t f} hb => (hg.block b (heap_lt hb) (fun e => by
    obtain ⟨_, _, o, ho, hc⟩ := hr b e.symm
    rw [hb] at ho
    injection ho with ho
    subst ho
    cases hc)).trans hb
  have hl2 : ∀ {b : Nat} {c : Array Value} {t : TypeId} {f : Nat × Nat}, W.heap[b]? = some (Obj.cells c t f) → W'.heap[b]? = W.heap[b]? := fun hb => (hl hb).trans hb.symm
  have hrow : ∀ {r row}, RowAt W D r row → RowAt W' D r row := fun hx => hx.keep fun b hb hlt => hg.block b hlt (fun e => by
    have h1 := hA.hD b hb
    have h2 := (hr b e.symm).1
    omega)
  have g := h.gate
  obtain ⟨cs, hc, hcs⟩ := g.harr
  refine ⟨⟨g.pos, g.le, hl g.hG, ⟨cs, hl hc, hcs⟩, fun i hi => hl (g.hib i hi), g.inj, fun i hi => (g.hq i hi).keep fun b hb => ?_, g.qinj, fun i hi p hp => hrow (g.hrow i hi p hp), g.hD, ?_⟩, h.like, ⟨hl h.box.box, h.box.own.keep fun b hb => ?_⟩, h.new, hl h.hg, hl h.ha, hl h.hp, hl h.hn, fun o ho => hrow (h.rows o ho), ?_⟩
  · obtain ⟨cur, hc⟩ := g.qb_cells hi hb; exact hl2 hc
  · refine (hg.block _ (heap_lt g.hmap) (fun e => (hr _ e.symm).2.1 h.like.map)).trans g.hmap
  · have := h.box.own
    rw [hb] at this
    rcases this.2 with ⟨_, _, hx⟩ | ⟨g', o, cap, cur, hx, _, hgg, _⟩
    · cases hx
    · injection hx with hx; subst hx; exact hl2 hgg
  · exact h.only.grown hg (fun k hk _ => .inr (hr k hk).1)
end

/-- What the inputs hand on, in their order. -/
def drainOuts (m : Gm) (pre : List Nat) : List OV := pre.flatMap fun i => ((m.inp i).queue.takeWhile EV.plain).map fun p => (i, p)

/-- The first input with something left. -/
def drainNx (m : Gm) (pre : List Nat) : Int := pre.foldl (fun nx i => if nx < 0 ∧ (m.inp i).drained.queue ≠ [] then (i : Int) else nx) (-1)

theorem drainOuts_snoc (m : Gm) (pre : List Nat) (i : Nat) : drainOuts m (pre ++ [i]) = drainOuts m pre ++ ((m.inp i).queue.takeWhile EV.plain).map fun p => (i, p) := by
  simp [drainOuts]

theorem drainNx_snoc (m : Gm) (pre : List Nat) (i : Nat) : drainNx m (pre ++ [i]) = if drainNx m pre < 0 ∧ (m.inp i).drained.queue ≠ [] then (i : Int) else drainNx m pre := by
  unfold drainNx
  rw [List.foldl_append]
  rfl

def qsum (m : Gm) : Nat → Nat
  | 0 => 0
  | k + 1 => qsum m k + (m.inp k).queue.length

theorem qsum_mono (m : Gm) {a b : Nat} (h : a ≤ b) : qsum m a ≤ qsum m b := by
  induction b with
  | zero => have : a = 0 := by omega
            subst this; exact Nat.le_refl _
  | succ b ih =>
    rcases Nat.lt_or_ge b a with e | e
    · have : a = b + 1 := by omega
      subst this; exact Nat.le_refl _
    · have := ih e
      simp only [qsum]; omega

theorem drainOuts_len (m : Gm) (k : Nat) : (drainOuts m (m.list k)).length ≤ qsum m k := by
  induction k with
  | zero => simp [drainOuts, Gm.list, qsum]
  | succ k ih =>
    rw [m.list_succ]
    by_cases h : m.waits k
    · rw [if_pos h, drainOuts_snoc]
      have := (List.takeWhile_prefix (p := EV.plain) (l := (m.inp k).queue)).length_le
      simp only [List.length_append, List.length_map, qsum]
      omega
    · rw [if_neg h, List.append_nil]
      simp only [qsum]; omega

/-- The loop's state. -/
def LoopI (B : Nat) (D : Nat → Prop) (gs : GS) (Bo Bg Ba Bp Bn Bs : Nat) (w0 : World) (m : Gm) (outs : List OV) (pre : List Nat) (W : World) : Prop :=
  (∃ gs' v blk, AGood B D gs gs' Bo Bg Ba Bp Bn w0 (m.drainTo pre) (outs ++ drainOuts m pre) (drainNx m pre) v blk W) ∧ W.heap[Bs]? = some (.cells #[.pointer (some ⟨gs.G, 0, none⟩)] 25 (0, 0))

attribute [local go_sem] Oper.semAt_some

section walks
set_option maxHeartbeats 2000000
set_option maxRecDepth 100000

theorem res76 (T : Array Value) (W : World) : (results Try.f76 T).run Try.prog W = .ok (.tuple #[]) W := by kernel_rfl

theorem f76_plain (n B Bo Bg Ba : Nat) (D : Nat → Prop) (gs gs' : GS) (m : Gm) (outs : List OV) (v : Value) (blk : Option Nat) (w0 w : World)
    (hA : ABase B D Bo Bg Ba w.heap.size (w.heap.size + 1) w0) (hmap : gs.map < B)
    (h : AStart B D gs gs' Bo Bg Ba w0 m outs v blk w) (hlen : outs.length + qsum m m.n ≤ 1000000) (hnx : drainNx m (m.list m.n) < 0) :
    CallsIn Fence.wide n Try.prog 76 #[.func (.func 78) #[] #[.pointer (some ⟨Bo, 0, none⟩)], .pointer (some ⟨Bg, 0, none⟩), .pointer (some ⟨Ba, 0, none⟩)] w fun e W' => e = .returned (.tuple #[]) ∧
      ∃ gs' v blk, AStart B D gs gs' Bo Bg Ba w0 (m.drainTo (m.list m.n)) (outs ++ drainOuts m (m.list m.n)) v blk W' := by
  have hF : ∀ f, Fence.wide.fn f = True := fun _ => rfl
  have hDe : Fence.wide.depth.isSome = false := rfl
  obtain ⟨b0, bf⟩ := blk1 h.hg
  obtain ⟨a0, af⟩ := blk1 h.ha
  have l1 := heap_lt h.hg
  have l2 := heap_lt h.ha
  have l3 := World.new_ne w _ b0
  have l4 : Bg < w.heap.size + 1 := by omega
  have hcl := (callsIn_wide (n := n - 1)).2 (f77_any ((w.alloc (Obj.cells #[Value.func (Fn.func 78) #[] #[.pointer (some ⟨Bo, 0, none⟩)]] 135)).alloc (Obj.cells #[Value.int IntKind.i64 (-1)] 3)) gs)
  have HC := Lib.hid hcl
  have HH := Lib.hid h
  clear hcl h
  refine callsIn_of_wp_marks Try.func76 rfl trivial ?_ rfl
  simp only [Try.ntmps76, List.size_toArray, List.length_cons, List.length_nil, Nat.reduceAdd, Nat.reduceSub, Array.replicate_succ, Array.replicate_zero, List.push_toArray, List.append_toArray, List.nil_append, List.cons_append]
  gi_wp2_with (gi_at_call 77; refine HC.out.mono ?_; rintro e w' ⟨rfl, rfl⟩)
  refine range_law (α := Nat) (gf := 93) (lb := #[.pointer (some ⟨w.heap.size + 2, 0, none⟩)]) ?_ ?_ (fun i => #[.int .i64 i, .pointer (some ⟨gs.ib i, 0, none⟩)]) ?_ (LoopI B D gs Bo Bg Ba w.heap.size (w.heap.size + 1) (w.heap.size + 2) w0 m outs) ?_ ?_ (fun pre i => pre = m.list i ∧ i < m.n ∧ m.waits i = true) (fun xs => xs = m.list m.n) ?_ (fr76 Bo Bg Ba w.heap.size (w.heap.size + 1) (w.heap.size + 2) gs) ?_ ?_ ?_
  · rfl
  · intro args w'
    kernel_rfl
  · intro i; rfl
  · rintro pre W W' row ⟨⟨gs1, v1, blk1, hg⟩, hs⟩ hgr hrow
    have hB : B ≤ w.heap.size := Nat.le_trans hA.hB HH.out.only.size
    refine ⟨⟨gs1, v1, blk1, hg.grow hA hgr fun r hr => ?_⟩, ?_⟩
    · obtain ⟨h1, h2⟩ := hrow r hr
      simp only [World.size_alloc] at h1
      exact ⟨by omega, by omega, h2⟩
    · refine (hgr.block _ (heap_lt hs) (fun e => ?_)).trans hs
      obtain ⟨_, o, ho, hc⟩ := hrow _ e.symm
      rw [hs] at ho; injection ho with ho; subst ho; cases hc
  · have hb3 : Below w.heap.size w (((w.alloc (Obj.cells #[Value.func (Fn.func 78) #[] #[.pointer (some ⟨Bo, 0, none⟩)]] 135)).alloc (Obj.cells #[Value.int IntKind.i64 (-1)] 3)).alloc (Obj.cells #[.pointer (some ⟨gs.G, 0, none⟩)] 25)) := (((Below.refl _ _).alloc (Nat.le_refl _) _).alloc (by simp) _).alloc (by simp only [World.size_alloc]; omega) _
    refine ⟨⟨gs', v, blk, ?_⟩, ?_⟩
    · have h0 : outs ++ drainOuts m [] = outs := by simp [drainOuts]
      rw [h0]
      refine (HH.out.below hb3).good ?_ ?_
      · refine (Below.heap_alloc _ _ _ (by simp only [World.size_alloc]; omega)).trans ((Below.heap_alloc _ _ _ (by simp)).trans (World.alloc_heap_new _ _))
      · have := World.alloc_heap_new (w.alloc (Obj.cells #[Value.func (Fn.func 78) #[] #[.pointer (some ⟨Bo, 0, none⟩)]] 135)) (Obj.cells #[Value.int IntKind.i64 (-1)] 3)
        rw [World.size_alloc] at this
        exact (Below.heap_alloc _ _ _ (by simp)).trans this
    · have := World.alloc_heap_new ((w.alloc (Obj.cells #[Value.func (Fn.func 78) #[] #[.pointer (some ⟨Bo, 0, none⟩)]] 135)).alloc (Obj.cells #[Value.int IntKind.i64 (-1)] 3)) (Obj.cells #[.pointer (some ⟨gs.G, 0, none⟩)] 25)
      rw [World.size_alloc, World.size_alloc] at this
      exact this
  · intro l J W hJI hJb hY hJ0
    refine f93_in (D := D) n l (w.heap.size + 2) gs m J W (fun pre W hJ => ?_) hJb (fun i W1 hJ hi hw => ?_) hJ0
    · obtain ⟨⟨gs1, v1, blk1', hg⟩, hs⟩ := hJI pre W hJ
      exact ⟨gs1, hg.gate, hg.like, (blk1 hs).1⟩
    · exact hY (m.list i) i W1 hJ ⟨rfl, hi, hw⟩
  · intro l i W K hK
    have hFi : ∀ f, (Fence.wide.inRound l).fn f = True := fun _ => rfl
    gi_wp2_with fail
    exact hK
  · rintro l pre i W ⟨⟨gs1, v1, blk1', hg⟩, hs⟩ ⟨rfl, hi, hw⟩
    have hin : (m.drainTo (m.list i)).inp i = m.inp i := m.drainTo_inp _ _ (m.not_mem_list i)
    have hq1 := drainOuts_len m i
    have hq2 : qsum m (i + 1) ≤ qsum m m.n := qsum_mono m hi
    simp only [qsum] at hq2
    have hb := body76_ok (n - 1 - 1) l i B Bo Bg Ba w.heap.size (w.heap.size + 1) (w.heap.size + 2) D gs (m.drainTo (m.list i)) (outs ++ drainOuts m (m.list i)) (drainNx m (m.list i)) w0 W hA (by rw [(m.drainTo_al (m.list i)).2.1]; exact hi) ⟨gs1, v1, blk1', hg⟩ (by rw [hin, List.length_append]; omega)
    refine wpIn_mono hb ?_
    rintro e a' W' hr
    cases e with
    | normal =>
      obtain ⟨hk, gs2, v2, blk2, hg2⟩ := hr
      rw [hin] at hg2
      have e1 := m.drainTo_snoc (m.list i) i
      rw [hin] at e1
      refine ⟨⟨hk.all.size, fun k o _ => hk.all.same k o (Nat.zero_le _)⟩, ⟨gs2, v2, blk2, ?_⟩, hk.box _ _ _ hs⟩
      rw [e1, drainOuts_snoc, drainNx_snoc, ← List.append_assoc]
      exact hg2
    | ret => exact hr.elim
    | exit id => exact hr.elim
    | goto t => exact hr.elim
    | panic ch => exact hr.elim
    | outgrown => exact hr.elim
  · rintro Dd xs W hD rfl ⟨⟨gs1, v1, blk1', hg⟩, hs⟩ hdef
    obtain ⟨n0, nf⟩ := blk1 hg.hn
    have HG := Lib.hid hg
    have HD := Lib.hid hdef
    clear hg hdef
    gi_wp2_with fail
    refine ⟨(fun hh => by cases hh), .inl ⟨Dd, _, rfl, run_takeDeferred HD.out, ?_⟩⟩
    have hB : B ≤ w.heap.size := Nat.le_trans hA.hB HH.out.only.size
    simp only [World.size_alloc] at hD
    have hfin := HG.out.grow hA (grownBy_putObj' W Dd (.deferred none)) (fun r hr => by
      injection hr with hr
      subst hr
      exact ⟨by omega, by omega, _, HD.out, rfl⟩)
    exact ⟨.tuple #[], res76 _ _, rfl, gs1, v1, blk1', hfin.start⟩
end walks
end Go.Proofs.Ytdnkfgnjeibjeaa

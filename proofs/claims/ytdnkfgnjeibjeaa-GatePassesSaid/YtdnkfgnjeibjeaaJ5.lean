import Derived.Test.YtdnkfgnjeibjeaaJ4
namespace Go.Proofs.Ytdnkfgnjeibjeaa.W
open Go.RowKit Go.Shelf

theorem waits_none {m : Gm} (hem : ∀ i, i < m.n → (m.inp i).queue = []) {i : Nat} (hi : i < m.n) : m.waits i = false := by simp [Gm.waits, hem i hi]

theorem list_none {m : Gm} (hem : ∀ i, i < m.n → (m.inp i).queue = []) : ∀ k, k ≤ m.n → m.list k = []
  | 0, _ => rfl
  | k + 1, h => by rw [m.list_succ, list_none hem k (by omega), waits_none hem (by omega)]; rfl

/-- The state of a 'goOn' that finds nothing. -/
def Idle (w : World) (D : Nat → Prop) (gs : GS) (m : Gm) (Bs : Nat) (pre : List Nat) (W : World) : Prop :=
  pre = [] ∧ GateAt W D gs m ∧ W.heap[Bs]? = some (.cells #[.pointer (some ⟨gs.G, 0, none⟩)] 25 (0, 0)) ∧ W.heap[w.heap.size + 1]? = some (.cells #[.int .i64 (-1)] 3 (0, 0)) ∧ Below w.heap.size w W

attribute [local go_sem] Oper.semAt_some

section walks
set_option maxHeartbeats 1000000
set_option maxRecDepth 100000

theorem f76_none (n Bo Bg Ba : Nat) (D : Nat → Prop) (gs : GS) (m : Gm) (w : World) (h : GateAt w D gs m) (hD : ∀ b, D b → b < w.heap.size) (hem : ∀ i, i < m.n → (m.inp i).queue = [])
    (hg : w.heap[Bg]? = some (.cells #[.pointer (some ⟨gs.G, 0, none⟩)] 25 (0, 0)))
    (ha : w.heap[Ba]? = some (.cells #[.func (.func 76) #[] #[.pointer (some ⟨Bg, 0, none⟩), .pointer (some ⟨Ba, 0, none⟩)]] 134 (0, 0))) :
    CallsIn Fence.wide n Try.prog 76 #[.func (.func 78) #[] #[.pointer (some ⟨Bo, 0, none⟩)], .pointer (some ⟨Bg, 0, none⟩), .pointer (some ⟨Ba, 0, none⟩)] w fun e W' => e = .returned (.tuple #[]) ∧ Below w.heap.size w W' := by
  have hF : ∀ f, Fence.wide.fn f = True := fun _ => rfl
  have hDe : Fence.wide.depth.isSome = false := rfl
  obtain ⟨b0, bf⟩ := blk1 hg
  obtain ⟨a0, af⟩ := blk1 ha
  have l1 := heap_lt hg
  have l2 := heap_lt ha
  have l3 := World.new_ne w _ b0
  have l4 : Bg < w.heap.size + 1 := by omega
  have hcl := (callsIn_wide (n := n - 1)).2 (f77_any ((w.alloc (Obj.cells #[Value.func (Fn.func 78) #[] #[.pointer (some ⟨Bo, 0, none⟩)]] 135)).alloc (Obj.cells #[Value.int IntKind.i64 (-1)] 3)) gs)
  have HC := Lib.hid hcl
  have HH := Lib.hid h
  have HE := Lib.hid hem
  have HDD := Lib.hid hD
  clear hcl h hem hD
  refine callsIn_of_wp_marks Try.func76 rfl trivial ?_ rfl
  simp only [Try.ntmps76, List.size_toArray, List.length_cons, List.length_nil, Nat.reduceAdd, Nat.reduceSub, Array.replicate_succ, Array.replicate_zero, List.push_toArray, List.append_toArray, List.nil_append, List.cons_append]
  gi_wp2_with (gi_at_call 77; refine HC.out.mono ?_; rintro e w' ⟨rfl, rfl⟩)
  refine range_law (α := Nat) (gf := 93) (lb := #[.pointer (some ⟨w.heap.size + 2, 0, none⟩)]) ?_ ?_ (fun i => #[.int .i64 i, .pointer (some ⟨gs.ib i, 0, none⟩)]) ?_ (Idle w D gs m (w.heap.size + 2)) ?_ ?_ (fun _ _ => False) (fun xs => xs = []) ?_ (fr76 Bo Bg Ba w.heap.size (w.heap.size + 1) (w.heap.size + 2) ⟨gs.G, 0, 0, 0, 0, gs.ib, fun _ => undef, fun _ => none⟩) ?_ ?_ ?_
  · rfl
  · intro args w'
    kernel_rfl
  · intro i; rfl
  · rintro pre W W' row ⟨rfl, hg, hs, hn, hb⟩ hgr hrow
    have hsz := HH.out
    have hr : ∀ b, b < w.heap.size + 3 → some b ≠ row := fun b hb e => by
      obtain ⟨h1, _⟩ := hrow b e.symm
      simp only [World.size_alloc] at h1
      omega
    have hlt : ∀ b, gs.own m.n b ∨ D b → b < w.heap.size := fun b hb => by
      rcases hb with hb | hb
      · exact HH.out.lt hb
      · exact HDD.out b hb
    exact ⟨rfl, hg.hold' fun b hl ho => hgr.block b hl (hr b (by have := hlt b ho; omega)), (hgr.block _ (heap_lt hs) (hr _ (by omega))).trans hs, (hgr.block _ (heap_lt hn) (hr _ (by omega))).trans hn,
      ⟨hgr.os.trans hb.os, hgr.tape.trans hb.tape, hgr.output.trans hb.output, Nat.le_trans hb.size hgr.size, fun b hl => (hgr.block b (Nat.lt_of_lt_of_le hl hb.size) (hr b (by omega))).trans (hb.block b hl)⟩⟩
  · have hb3 : Below w.heap.size w (((w.alloc (Obj.cells #[Value.func (Fn.func 78) #[] #[.pointer (some ⟨Bo, 0, none⟩)]] 135)).alloc (Obj.cells #[Value.int IntKind.i64 (-1)] 3)).alloc (Obj.cells #[.pointer (some ⟨gs.G, 0, none⟩)] 25)) := (((Below.refl _ _).alloc (Nat.le_refl _) _).alloc (by simp) _).alloc (by simp only [World.size_alloc]; omega) _
    refine ⟨rfl, HH.out.below hb3, ?_, ?_, hb3⟩
    · have := World.alloc_heap_new ((w.alloc (Obj.cells #[Value.func (Fn.func 78) #[] #[.pointer (some ⟨Bo, 0, none⟩)]] 135)).alloc (Obj.cells #[Value.int IntKind.i64 (-1)] 3)) (Obj.cells #[.pointer (some ⟨gs.G, 0, none⟩)] 25)
      rw [World.size_alloc, World.size_alloc] at this
      exact this
    · have := World.alloc_heap_new (w.alloc (Obj.cells #[Value.func (Fn.func 78) #[] #[.pointer (some ⟨Bo, 0, none⟩)]] 135)) (Obj.cells #[Value.int IntKind.i64 (-1)] 3)
      rw [World.size_alloc] at this
      exact (Below.heap_alloc _ _ _ (by simp)).trans this
  · intro l J W hJI hJb hY hJ0
    refine (f93_in (D := D) n l (w.heap.size + 2) gs m J W (fun pre W hJ => ?_) hJb (fun i W1 hJ hi hw => ?_) hJ0).mono ?_
    · obtain ⟨rfl, hg, hs, _⟩ := hJI pre W hJ
      exact ⟨gs, hg, GS.like.refl gs, (blk1 hs).1⟩
    · rw [waits_none HE.out hi] at hw; cases hw
    · rintro e W' ⟨hv, xs, rfl, hJ⟩
      exact ⟨hv, _, list_none HE.out m.n (Nat.le_refl _), hJ⟩
  · intro l i W K hK
    have hFi : ∀ f, (Fence.wide.inRound l).fn f = True := fun _ => rfl
    gi_wp2_with fail
    exact hK
  · rintro l pre i W _ hf
    exact hf.elim
  · rintro Dd xs W hD rfl ⟨_, hg, hs, hn, hb⟩ hdef
    obtain ⟨n0, nf⟩ := blk1 hn
    have HD := Lib.hid hdef
    have HB := Lib.hid hb
    clear hg hdef hb hs hn
    gi_wp2_with fail
    refine ⟨(fun hh => by cases hh), .inl ⟨Dd, _, rfl, run_takeDeferred HD.out, ?_⟩⟩
    simp only [World.size_alloc] at hD
    refine ⟨.tuple #[], res76 _ _, rfl, ?_⟩
    have hgr := grownBy_putObj' W Dd (.deferred none)
    exact ⟨hgr.os.trans HB.out.os, hgr.tape.trans HB.out.tape, hgr.output.trans HB.out.output, Nat.le_trans HB.out.size hgr.size, fun b hl => (hgr.block b (Nat.lt_of_lt_of_le hl HB.out.size) (fun e => by injection e with e; omega)).trans (HB.out.block b hl)⟩

theorem f55_none (D : Nat → Prop) (gs : GS) (m : Gm) (w : World) (h : GateAt w D gs m) (hD : ∀ b, D b → b < w.heap.size) (hem : ∀ i, i < m.n → (m.inp i).queue = []) :
    Calls Try.prog 55 #[.pointer (some ⟨gs.G, 0, none⟩)] w fun e w' => e = .returned (.slice none 0 0) ∧ Below w.heap.size w w' := by
  have hG := h.lt (own_G gs m.n)
  have hM := h.lt (.inr (.inr (.inl rfl)))
  obtain ⟨W0, hW0⟩ : ∃ W0, W0 = (((w.alloc (Obj.cells #[.pointer (some ⟨gs.G, 0, none⟩)] 25)).alloc (Obj.cells #[.slice none 0 0] 37)).alloc (Obj.cells #[.func (.func 76) #[] #[.pointer (some ⟨w.heap.size, 0, none⟩), .pointer (some ⟨w.heap.size + 2, 0, none⟩)]] 134)) := ⟨_, rfl⟩
  have hb : Below w.heap.size w W0 := by
    rw [hW0]
    exact (((Below.refl _ _).alloc (Nat.le_refl _) _).alloc (by simp) _).alloc (by simp only [World.size_alloc]; omega) _
  have hsz : W0.heap.size = w.heap.size + 3 := by rw [hW0]; simp
  have hg0 : W0.heap[w.heap.size]? = some (.cells #[.pointer (some ⟨gs.G, 0, none⟩)] 25 (0, 0)) := by
    rw [hW0]
    exact (Below.heap_alloc _ _ _ (by simp only [World.size_alloc]; omega)).trans ((Below.heap_alloc _ _ _ (by simp)).trans (World.alloc_heap_new _ _))
  have hg1 : W0.heap[w.heap.size + 1]? = some (.cells #[.slice none 0 0] 37 (0, 0)) := by
    rw [hW0]
    have := World.alloc_heap_new (w.alloc (Obj.cells #[.pointer (some ⟨gs.G, 0, none⟩)] 25)) (Obj.cells #[.slice none 0 0] 37)
    rw [World.size_alloc] at this
    exact (Below.heap_alloc _ _ _ (by simp)).trans this
  have hg2 : W0.heap[w.heap.size + 2]? = some (.cells #[.func (.func 76) #[] #[.pointer (some ⟨w.heap.size, 0, none⟩), .pointer (some ⟨w.heap.size + 2, 0, none⟩)]] 134 (0, 0)) := by
    rw [hW0]
    have := World.alloc_heap_new ((w.alloc (Obj.cells #[.pointer (some ⟨gs.G, 0, none⟩)] 25)).alloc (Obj.cells #[.slice none 0 0] 37)) (Obj.cells #[.func (.func 76) #[] #[.pointer (some ⟨w.heap.size, 0, none⟩), .pointer (some ⟨w.heap.size + 2, 0, none⟩)]] 134)
    rw [World.size_alloc, World.size_alloc] at this
    exact this
  have hc := callsIn_wide.1 (f76_none 0 (w.heap.size + 1) w.heap.size (w.heap.size + 2) D gs m W0 (h.below hb) (fun b hb' => by have := hD b hb'; omega) hem hg0 hg2)
  have o0 := (blk1 hg1).1
  have HO := fun (w1 : World) (hb1 : Below W0.heap.size W0 w1) => (hb1.cell (p := ⟨w.heap.size + 1, 0, none⟩) (by show w.heap.size + 1 < _; omega)).trans o0
  have HB := Lib.hid hb
  have HSZ := Lib.hid hsz
  have HO' := Lib.hid HO
  rw [hW0] at hc HB HSZ HO'
  have HC := Lib.hid hc
  clear hc hg0 hg1 hg2 hb hsz h hW0 o0 HO W0
  go_enter Try.func55, Try.ntmps55
  go_wp2_with (go_at_call 76; refine HC.out.mono ?_; rintro e w1 ⟨rfl, hb1⟩; have o0 := HO'.out _ hb1; have HB1 := Lib.hid hb1; clear hb1)
  go_ret
  exact ⟨rfl, HB.out.trans (HB1.out.mono HB.out.size)⟩
end walks
end Go.Proofs.Ytdnkfgnjeibjeaa.W

import Derived.Test.YtdnkfgnjeibjeaaG9
namespace Go.Proofs.Ytdnkfgnjeibjeaa
open Go.RowKit Go.Shelf

/-- What a call on a gate gives: a slice of its own of what passed; of what was there only the gate has turned. -/
def Gives (w : World) (D : Nat → Prop) (gs : GS) (n : Nat) (m' : Gm) (outs : List OV) (e : Ending) (w' : World) : Prop :=
  ∃ gs' v blk, e = .returned v ∧ m'.n = n ∧ SlOwn w' 44 6 v outs.length (outs.flatMap ocl) blk ∧ (∀ g, blk = some g → w.heap.size ≤ g) ∧ GateAt w' D gs' m' ∧ gs.like gs' ∧ (∀ o ∈ outs, RowAt w' D o.2.2 o.2.1.row) ∧ Only (gs.own n) w w'

/-- 'goOn' brings a gate there. -/
def GoesTo (D : Nat → Prop) (m m' : Gm) (outs : List OV) : Prop :=
  ∀ gs w, GateAt w D gs m → (∀ b, D b → b < w.heap.size) → Calls Try.prog 55 #[.pointer (some ⟨gs.G, 0, none⟩)] w (Gives w D gs m.n m' outs)

section walks
set_option maxHeartbeats 1000000
set_option maxRecDepth 100000

theorem f55_plain (D : Nat → Prop) (m : Gm) (hlen : qsum m m.n ≤ 1000000) (hnx : drainNx m (m.list m.n) < 0) : GoesTo D m (m.drainTo (m.list m.n)) (drainOuts m (m.list m.n)) := by
  intro gs w h hD
  have hG := h.lt (own_G gs m.n)
  have hM := h.lt (.inr (.inr (.inl rfl)))
  obtain ⟨W0, hW0⟩ : ∃ W0, W0 = (((w.alloc (Obj.cells #[.pointer (some ⟨gs.G, 0, none⟩)] 25)).alloc (Obj.cells #[.slice none 0 0] 37)).alloc (Obj.cells #[.func (.func 76) #[] #[.pointer (some ⟨w.heap.size, 0, none⟩), .pointer (some ⟨w.heap.size + 2, 0, none⟩)]] 134)) := ⟨_, rfl⟩
  have hb : Below w.heap.size w W0 := by
    rw [hW0]
    exact (((Below.refl _ _).alloc (Nat.le_refl _) _).alloc (by simp) _).alloc (by simp only [World.size_alloc]; omega) _
  have hsz : W0.heap.size = w.heap.size + 3 := by rw [hW0]; simp
  have hg0 : W0.heap[w.heap.size]? = some (.cells #[.pointer (some ⟨gs.G, 0, none⟩)] 25 (0, 0)) := by
    rw [hW0]
    exact (Below.heap_alloc _ _ _ (by simp only [World.size_alloc]; omega)).trans ((Below.heap_alloc _ _ _ (by simp)).trans (World.alloc_heap_new _ _))
  have hg1 : W0.heap[w.heap.size + 1]? = some (.cells #[.slice none 0 0] 37 (0, 0)) := by
    rw [hW0]
    have := World.alloc_heap_new (w.alloc (Obj.cells #[.pointer (some ⟨gs.G, 0, none⟩)] 25)) (Obj.cells #[.slice none 0 0] 37)
    rw [World.size_alloc] at this
    exact (Below.heap_alloc _ _ _ (by simp)).trans this
  have hg2 : W0.heap[w.heap.size + 2]? = some (.cells #[.func (.func 76) #[] #[.pointer (some ⟨w.heap.size, 0, none⟩), .pointer (some ⟨w.heap.size + 2, 0, none⟩)]] 134 (0, 0)) := by
    rw [hW0]
    have := World.alloc_heap_new ((w.alloc (Obj.cells #[.pointer (some ⟨gs.G, 0, none⟩)] 25)).alloc (Obj.cells #[.slice none 0 0] 37)) (Obj.cells #[.func (.func 76) #[] #[.pointer (some ⟨w.heap.size, 0, none⟩), .pointer (some ⟨w.heap.size + 2, 0, none⟩)]] 134)
    rw [World.size_alloc, World.size_alloc] at this
    exact this
  have hst : AStart w.heap.size D gs gs (w.heap.size + 1) w.heap.size (w.heap.size + 2) w m [] (.slice none 0 0) none W0 :=
    ⟨h.below hb, GS.like.refl gs, ⟨hg1, SlOwn.nil _ _ _⟩, (fun g hg => by cases hg), hg0, hg2, (fun o ho => by cases ho), Only.of_below hb⟩
  have hc := callsIn_wide.1 (f76_plain 0 w.heap.size (w.heap.size + 1) w.heap.size (w.heap.size + 2) D gs gs m [] (.slice none 0 0) none w W0 ⟨hD, Nat.le_refl _, by omega, Nat.le_refl _, by omega, by omega, by omega⟩ hM hst (by simpa using hlen) hnx)
  rw [hW0] at hc
  have HC := Lib.hid hc
  have HH := Lib.hid h
  clear hc hst hg0 hg1 hg2 hb hsz h hW0 W0
  go_enter Try.func55, Try.ntmps55
  go_wp2_with (go_at_call 76; refine HC.out.mono ?_; rintro e w1 ⟨rfl, gs1, v1, bk1, hs1⟩; obtain ⟨o0, ofr⟩ := blk1 hs1.box.box; have HS := Lib.hid hs1; clear hs1)
  obtain ⟨a1, c1, rfl⟩ := HS.out.box.own.form
  go_ret
  refine ⟨gs1, _, bk1, rfl, (m.drainTo_al (m.list m.n)).2.1, HS.out.box.own, HS.out.new, HS.out.gate, HS.out.like, HS.out.rows, ?_⟩
  exact HS.out.only.mono fun x hx hs => by 
    rcases hs with hs | hs
    · rw [(m.drainTo_al (m.list m.n)).2.1] at hs; exact hs
    · omega
/-- A barrier. -/
def bar (k : Int) : EV := ({ k := 3, n := k, t := 0, row := [], c := 0 }, .slice none 0 0)

theorem f124_any (w : World) (k : Int) : Calls Try.prog 124 #[.int .i64 k] w fun e w' => e = .returned (ev (bar k).1 (bar k).2) ∧ Below w.heap.size w w' := by
  go_enter Try.func124, Try.ntmps124
  go_wp2
  refine bodyPost_ret (v := ev (bar k).1 (bar k).2) (by simp [results, Try.results124, go_sem, bar]) rfl ⟨rfl, ?_⟩
  exact (Below.refl _ _).alloc (Nat.le_refl _) _

theorem f125_any (w : World) (G : Value) (k i : Int) : Calls Try.prog 125 #[.agg #[], G, .int .i64 k, .int .i64 i] w fun e w' => e = .returned (.slice none 0 0) ∧ Below w.heap.size w w' := by
  go_enter Try.func125, Try.ntmps125
  go_wp2
  go_ret
  exact ⟨rfl, (Below.refl _ _).alloc (Nat.le_refl _) _⟩

theorem f128_any (w : World) (G : Value) : Calls Try.prog 128 #[.agg #[], G] w fun e w' => e = .returned (.tuple #[]) ∧ Below w.heap.size w w' := by
  go_enter Try.func128, Try.ntmps128
  go_wp2
  go_end0
  exact ⟨rfl, (Below.refl _ _).alloc (Nat.le_refl _) _⟩

theorem f127_any (w : World) (G : Value) (k : Int) (i : Nat) : Calls Try.prog 127 #[.agg #[], G, .int .i64 k, .int .i64 i] w (GivesOuts w [(i, bar k)]) := by
  go_enter Try.func127, Try.ntmps127
  go_wp2_with (go_at_call 124; refine (f124_any _ _).mono ?_; rintro e w' ⟨rfl, hb⟩)
  go_ret
  have hb1 : Below w.heap.size w w' := ((Below.refl _ _).alloc (Nat.le_refl _) _).trans (hb.mono (by simp))
  refine ⟨_, some w'.heap.size, rfl, ⟨rfl, .inr ⟨_, 0, 1, _, rfl, rfl, World.alloc_heap_new _ _, Nat.le_refl _, by simp [maxLen], by simp, rfl⟩⟩, fun g hg => by cases hg; exact hb1.size, hb1.alloc hb1.size _⟩

def Inp.miss (x : Inp) : Bool := !x.closed && !x.sent

theorem f56_any (w : World) {D : Nat → Prop} (gs : GS) (m : Gm) (i : Nat) (h : GateAt w D gs m) (hi : i < m.n) :
    Calls Try.prog 56 #[.pointer (some ⟨gs.ib i, 0, none⟩)] w fun e w' => e = .returned (.bool (m.inp i).miss) ∧ w' = w := by
  obtain ⟨ia, i0, i1, i2, i3, i4, ifr⟩ := h.icells hi
  clear h
  cases hc : (m.inp i).closed <;> cases hs : (m.inp i).sent <;> rw [hc] at i1 <;> rw [hs] at i3 <;> go_enter Try.func56, Try.ntmps56 <;> go_wp2 <;> go_ret <;> exact ⟨ret_bool (by simp [Inp.miss, hc, hs]), rfl⟩

def Gm.anyMiss (m : Gm) : Bool := (List.range m.n).any fun i => (m.inp i).miss

theorem f92_any (w : World) {D : Nat → Prop} (gs : GS) (m : Gm) (h : GateAt w D gs m) :
    Calls Try.prog 92 #[.slice (some ⟨gs.arr, 0, none⟩) m.n gs.cap, .func (.func 56) #[] #[]] w fun e w' => (∃ v : Int, e = .returned (.int .i64 v) ∧ (m.anyMiss = true ↔ 0 ≤ v)) ∧ w' = w := by
  have H := Lib.hid h
  have hle := h.le
  clear h
  go_enter Try.func92, Try.ntmps92
  go_wp2
  go_loopw [8] (fun i wr => ∃ k : Nat, k ≤ m.n ∧ i = .int .i64 k ∧ (∀ j, j < k → (m.inp j).miss = false) ∧ wr = w) (fun i _ => m.n - (intOf i).toNat)
  case atStart => exact ⟨0, Nat.zero_le _, rfl, by omega, rfl⟩
  case round =>
    obtain ⟨k, hk, rfl, hv, rfl⟩ := hrel
    by_cases hlt : k < m.n
    · have ia := H.out.arr_cell hlt
      have hc := f56_any _ gs m k H.out hlt
      have HC := Lib.hid hc
      clear hc
      cases hm : (m.inp k).miss <;> rw [hm] at HC
      · go_wp2_with (go_at_call 56; refine HC.out.mono ?_; rintro e w' ⟨rfl, rfl⟩)
        go_roundw
        case rel =>
          refine ⟨k + 1, by omega, by go_num, fun j hj => ?_, by first | trivial | rfl⟩
          by_cases e : j = k
          · subst e; exact hm
          · exact hv j (by omega)
        case measure => simp [intOf]; omega
      · go_wp2_with (go_at_call 56; refine HC.out.mono ?_; rintro e w' ⟨rfl, rfl⟩)
        go_ret
        exact ⟨⟨k, rfl, by rw [iff_true_right (by omega)]; exact List.any_eq_true.2 ⟨k, List.mem_range.2 hlt, hm⟩⟩, rfl⟩
    · go_wp2
      go_ret
      refine ⟨⟨-1, rfl, ?_⟩, rfl⟩
      rw [iff_false_right (by omega)]
      intro hh
      obtain ⟨j, hj, hj2⟩ := List.any_eq_true.1 hh
      rw [hv j (by have := List.mem_range.1 hj; omega)] at hj2
      cases hj2

theorem f75_any (w : World) {D : Nat → Prop} (gs : GS) (m : Gm) (h : GateAt w D gs m) :
    Calls Try.prog 75 #[.slice (some ⟨gs.arr, 0, none⟩) m.n gs.cap, .func (.func 56) #[] #[]] w fun e w' => e = .returned (.bool m.anyMiss) ∧ w' = w := by
  have hc := f92_any w gs m h
  have HC := Lib.hid hc
  clear hc h
  cases hm : m.anyMiss
  · go_enter Try.func75, Try.ntmps75
    go_wp2_with (go_at_call 92; refine HC.out.mono ?_; rintro e w' ⟨⟨v, rfl, hv⟩, rfl⟩; rw [hm] at hv; have hv0 : ¬ 0 ≤ v := fun hh => absurd (hv.2 hh) (by decide))
    refine bodyPost_ret (v := .bool (decide (0 ≤ v))) (by kernel_rfl) rfl ⟨?_, rfl⟩
    rw [decide_eq_false (by omega)]
  · go_enter Try.func75, Try.ntmps75
    go_wp2_with (go_at_call 92; refine HC.out.mono ?_; rintro e w' ⟨⟨v, rfl, hv⟩, rfl⟩; rw [hm] at hv; have hv0 : 0 ≤ v := hv.1 rfl; clear hv)
    go_ret
    exact ⟨ret_bool (by simp), rfl⟩

end walks
end Go.Proofs.Ytdnkfgnjeibjeaa

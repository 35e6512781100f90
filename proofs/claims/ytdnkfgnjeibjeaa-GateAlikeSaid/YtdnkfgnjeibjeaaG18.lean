import Derived.Test.YtdnkfgnjeibjeaaG17
import Derived.Laws.AppendOwn
import Derived.Carry
namespace Go.Proofs.Ytdnkfgnjeibjeaa
open Go.RowKit Go.Shelf

def Inp.zero : Inp := { last := 0, closed := false, queue := [], sent := false, holds := false }
def Gm.new (n : Nat) (al : Bool) : Gm := { n := n, al := al, inp := fun _ => Inp.zero, under := 0, done := 0 }

/-- A gate while its inputs are made: s is where the heap ended. -/
structure NewI (w wr : World) (al : Bool) (k : Nat) (v : Value) (ib : Nat → Nat) : Prop where
  below : Below w.heap.size w wr
  hG : wr.heap[w.heap.size + 1]? = some (.cells #[v, howV al, .int .i64 0, .int .i64 0, .map (some w.heap.size)] 88 (0, 0))
  hmap : wr.heap[w.heap.size]? = some (.map #[] 0)
  own : wr.ownsRow w.heap.size 90 1 v k ((List.range k).map fun j => .pointer (some ⟨ib j, 0, none⟩))
  hib : ∀ j, j < k → wr.heap[ib j]? = some (.cells (icl Inp.zero (.slice none 0 0)) 92 (0, 0))
  ge : ∀ j, j < k → w.heap.size ≤ ib j
  inj : ∀ i j, i < k → j < k → ib i = ib j → i = j

theorem NewI.gate {w wr : World} {al : Bool} {n : Nat} {v : Value} {ib : Nat → Nat} (h : NewI w wr al n v ib) (h1 : 1 ≤ n) (h2 : n ≤ 200) (D : Nat → Prop) (hD : ∀ b, D b → b < w.heap.size) :
    ∃ gs, gs.G = w.heap.size + 1 ∧ GateAt wr D gs (Gm.new n al) ∧ (∀ b, gs.own n b → w.heap.size ≤ b) := by
  obtain ⟨hl, hx⟩ := h.own
  rcases hx with ⟨_, h0⟩ | ⟨g, cap, cur, rfl, hb, hg, hnc, hcm, hcs, htk⟩
  · omega
  · have hown : ∀ b, GS.own { G := w.heap.size + 1, arr := g, cap := cap, map := w.heap.size, clock := 0, ib := ib, qv := fun _ => .slice none 0 0, qb := fun _ => none } n b → w.heap.size ≤ b := by
      rintro b (rfl | rfl | rfl | ⟨i, hi, rfl⟩ | ⟨i, hi, hq⟩)
      · exact Nat.le_succ _
      · exact hb
      · exact Nat.le_refl _
      · exact h.ge i hi
      · cases hq
    refine ⟨{ G := w.heap.size + 1, arr := g, cap := cap, map := w.heap.size, clock := 0, ib := ib, qv := fun _ => .slice none 0 0, qb := fun _ => none }, rfl, ⟨h1, h2, h.hG, ⟨cur, hg, fun i hi => ?_⟩, h.hib, h.inj, fun i hi => SlOwn.nil _ _ _, (fun i j g hi hj hq => by cases hq), (fun i hi p hp => by cases hp), fun b hb ho => ?_, h.hmap⟩, hown⟩
    · have hi' : i < n := hi
      have e : (cur.toList.take (n * 1))[i]? = some (.pointer (some ⟨ib i, 0, none⟩)) := by
        rw [htk, List.getElem?_map, List.getElem?_range hi']
        rfl
      rw [List.getElem?_take_of_lt (by omega)] at e
      simpa using e
    · have h3 := hown b ho
      have h4 := hD b hb
      omega

theorem NewI.keepG {w wr : World} {al : Bool} {k : Nat} {v : Value} {ib : Nat → Nat} (h : NewI w wr al k v ib) {w3 : World}
    (hgr : ((wr.alloc (Obj.cells (icl Inp.zero (.slice none 0 0)) 92)).alloc (Obj.cells #[.pointer (some ⟨wr.heap.size, 0, none⟩)] 90)).grownBy w3 v.ownBlock) :
    w3.heap[w.heap.size + 1]? = some (.cells #[v, howV al, .int .i64 0, .int .i64 0, .map (some w.heap.size)] 88 (0, 0)) := by
  have hb1 : Below wr.heap.size wr ((wr.alloc (Obj.cells (icl Inp.zero (.slice none 0 0)) 92)).alloc (Obj.cells #[.pointer (some ⟨wr.heap.size, 0, none⟩)] 90)) := ((Below.refl _ _).alloc (Nat.le_refl _) _).alloc (by simp) _
  refine (hgr.block _ (by have := heap_lt h.hG; simp; omega) (fun e => ?_)).trans ((hb1.block _ (heap_lt h.hG)).trans h.hG)
  rcases h.own.2 with ⟨e', _⟩ | ⟨g', cap, cur, e', _, hg, _⟩
  · rw [e'] at e; cases e
  · rw [e'] at e
    injection e with e
    have e2 : w.heap.size + 1 = g' := e
    subst e2
    exact ne_of_cells h.hG hg (by decide) rfl

theorem NewI.step {w wr : World} {al : Bool} {k : Nat} {v v' : Value} {ib : Nat → Nat} (h : NewI w wr al k v ib) {w3 : World}
    (hgr : ((wr.alloc (Obj.cells (icl Inp.zero (.slice none 0 0)) 92)).alloc (Obj.cells #[.pointer (some ⟨wr.heap.size, 0, none⟩)] 90)).grownBy w3 v.ownBlock)
    (hown : w3.ownsRow w.heap.size 90 1 v' (k + 1) ((List.range k).map (fun j => Value.pointer (some ⟨ib j, 0, none⟩)) ++ [.pointer (some ⟨wr.heap.size, 0, none⟩)])) :
    NewI w (w3.setCell ⟨w.heap.size + 1, 0, none⟩ v') al (k + 1) v' (fun j => if j = k then wr.heap.size else ib j) := by
  have hsz := h.below.size
  have hb1 : Below wr.heap.size wr ((wr.alloc (Obj.cells (icl Inp.zero (.slice none 0 0)) 92)).alloc (Obj.cells #[.pointer (some ⟨wr.heap.size, 0, none⟩)] 90)) := ((Below.refl _ _).alloc (Nat.le_refl _) _).alloc (by simp) _
  have hvb : ∀ {g : Nat} {c : Array Value} {t : TypeId} {f : Nat × Nat}, v.ownBlock = some g → wr.heap[g]? = some (Obj.cells c t f) → t = 90 := by
    intro g c t f hv hc
    rcases h.own.2 with ⟨e, _⟩ | ⟨g', cap, cur, e, _, hg, _⟩
    · rw [e] at hv; cases hv
    · rw [e] at hv
      injection hv with hv
      subst hv
      rw [hg] at hc
      injection hc with hc
      injection hc with _ hc
      exact hc.symm
  have hvl : ∀ {g}, v.ownBlock = some g → g < wr.heap.size := fun hv => (h.own.lt _ hv).2
  have hk : ∀ {b : Nat} {c : Array Value} {t : TypeId} {f : Nat × Nat}, wr.heap[b]? = some (Obj.cells c t f) → t ≠ 90 → w3.heap[b]? = some (Obj.cells c t f) := fun {b c t f} hb ht =>
    (hgr.block b (by have := heap_lt hb; simp; omega) (fun e => ht (hvb e.symm hb))).trans ((hb1.block b (heap_lt hb)).trans hb)
  have hset : ∀ b, b ≠ w.heap.size + 1 → (w3.setCell ⟨w.heap.size + 1, 0, none⟩ v').heap[b]? = w3.heap[b]? := fun b hb => heap_set_ne _ hb
  have hnew : w3.heap[wr.heap.size]? = some (.cells (icl Inp.zero (.slice none 0 0)) 92 (0, 0)) :=
    (hgr.block _ (by simp only [World.size_alloc]; omega) (fun e => by have := hvl e.symm; omega)).trans ((Below.heap_alloc _ _ _ (by simp)).trans (World.alloc_heap_new _ _))
  have hGs := heap_lt h.hG
  refine ⟨?_, ?_, ?_, ?_, fun j hj => ?_, fun j hj => ?_, fun i j hi hj e => ?_⟩
  · have h1 : Below w.heap.size w w3 := (h.below.trans (hb1.mono hsz)).grown hgr (by have := hb1.size; omega) (fun q hq => (h.own.lt q hq).1)
    exact h1.setCell (Nat.le_succ _) _
  · have hh := heap_set (j := 0) (hk h.hG (by decide)) v'
    simpa using hh
  · refine (hset _ (by omega)).trans ((hgr.block _ (by simp; omega) (fun e => ?_)).trans ((hb1.block _ (by omega)).trans h.hmap))
    rcases h.own.2 with ⟨e', _⟩ | ⟨g', cap, cur, e', _, hg, _⟩
    · rw [e'] at e; cases e
    · rw [e'] at e
      injection e with e
      have e2 : w.heap.size = g' := e
      subst e2
      rw [h.hmap] at hg
      injection hg with hg
      cases hg
  · rw [List.range_succ, List.map_append]
    have e1 : (List.range k).map (fun j => Value.pointer (some ⟨if j = k then wr.heap.size else ib j, 0, none⟩)) = (List.range k).map (fun j => Value.pointer (some ⟨ib j, 0, none⟩)) := by
      apply List.map_congr_left
      intro j hj
      have : j ≠ k := by have := List.mem_range.1 hj; omega
      simp [this]
    rw [e1]
    simp only [List.map_cons, List.map_nil, if_true]
    obtain ⟨hl, hx⟩ := hown
    refine ⟨hl, ?_⟩
    rcases hx with ⟨_, h0⟩ | ⟨g, cap, cur, e, hb, hg, hr⟩
    · omega
    · exact .inr ⟨g, cap, cur, e, hb, (hset g (ne_of_cells hg (hk h.hG (by decide)) (by decide))).trans hg, hr⟩
  · by_cases e : j = k
    · subst e
      simp only [if_true]
      exact (hset _ (by omega)).trans hnew
    · simp only [e, if_false]
      have hj' : j < k := by omega
      exact (hset _ (fun e' => ne_of_cells (h.hib j hj') h.hG (by decide) e')).trans (hk (h.hib j hj') (by decide))
  · by_cases e : j = k
    · simp only [e, if_true]; omega
    · simp only [e, if_false]; exact h.ge j (by omega)
  · have hlt : ∀ j, j < k → ib j < wr.heap.size := fun j hj => heap_lt (h.hib j hj)
    by_cases e1 : i = k <;> by_cases e2 : j = k
    · omega
    · simp only [e1, e2, if_true, if_false] at e
      have := hlt j (by omega); omega
    · simp only [e1, e2, if_true, if_false] at e
      have := hlt i (by omega); omega
    · simp only [e1, e2, if_false] at e
      exact h.inj i j (by omega) (by omega) e

section walks
set_option maxHeartbeats 1000000
set_option maxRecDepth 100000

theorem info90 : (Try.prog.info? 90).map (fun i => (i.zero, i.size, i.bytes)) = some (some (.pointer none), 1, 8) := by kernel_rfl

theorem NewI.start (w : World) (al : Bool) : NewI w ((w.alloc (Obj.map #[] 0)).alloc (Obj.cells #[.slice none 0 0, howV al, .int .i64 0, .int .i64 0, .map (some w.heap.size)] 88)) al 0 (.slice none 0 0) (fun _ => 0) := by
  refine ⟨((Below.refl _ _).alloc (Nat.le_refl _) _).alloc (by simp) _, ?_, (Below.heap_alloc _ _ _ (by simp)).trans (World.alloc_heap_new _ _), World.ownsRow_nil _ _ _ _, fun j hj => by omega, fun j hj => by omega, fun i j hi hj => by omega⟩
  have := World.alloc_heap_new (w.alloc (Obj.map #[] 0)) (Obj.cells #[.slice none 0 0, howV al, .int .i64 0, .int .i64 0, .map (some w.heap.size)] 88)
  rw [World.size_alloc] at this
  exact this

theorem f12_ok (w : World) (n : Nat) (al : Bool) (h1 : 1 ≤ n) (h2 : n ≤ 200) :
    Calls Try.prog 12 #[.int .i64 n, .bool al] w fun e w' => e = .returned (.tuple #[.pointer (some ⟨w.heap.size + 1, 0, none⟩), .int .i64 0]) ∧ ∃ v ib, NewI w w' al n v ib := by
  have j1 : ¬ (n : Int) < 1 := by omega
  have j2 : ¬ (n : Int) > 200 := by omega
  have hmk := run_makeMap (P := Try.prog) 83
  obtain ⟨i0, hi0, hz0, hz1, hz2⟩ := info_parts info90
  have hst := NewI.start w al
  have HS := Lib.hid hst
  clear hst
  cases al
  all_goals
    go_enter Try.func12, Try.ntmps12
    go_wp2
    go_loopw [25] (fun i wr => ∃ k : Nat, k ≤ n ∧ i = .int .i64 k ∧ ∃ v ib, NewI w wr _ k v ib) (fun i _ => n - (intOf i).toNat)
    case atStart => exact ⟨0, Nat.zero_le _, rfl, _, _, HS.out⟩
    case round =>
      obtain ⟨k, hk, rfl, v, ib, hI⟩ := hrel
      by_cases hlt : k < n
      · obtain ⟨c0, c1, c2, c3, c4, cf⟩ := blk5 hI.hG
        obtain ⟨ao, cv, rfl⟩ : ∃ a c, v = .slice a k c := by
          rcases hI.own.2 with ⟨e, e0⟩ | ⟨g, cap, cur, e, _⟩
          · exact ⟨none, 0, by rw [e, e0]⟩
          · exact ⟨_, _, e⟩
        have HI := Lib.hid hI
        have hsz := hI.below.size
        have hGl := heap_lt hI.hG
        clear hI
        go_wp2_with (at_builtin; refine wpList_append_own _ rfl (.tmp 31) (.tmp 34) 84 rfl w.heap.size 90 i0 _ 1 8 Try.underlying84 hi0 hz0 hz1 hz2 rfl (by decide) _ k _ rfl ((HI.out.own.alloc _).alloc _) ⟨wr.heap.size + 1, 0, none⟩ 1 1 [.pointer (some ⟨wr.heap.size, 0, none⟩)] rfl rfl ?_ (fun x hx => by simp at hx; subst hx; rfl) (by unfold maxLen; omega) (by omega) (by simp; omega) ?_)
        · intro j u hj
          cases j with
          | zero =>
            injection hj with hj
            subst hj
            have := World.alloc_heap_new (wr.alloc (Obj.cells #[Value.int IntKind.i64 0, Value.bool false, Value.slice none 0 0, Value.bool false, Value.bool false] 92)) (Obj.cells #[Value.pointer (some { block := wr.heap.size, off := 0 })] 90)
            rw [World.size_alloc] at this
            exact (blk1 this).1
          | succ j => simp at hj
        intro v' w3 hown' hgrow3 hnil3
        have hstep := HI.out.step hgrow3 hown'
        have HST := Lib.hid hstep
        have hG3 := HI.out.keepG hgrow3
        obtain ⟨d0, d1, d2, d3, d4, df⟩ := blk5 hG3
        have hl3 := heap_lt hG3
        obtain ⟨ao', cv', rfl⟩ : ∃ a c, v' = .slice a (k + 1) c := by
          rcases hown'.2 with ⟨_, e0⟩ | ⟨g, cap, cur, e, _⟩
          · omega
          · exact ⟨_, _, e⟩
        clear hstep hown' hgrow3 hG3
        go_wp2_with fail
        go_roundw
        case rel => exact ⟨k + 1, by omega, by go_num, _, _, HST.out⟩
        case measure => simp [intOf]; omega
      · have hkn : k = n := by omega
        subst hkn
        go_wp2_with fail
        exact bodyPost_ret (v := .tuple #[.pointer (some ⟨w.heap.size + 1, 0, none⟩), .int .i64 0]) (by kernel_rfl) rfl ⟨rfl, v, ib, hI⟩
end walks
end Go.Proofs.Ytdnkfgnjeibjeaa

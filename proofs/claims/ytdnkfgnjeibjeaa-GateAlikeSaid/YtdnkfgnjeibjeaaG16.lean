import Derived.Test.YtdnkfgnjeibjeaaG15
namespace Go.Proofs.Ytdnkfgnjeibjeaa
open Go.RowKit Go.Shelf
/-- An element is laid into a queue. -/
theorem AF.queue {w w4 w8 : World} {D : Nat → Prop} {gs : GS} {m : Gm} {x : Elem} {r r5 x8 : Value} {i : Nat} (hi : i < m.n) (h4 : AF w w4 D gs m x r) (hg : GateAt w D gs m) (hD : ∀ b, D b → b < w.heap.size)
    (happ : App16 w4 w8 x r5 x8 (m.inp i).queue.length ((m.inp i).queue.flatMap ecl) (gs.qb i)) :
    Arr w D gs m.n (fun r => m.upd i { m.inp i with queue := (m.inp i).queue ++ [(x, r)] }) (fun _ => []) 0 (.returned (.tuple #[.slice none 0 0, .int .i64 0])) (w8.setCell ⟨gs.ib i, 2, none⟩ x8) := by
  obtain ⟨w7, blk', ⟨hr5, hb7⟩, hgr, hs8, hat⟩ := happ
  have h7 := h4.gate.below hb7
  have hI := h7.hib i hi
  have s4 := h4.below.size
  have s7 := hb7.size
  have s8 := hgr.size
  have hown : ∀ {b}, gs.own m.n b → b < w.heap.size := fun hb => hg.lt hb
  have hqb : ∀ {g}, gs.qb i = some g → g < w.heap.size := fun hb => hown (own_qb gs hi hb)
  have hibl : gs.ib i < w.heap.size := hown (own_ib gs hi)
  have hset : ∀ b, b ≠ gs.ib i → (w8.setCell ⟨gs.ib i, 2, none⟩ x8).heap[b]? = w8.heap[b]? := fun b hb => heap_set_ne _ hb
  have hk : ∀ {b : Nat} {c : Array Value} {t : TypeId} {f : Nat × Nat}, w7.heap[b]? = some (.cells c t f) → t ≠ 34 → b ≠ gs.ib i → (w8.setCell ⟨gs.ib i, 2, none⟩ x8).heap[b]? = some (.cells c t f) := fun {b c t f} hb ht hne =>
    (hset b hne).trans ((hgr.block b (heap_lt hb) (fun e => h7.qb_ne hi e.symm hb ht rfl)).trans hb)
  have hk2 : ∀ {b : Nat}, b < w7.heap.size → gs.qb i ≠ some b → b ≠ gs.ib i → (w8.setCell ⟨gs.ib i, 2, none⟩ x8).heap[b]? = w7.heap[b]? := fun {b} hb hne hne2 => (hset b hne2).trans (hgr.block b hb (fun e => hne e.symm))
  have hblk : ∀ g, blk' = some g → gs.qb i = some g ∨ g = w7.heap.size := fun g hg' => by
    rcases hat with e | e
    · exact .inl (e ▸ hg')
    · rw [hg'] at e; injection e with e; exact .inr e
  obtain ⟨cs, hc, hcs⟩ := h7.harr
  have hrowD : ∀ {v row}, RowAt w7 D v row → RowAt (w8.setCell ⟨gs.ib i, 2, none⟩ x8) (fun b => D b ∨ (w4.heap.size ≤ b ∧ b < w7.heap.size)) v row := fun hx =>
    (hx.keep fun b hb hlt => hk2 hlt (fun e => hg.hD b hb (own_qb gs hi e)) (fun e => hg.hD b hb (e ▸ own_ib gs hi))).mono fun b hb => .inl hb
  refine ⟨fun b => D b ∨ (w4.heap.size ≤ b ∧ b < w7.heap.size), r5, { gs with qv := fun j => if j = i then x8 else gs.qv j, qb := fun j => if j = i then blk' else gs.qb j }, .slice none 0 0, none, fun b hb => .inl hb, ?_, ?_, rfl, rfl, SlOwn.nil _ _ _, (fun g hg => by cases hg), ?_, rfl, ?_, (fun o ho => by cases ho), ?_⟩
  · intro b hb
    rcases hb with hb | hb
    · exact .inl hb
    · exact .inr (by omega)
  · intro b hb
    have : (w8.setCell ⟨gs.ib i, 2, none⟩ x8).heap.size = w8.heap.size := by simp [World.setCell]
    rcases hb with hb | hb
    · have := hD b hb; omega
    · omega
  · refine ⟨h7.pos, h7.le, hk h7.hG (by decide) (h7.G_ne_ib hi), ⟨cs, hk hc (by decide) (h7.arr_ne_ib hi), hcs⟩, fun j hj => ?_, h7.inj, fun j hj => ?_, fun j k g hj hk' hjg hkg => ?_, fun j hj p hp => ?_, fun b hb ho => ?_, ?_⟩
    · by_cases e : j = i
      · subst e
        have h8 : w8.heap[gs.ib j]? = some (.cells (icl (m.inp j) (gs.qv j)) 92 (0, 0)) := (hgr.block _ (heap_lt hI) (fun e => h7.qb_ne hi e.symm hI (by decide) rfl)).trans hI
        have hh := heap_set (j := 2) h8 x8
        simpa [Gm.upd] using hh
      · have := hk (h7.hib j hj) (by decide) (fun e' => e (h7.inj j i hj hi e'))
        simpa [Gm.upd, e] using this
    · by_cases e : j = i
      · subst e
        have hh := hs8.keep (w' := w8.setCell ⟨gs.ib j, 2, none⟩ x8) fun g hg' => hset g (by
          rcases hblk g hg' with e | e
          · exact h7.qb_ne hi e hI (by decide)
          · omega)
        simpa [Gm.upd] using hh
      · have hh := (h7.hq j hj).keep (w' := w8.setCell ⟨gs.ib i, 2, none⟩ x8) fun g hg' => hk2 (by have := hown (own_qb gs hj hg'); omega) (fun e' => e (h7.qinj j i g hj hi hg' e')) (h7.qb_ne hj hg' hI (by decide))
        simpa [Gm.upd, e] using hh
    · dsimp only at hjg hkg
      by_cases e1 : j = i <;> by_cases e2 : k = i
      · omega
      · rw [if_pos e1] at hjg
        rw [if_neg e2] at hkg
        rcases hblk g hjg with e | e
        · exact absurd (h7.qinj k i g hk' hi hkg e) e2
        · have := hown (own_qb gs hk' hkg); omega
      · rw [if_neg e1] at hjg
        rw [if_pos e2] at hkg
        rcases hblk g hkg with e | e
        · exact absurd (h7.qinj j i g hj hi hjg e) e1
        · have := hown (own_qb gs hj hjg); omega
      · rw [if_neg e1] at hjg
        rw [if_neg e2] at hkg
        exact h7.qinj j k g hj hk' hjg hkg
    · by_cases e : j = i
      · subst e
        simp only [Gm.upd, if_true, List.mem_append, List.mem_singleton] at hp
        rcases hp with hp | rfl
        · exact hrowD (h7.hrow j hj p hp)
        · refine (hr5.imp (D' := fun b => D b ∨ (w4.heap.size ≤ b ∧ b < w7.heap.size)) fun b hb hle => .inr ⟨hle, hb⟩).keep fun b hb hlt => hk2 hlt ?_ ?_
          · rcases hb with hb | hb
            · exact fun e => hg.hD b hb (own_qb gs hi e)
            · intro e; have := hqb e; omega
          · rcases hb with hb | hb
            · exact fun e => hg.hD b hb (e ▸ own_ib gs hi)
            · omega
      · have hp' : p ∈ (m.inp j).queue := by simpa [Gm.upd, e] using hp
        exact hrowD (h7.hrow j hj p hp')
    · have ho' : gs.own m.n b ∨ b = w7.heap.size := by
        rcases ho with h | h | h | h | ⟨j, hj, h⟩
        · exact .inl (.inl h)
        · exact .inl (.inr (.inl h))
        · exact .inl (.inr (.inr (.inl h)))
        · exact .inl (.inr (.inr (.inr (.inl h))))
        · dsimp only at h
          by_cases e : j = i
          · rw [if_pos e] at h
            rcases hblk b h with h | h
            · exact .inl (own_qb gs hi h)
            · exact .inr h
          · rw [if_neg e] at h
            exact .inl (own_qb gs hj h)
      rcases hb with hb | hb
      · rcases ho' with h | h
        · exact hg.hD b hb h
        · have := hD b hb; omega
      · rcases ho' with h | h
        · have := hown h; omega
        · omega
    · refine (hset _ (Ne.symm (h7.ib_ne_map hi))).trans ((hgr.block _ (heap_lt h7.hmap) (fun e => ?_)).trans h7.hmap)
      obtain ⟨cur, hcc⟩ := h7.qb_cells hi e.symm
      exact ne_of_map hcc h7.hmap rfl
  · intro b ho
    rcases ho with h | h | h | h | ⟨j, hj, h⟩
    · exact .inl (.inl h)
    · exact .inl (.inr (.inl h))
    · exact .inl (.inr (.inr (.inl h)))
    · exact .inl (.inr (.inr (.inr (.inl h))))
    · dsimp only at h
      by_cases e : j = i
      · rw [if_pos e] at h
        rcases hblk b h with h | h
        · exact .inl (own_qb gs hi h)
        · exact .inr (by omega)
      · rw [if_neg e] at h
        exact .inl (own_qb gs hj h)
  · have h1 : Only (gs.own m.n) w w8 := ((Only.of_below h4.below).trans (Only.of_below (S := fun _ => False) hb7) (fun _ _ h => h.elim)).grown hgr (fun k hk _ => own_qb gs hi hk)
    exact h1.setCell (fun _ => own_ib gs hi) _

section walks
set_option maxHeartbeats 1000000
set_option maxRecDepth 100000

theorem f13_wait (w : World) (D D0 : Nat → Prop) (gs : GS) (m : Gm) (i : Nat) (x : Elem) (r : Value) (h : GateAt w D gs m) (hD : ∀ b, D b → b < w.heap.size) (hr : RowAt w D0 r x.row) (hsm : x.row.length ≤ 1000000)
    (hv : validElem x = true) (hi : i < m.n) (hcl : (m.inp i).closed = false) (hk : (x.k == 3) = false) (hbl : m.blocked i = true) (hq : qsum m m.n ≤ 1000000) (hcnt : qsum m m.n ≠ 4000) :
    Calls Try.prog 13 #[.pointer (some ⟨gs.G, 0, none⟩), .int .i64 i, ev x r] w (Arr w D gs m.n (fun r => m.upd i { m.inp i with queue := (m.inp i).queue ++ [(x, r)] }) (fun _ => []) 0) := by
  have hV := fun (W : World) (hb : Below w.heap.size w W) => f40_any x r W D0 (hr.below hb)
  have hO := fun (W : World) (hb : Below w.heap.size w W) => f43_any W x r D0 (hr.below hb) hsm
  obtain ⟨ra, rc, rfl, _, _⟩ := hr
  rw [hv] at hV
  have HV := Lib.hid hV
  have HO := Lib.hid hO
  have H := Lib.hid h
  have HD := Lib.hid hD
  clear hV hO h hD hsm
  have j1 : (0 : Int) ≤ (i : Int) := by omega
  have j2 : (i : Int) < (m.n : Int) := by omega
  have hk' : (x.k != 3) = true := by simp [bne, hk]
  have ha0 : AF w (w.alloc (Obj.cells #[Value.int IntKind.i64 x.k, Value.int IntKind.i64 x.n, Value.int IntKind.i64 x.t, Value.slice ra x.row.length rc, Value.int IntKind.i64 x.c] 34)) D gs m x (.slice ra x.row.length rc) :=
    ⟨(Below.refl _ _).alloc (Nat.le_refl _) _, H.out.below ((Below.refl _ _).alloc (Nat.le_refl _) _), World.alloc_heap_new _ _⟩
  have HA := Lib.hid ha0
  clear ha0
  have hpn : ∀ W : World, (binOp .neq 93 (.pointer none) (.pointer none)).run Try.prog W = .ok (.bool false) W := fun W => by kernel_rfl
  go_enter Try.func13, Try.ntmps13
  go_wp2_with (
    go_at_call 40; refine (HV.out _ HA.out.below).mono ?_; rintro e w1 ⟨rfl, hb1⟩
    have HA1 := Lib.hid (HA.out.next hb1)
    clear hb1
    obtain ⟨g0, g1, g2, g3, g4, gf⟩ := HA1.out.gate.cells
    obtain ⟨ia, x0, x1, x2, x3, x4, xf⟩ := HA1.out.gate.icells hi
    obtain ⟨b0, b1, b2, b3, b4, bf⟩ := blk5 HA1.out.box)
  have q0 := fun d os => cell_regrown b0 d os
  refine wp_region_quiet_below (by kernel_rfl) (by kernel_rfl) ?_
  repeat (first | go_big_quiet_skip | quiet_step (fail))
  refine wpQuiet_nil ?_
  intro w2 hw'
  have HA2 := Lib.hid (HA1.out.next (below_of_class hw'))
  clear hw' q0 b0 b1 b2 b3 b4 bf g0 g1 g2 g3 g4 gf ia x0 x1 x2 x3 x4 xf
  obtain ⟨g0, g1, g2, g3, g4, gf⟩ := HA2.out.gate.cells
  obtain ⟨ia, x0, x1, x2, x3, x4, xf⟩ := HA2.out.gate.icells hi
  obtain ⟨b0, b1, b2, b3, b4, bf⟩ := blk5 HA2.out.box
  go_wp2_with fail
  have q2 := fun d os => cell_regrown g2 d os
  have q4 := fun d os => cell_regrown g4 d os
  have hlk := fun d os => lookup_empty (Sort.grow (redrawn w2 d) os) gs.map gs.clock m.under (((below_regrown w2 d os).block _ (heap_lt HA2.out.gate.hmap)).trans HA2.out.gate.hmap)
  refine wp_region_quiet_below (by kernel_rfl) (by kernel_rfl) ?_
  repeat (first | go_big_quiet_skip | quiet_step (fail))
  refine wpQuiet_nil ?_
  intro w3 hw'
  have HA3 := Lib.hid (HA2.out.next (below_of_class hw'))
  clear hw' q2 q4 hlk b0 b1 b2 b3 b4 bf g0 g1 g2 g3 g4 gf ia x0 x1 x2 x3 x4 xf
  obtain ⟨b0, b1, b2, b3, b4, bf⟩ := blk5 HA3.out.box
  have hc := fun W (h : AF w W D gs m x (.slice ra x.row.length rc)) => f41_any W gs m i h.gate hi
  rw [hbl] at hc
  have HC := Lib.hid hc
  have hc2 := fun W (h : AF w W D gs m x (.slice ra x.row.length rc)) => f42_any W gs m h.gate hq
  have HC2 := Lib.hid hc2
  clear hc hc2
  have hql : (m.inp i).queue.length ≤ 1000000 := by
    have h1 : qsum m (i + 1) ≤ qsum m m.n := qsum_mono m hi
    simp only [qsum] at h1; omega
  have hne : ((qsum m m.n : Int) == 4000) = false := by
    simp only [beq_eq_false_iff_ne, ne_eq]; omega
  go_wp2_with (first
    | (go_at_call 41; refine (HC.out _ HA3.out).mono ?_; rintro e w4 ⟨rfl, hb4⟩
       have HA4 := Lib.hid (HA3.out.next hb4)
       clear hb4 HA3 b0 b1 b2 b3 b4 bf
       have HA3 := HA4
       clear HA4
       obtain ⟨b0, b1, b2, b3, b4, bf⟩ := blk5 HA3.out.box)
    | (go_at_call 42; refine (HC2.out _ HA3.out).mono ?_; rintro e w4 ⟨rfl, hb4⟩
       have HA4 := Lib.hid (HA3.out.next hb4)
       clear hb4 HA3 b0 b1 b2 b3 b4 bf
       have HA3 := HA4
       clear HA4
       obtain ⟨b0, b1, b2, b3, b4, bf⟩ := blk5 HA3.out.box))
  have hgq := HA3.out.gate
  refine region16_ok (gs.ib i) (m.inp i).queue.length w.heap.size (gs.qv i) ((m.inp i).queue.flatMap ecl) (gs.qb i) x (.slice ra x.row.length rc) _ w4 _ rfl rfl rfl (m.inp i) (hgq.hib i hi) (fun e => hgq.qb_ne hi e (hgq.hib i hi) (by decide) rfl) b0 b1 b2 b3 b4 (hgq.hq i hi) hql (HO.out _ HA3.out.below.drew) ?_
  intro r5 x7 x8 w8 happ
  rw [fill11 _ _ _ (by simp)]
  have HP := Lib.hid happ
  clear happ hgq
  dsimp only [val16, Nat.reduceAdd]
  go_wp2_with fail
  exact bodyPost_ret (v := .tuple #[.slice none 0 0, .int .i64 0]) (by kernel_rfl) rfl (HA3.out.queue hi H.out HD.out HP.out)
end walks
end Go.Proofs.Ytdnkfgnjeibjeaa

import Derived.Test.YtdnkfgnjeibjeaaJG
namespace Go.Proofs.Ytdnkfgnjeibjeaa.W
open Go.RowKit Go.Shelf

/-- While lists are copied. -/
structure CP (w wr : World) (D : Nat → Prop) (ll : List (List Elem)) (j : Nat) (out : Value) (us : Nat → Value) (evs : Nat → List EV) (qb : Nat → Option Nat) (blk : Option Nat) : Prop where
  arr : SlOwn wr 49 1 out j ((List.range j).map us) blk
  own : ∀ i, i < j → SlOwn wr 34 5 (us i) (evs i).length ((evs i).flatMap ecl) (qb i)
  eq : ∀ i (h : i < ll.length), i < j → eL (evs i) = ll[i]
  rows : ∀ i, i < j → ∀ p ∈ evs i, RowAt wr D p.2 p.1.row
  inj : ∀ i k g, i < j → k < j → qb i = some g → qb k = some g → i = k
  new : ∀ i, i < j → ∀ g, qb i = some g → w.heap.size ≤ g
  newB : ∀ g, blk = some g → w.heap.size ≤ g
  below : Below w.heap.size w wr

section
variable {w wr w' : World} {D : Nat → Prop} {ll : List (List Elem)} {j : Nat} {out : Value} {us : Nat → Value} {evs : Nat → List EV} {qb : Nat → Option Nat} {blk : Option Nat}

theorem CP.ne (h : CP w wr D ll j out us evs qb blk) {i g : Nat} (hi : i < j) (hg : qb i = some g) : blk ≠ some g := by
  intro e
  have h1 := h.arr
  rw [e] at h1
  have h2 := h.own i hi
  rw [hg] at h2
  rcases h1.2 with ⟨_, _, hx⟩ | ⟨g1, o1, cap1, cur1, hx, _, hc1, _⟩
  · cases hx
  rcases h2.2 with ⟨_, _, hy⟩ | ⟨g2, o2, cap2, cur2, hy, _, hc2, _⟩
  · cases hy
  injection hx with hx; injection hy with hy; subst hx hy
  exact ne_of_cells hc1 hc2 (by decide) rfl

theorem CP.add {w1 w2 w3 : World} {u v' : Value} {es : List EV} {qg blk' : Option Nat} (h : CP w wr D ll j out us evs qb blk) (hDw : ∀ b, D b → b < w.heap.size) (hj : j < ll.length) (hb1 : Below wr.heap.size wr w1) (hu : SlOwn w1 34 5 u es.length (es.flatMap ecl) qg) (hq : ∀ g, qg = some g → wr.heap.size ≤ g)
    (he : eL es = ll[j]) (hr : ∀ p ∈ es, RowAt w D p.2 p.1.row) (hb2 : Below w1.heap.size w1 w2) (hs : SlOwn w3 49 1 v' (j + 1) ((List.range j).map us ++ [u]) blk') (hg : w2.grownBy w3 blk) (hat : blk' = blk ∨ blk' = some w2.heap.size) :
    CP w w3 D ll (j + 1) v' (fun i => if i = j then u else us i) (fun i => if i = j then es else evs i) (fun i => if i = j then qg else qb i) blk' := by
  have z0 := h.below.size
  have z1 := hb1.size
  have z2 := hb2.size
  have z3 := hg.size
  have hblt : ∀ g, blk = some g → g < wr.heap.size := fun g e => h.arr.lt_of e
  have hk0 : ∀ b, b < wr.heap.size → blk ≠ some b → w3.heap[b]? = wr.heap[b]? := fun b hl hne => (hg.block b (by omega) (fun e => hne e.symm)).trans ((hb2.block b (by omega)).trans (hb1.block b hl))
  have hk1 : ∀ b, wr.heap.size ≤ b → b < w1.heap.size → w3.heap[b]? = w1.heap[b]? := fun b hl hl1 => (hg.block b (by omega) (fun e => by have := hblt b e.symm; omega)).trans (hb2.block b hl1)
  have hbw : Below w.heap.size w w3 := ((h.below.trans (hb1.mono z0)).trans (hb2.mono (by omega))).grown hg (by omega) (fun q hq => h.newB q hq)
  refine ⟨?_, fun i hi => ?_, fun i hi hij => ?_, fun i hi p hp => ?_, fun i k g hi hk hig hkg => ?_, fun i hi g hig => ?_, fun g hgg => ?_, hbw⟩
  · have e : (List.range (j + 1)).map (fun i => if i = j then u else us i) = (List.range j).map us ++ [u] := by
      rw [List.range_succ, List.map_append]
      congr 1
      · refine List.map_congr_left fun x hx => ?_
        have := List.mem_range.1 hx
        rw [if_neg (by omega)]
      · simp
    rw [e]
    exact hs
  · by_cases e : i = j
    · subst e
      simp only [if_true]
      exact hu.keep fun g hgg => hk1 g (hq g hgg) (hu.lt_of hgg)
    · simp only [e, if_false]
      have hij : i < j := by omega
      exact (h.own i hij).keep fun g hgg => hk0 g ((h.own i hij).lt_of hgg) (h.ne hij hgg)
  · by_cases e : i = j
    · subst e; simp only [if_true]; exact he
    · simp only [e, if_false]
      exact h.eq i hi (by omega)
  · have hDk : ∀ {r row}, RowAt w D r row → RowAt w3 D r row := fun hx => hx.keep fun b hb hl => hbw.block b hl
    by_cases e : i = j
    · subst e
      simp only [if_true] at hp
      exact hDk (hr p hp)
    · simp only [e, if_false] at hp
      exact (h.rows i (by omega) p hp).keep fun b hb hl => hk0 b hl (fun e => by have := h.newB b e; have := hDw b hb; omega)
  · by_cases e1 : i = j <;> by_cases e2 : k = j
    · omega
    · rw [if_pos e1] at hig; rw [if_neg e2] at hkg
      have := hq g hig
      have := (h.own k (by omega)).lt_of hkg
      omega
    · rw [if_neg e1] at hig; rw [if_pos e2] at hkg
      have := hq g hkg
      have := (h.own i (by omega)).lt_of hig
      omega
    · rw [if_neg e1] at hig; rw [if_neg e2] at hkg
      exact h.inj i k g (by omega) (by omega) hig hkg
  · by_cases e : i = j
    · rw [if_pos e] at hig
      have := hq g hig; omega
    · rw [if_neg e] at hig
      exact h.new i (by omega) g hig
  · rcases hat with e | e
    · exact h.newB g (e ▸ hgg)
    · rw [hgg] at e; injection e with e; omega

/-- The copy is lists in a row of their own. -/
theorem CP.la (h : CP w wr D ll j out us evs qb blk) (hD : ∀ b, D b → b < w.heap.size) (h1 : 0 < j) : ∃ B o cap, out = .slice (some ⟨B, o, none⟩) j cap ∧ LA wr j B o cap us evs qb D ∧ ∀ b, lown j B qb b → w.heap.size ≤ b := by
  rcases h.arr.2 with ⟨_, h0, _⟩ | ⟨g, o, cap, cur, hb, hv, _⟩
  · omega
  · have ha := h.arr
    rw [hb, hv] at ha
    refine ⟨g, o, cap, hv, ⟨ha, h.own, h.rows, h.inj, fun b hb' => ⟨Nat.lt_of_lt_of_le (hD b hb') h.below.size, fun e => ?_, fun i hi e => ?_⟩⟩, fun b hb' => ?_⟩
    · have := h.newB b (e ▸ hb); have := hD b hb'; omega
    · have := h.new i hi b e; have := hD b hb'; omega
    · rcases hb' with rfl | ⟨i, hi, e⟩
      · exact h.newB _ hb
      · exact h.new i hi b e
end

/-- Lists, as they are read; their elements' rows lie in blocks D. -/
def ListsE (w : World) (D : Nat → Prop) (v : Value) (ll : List (List Elem)) : Prop :=
  ∃ a cap, v = .slice a ll.length cap ∧ ll.length ≤ 9223372036854775807 ∧ ∀ j (h : j < ll.length), ∃ b off ua uc es, a = some ⟨b, off, none⟩ ∧ b < w.heap.size ∧ w.cell? ⟨b, off + j, none⟩ = some (.slice ua es.length uc) ∧ eL es = ll[j] ∧ Src w 5 (.slice ua es.length uc) es.length (es.flatMap ecl) ∧ ∀ p ∈ es, RowAt w D p.2 p.1.row

theorem ListsE.of {w : World} {D : Nat → Prop} {v : Value} {ll : List (List Elem)} (h : ListsAt w D v ll) : ListsE w D v ll := by
  obtain ⟨a, cap, rfl, hl⟩ := h.form
  refine ⟨a, cap, rfl, hl, fun j hj => ?_⟩
  obtain ⟨b, o, ua, uc, rfl, hDb, hbx, x0, xe, huc⟩ := h.at hj
  obtain ⟨es, hes, hsrc, hrows⟩ := xe.src
  have hel : es.length = ll[j].length := by rw [← hes]; simp
  rw [← hel] at x0 hsrc
  exact ⟨b, o, ua, uc, es, rfl, hbx, x0, hes, hsrc, hrows⟩

theorem LA.listsE {wr : World} {n B o cap : Nat} {us : Nat → Value} {evs : Nat → List EV} {qb : Nat → Option Nat} {D : Nat → Prop} (h : LA wr n B o cap us evs qb D) (hn : n ≤ 1000000) : ListsE wr D (.slice (some ⟨B, o, none⟩) n cap) ((List.range n).map fun i => eL (evs i)) := by
  refine ⟨some ⟨B, o, none⟩, cap, by simp, by simp; omega, fun j hj => ?_⟩
  have hj' : j < n := by simpa using hj
  obtain ⟨c0, _, hl⟩ := h.cellB hj'
  obtain ⟨ua, uc, hu⟩ := (h.own j hj').form
  have hs := (h.own j hj').src
  rw [hu] at c0 hs
  exact ⟨B, o, ua, uc, evs j, rfl, hl, c0, by simp, hs, h.rows j hj'⟩

section walks
set_option maxHeartbeats 1000000
set_option maxRecDepth 100000

theorem f17_any (w : World) (v : Value) (ll : List (List Elem)) (D : Nat → Prop) (h : ListsE w D v ll) (hD : ∀ b, D b → b < w.heap.size) (hn : 1 ≤ ll.length) (hsm : smallLL ll) :
    Calls Try.prog 17 #[v] w fun e w' => ∃ B o cap us evs qb, e = .returned (.slice (some ⟨B, o, none⟩) ll.length cap) ∧ LA w' ll.length B o cap us evs qb D ∧ (∀ b, lown ll.length B qb b → w.heap.size ≤ b) ∧ (∀ i, i < ll.length → eL (evs i) = ll.getD i []) ∧ Below w.heap.size w w' := by
  have H := Lib.hid h
  have HD := Lib.hid hD
  have HSM := Lib.hid hsm
  obtain ⟨va, vc, rfl, hl, _⟩ := h
  obtain ⟨i1, hi1, hz10, hz11, hz12⟩ := info_parts info34
  obtain ⟨i2, hi2, hz20, hz21, hz22⟩ := info_parts info49
  clear hD
  have hll := hsm.1
  clear hsm
  have hbs : ∀ W : World, (Instr.buildSlice 49 0 #[]).run Try.prog W = .ok (.slice (some ⟨W.heap.size, 0, none⟩) 0 0) (W.alloc (.cells #[] 34)) := fun W => by kernel_rfl
  go_enter Try.func17, Try.ntmps17
  go_wp2
  go_loopw [3, 4] (fun o i wr => ∃ (j : Nat) (us : Nat → Value) (evs : Nat → List EV) (qb : Nat → Option Nat) (blk : Option Nat), j ≤ ll.length ∧ i = .int .i64 j ∧ CP w wr D ll j o us evs qb blk) (fun _ i _ => ll.length - (intOf i).toNat)
  case atStart => exact ⟨0, fun _ => undef, fun _ => [], fun _ => none, none, by omega, rfl, SlOwn.nil _ _ _, (fun i hi => by omega), (fun i _ hi => by omega), (fun i hi => by omega), (fun i k g hi => by omega), (fun i hi => by omega), (fun g hg => by cases hg), Below.refl _ _⟩
  case round =>
    obtain ⟨j, us, evs, qb, blk, hj, rfl, hS⟩ := hrel
    have HS := Lib.hid hS
    obtain ⟨oa, oc, hov⟩ := hS.arr.form
    subst hov
    by_cases hlt : j < ll.length
    · obtain ⟨va', vc', hvv, _, hat⟩ := H.out
      obtain ⟨b, o, ua, uc, es, hva, hbx, x0, hes, hsrc, hrows⟩ := hat j hlt
      injection hvv with hvv _ hvc
      subst hvv hvc hva
      have hel : es.length = ll[j].length := by rw [← hes]; simp [eL]
      have hlj := HSM.out.2 ll[j] (List.getElem_mem hlt)
      have hes6 : es.length ≤ 1000000 := by rw [hel]; exact hlj.1
      have x0' := (hS.below.cell (p := ⟨b, o + j, none⟩) hbx).trans x0
      have hbx' : b < wr.heap.size := Nat.lt_of_lt_of_le hbx hS.below.size
      have HES := Lib.hid hes
      have HROW := Lib.hid hrows
      have hb0 : Below wr.heap.size wr (wr.alloc (Obj.cells #[] 34)) := (Below.refl _ _).alloc (Nat.le_refl _) _
      have hs0 : SlOwn (wr.alloc (Obj.cells #[] 34)) 34 5 (.slice (some ⟨wr.heap.size, 0, none⟩) 0 0) 0 [] (some wr.heap.size) := ⟨rfl, .inr ⟨_, 0, 0, _, rfl, rfl, World.alloc_heap_new wr _, Nat.le_refl _, by simp [maxLen], by simp, rfl⟩⟩
      have hbw0 : Below w.heap.size w (wr.alloc (Obj.cells #[] 34)) := hS.below.trans (hb0.mono hS.below.size)
      have hsrc' : Src (wr.alloc (Obj.cells #[] 34)) 5 (.slice ua es.length uc) es.length (es.flatMap ecl) := by
        obtain ⟨h1, a', c', e', hx⟩ := hsrc
        refine ⟨h1, a', c', e', hx.imp id fun ⟨ad, ha, hc⟩ => ⟨ad, ha, fun k u hu => ?_⟩⟩
        have hc' := hc k u hu
        exact (hbw0.cell (World.block_lt_of_cell? w _ hc')).trans hc'
      have HB0 := Lib.hid hb0
      have HS0 := Lib.hid hs0
      have HSRC := Lib.hid hsrc'
      have hone := ecl_one hrows
      have HONE := Lib.hid hone
      have HEL := Lib.hid hel
      clear hat hS hlj hel hes hrows hb0 hs0 hsrc' hsrc hone hbw0 x0
      go_wp2_with (first
        | (at_builtin; refine wpList_append_S rfl (.tmp 12) (.tmp 16) 49 rfl 34 i1 _ 5 56 Try.underlying49 hi1 hz10 hz11 hz12 rfl (by omega) (.slice (some ⟨wr.heap.size, 0, none⟩) 0 0) 0 [] (some wr.heap.size) rfl HS0.out (.slice ua es.length uc) es.length (es.flatMap ecl) rfl HSRC.out HONE.out (by simp only [maxLen]; omega) (by omega) ?_
           intro v4 w4 bk4 hown4 hgrow4 hat4
           simp only [Nat.zero_add, List.nil_append] at hown4
           obtain ⟨a4, c4, rfl⟩ := hown4.form
           have hw4 : Below wr.heap.size wr w4 := HB0.out.grown hgrow4 (by simp) (fun q hq => by injection hq with hq; omega)
           have hbk4 : ∀ g, bk4 = some g → wr.heap.size ≤ g := fun g hg => by
             rcases hat4 with e | e
             · rw [hg] at e; injection e with e; omega
             · rw [hg] at e; injection e with e; rw [e]; simp
           have HW4 := Lib.hid hw4; have HO4 := Lib.hid hown4; have HBK4 := Lib.hid hbk4
           clear hw4 hown4 hbk4 hgrow4 hat4)
        | (at_builtin; refine wpList_append_S rfl (.tmp 11) (.tmp 18) 47 rfl 49 i2 _ 1 24 Try.underlying47 hi2 hz20 hz21 hz22 rfl (by omega) (.slice oa j oc) j ((List.range j).map us) blk rfl (HS.out.arr.keep fun g hg => (Below.heap_alloc _ _ _ (Nat.lt_of_lt_of_le (HS.out.arr.lt_of hg) HW4.out.size)).trans (HW4.out.block g (HS.out.arr.lt_of hg))) (.slice (some ⟨w4.heap.size, 0, none⟩) 1 1) 1 [.slice a4 es.length c4] rfl (LlSt.src1 _ _) (fun u hu => by rw [List.mem_singleton] at hu; subst hu; rfl) (by simp only [maxLen]; omega) (by omega) ?_
           intro v5 w5 bk5 hown5 hgrow5 hat5))
      have hnext := HS.out.add HD.out hlt HW4.out (u := .slice a4 es.length c4) (es := es) (qg := bk4) HO4.out HBK4.out (by simpa [eL] using HES.out) HROW.out ((Below.refl _ _).alloc (Nat.le_refl _) _) hown5 hgrow5 hat5
      have HN := Lib.hid hnext
      clear hnext hown5 hgrow5 hat5
      go_wp2
      go_roundw
      case rel => exact ⟨j + 1, _, _, _, _, by omega, by go_num, HN.out⟩
      case measure => simp [intOf]; omega
    · have hje : j = ll.length := by omega
      have HJ := Lib.hid hje
      clear hS
      go_wp2
      go_ret
      have hS := HS.out
      rw [HJ.out] at hS ⊢
      obtain ⟨B, o, cap, hv, hla, hnew⟩ := hS.la HD.out (by omega)
      exact ⟨B, o, cap, us, evs, qb, by rw [hv]; rfl, hla, hnew, fun i h => by rw [hS.eq i h h, List.getD_eq_getElem?_getD, List.getElem?_eq_getElem h]; rfl, hS.below⟩
end walks
end Go.Proofs.Ytdnkfgnjeibjeaa.W

import Derived.Test.YtdnkfgnjeibjeaaJH
namespace Go.Proofs.Ytdnkfgnjeibjeaa.W
open Go.RowKit Go.Shelf

def plainE (e : Elem) : Bool := !(e.k == 3)

/-- What passed and what was noted are what came before the barrier. -/
structure Tog (ll lp : List (List Elem)) (k : Int) (l : List (Int × Elem)) : Prop where
  ok : cutErr ll k = 0
  len : lp.length = ll.length
  inp : ∀ o ∈ l, 0 ≤ o.1 ∧ o.1 < ll.length
  eq : ∀ i, i < ll.length → lp.getD i [] ++ listOf i l = (cutAt k (ll.getD i [])).filter plainE

theorem lists_at {w : World} {D : Nat → Prop} {a : Option Addr} {n cap : Nat} {ll : List (List Elem)} (h : ListsAt w D (.slice a n cap) ll) (hn : n = ll.length) {k : Nat} (hk : k < ll.length) :
    ∃ b off ua uc, a = some ⟨b, off, none⟩ ∧ D b ∧ b < w.heap.size ∧ w.cell? ⟨b, off + k, none⟩ = some (.slice ua ll[k].length uc) ∧ ElemsAt w D (.slice ua ll[k].length uc) ll[k] := by
  subst hn
  obtain ⟨b, off, ua, uc, h1, h2, h3, h4, h5, _⟩ := h.at hk
  exact ⟨b, off, ua, uc, h1, h2, h3, h4, h5⟩

theorem LA.elems {wr : World} {n B o cap : Nat} {us : Nat → Value} {evs : Nat → List EV} {qb : Nat → Option Nat} {D : Nat → Prop} (h : LA wr n B o cap us evs qb D) {i : Nat} (hi : i < n) (hl : (evs i).length ≤ 1000000000) : ElemsAt wr (fun b => b < wr.heap.size) (us i) (eL (evs i)) := by
  obtain ⟨a, c, hu⟩ := (h.own i hi).form
  rw [hu]
  have hh := h.own i hi
  rw [hu] at hh
  refine ⟨a, c, by simp [eL], by simp [eL]; omega, ?_⟩
  rcases Nat.eq_zero_or_pos (evs i).length with h0 | h0
  · exact .inl (by rw [eL, List.eq_nil_of_length_eq_zero h0]; rfl)
  · rcases hh.2 with ⟨_, hx, _⟩ | ⟨g, o', cap', cur, hb, hx, _⟩
    · omega
    · injection hx with hx _ _
      subst hx
      refine .inr ⟨g, o', rfl, (h.own i hi).lt_of hb, fun j hj => ?_⟩
      have hj' : j < (evs i).length := by simpa [eL] using hj
      have hc := fun r (hr : r < 5) u (hu : (ecl (evs i)[j])[r]? = some u) => hh.cell (j * 5 + r) u ((flat_at ecl_len (evs i) j r hj' hr).trans hu)
      have he : (eL (evs i))[j] = (evs i)[j].1 := by simp [eL]
      rw [he]
      exact ⟨(evs i)[j].2, hc 0 (by omega) _ rfl, hc 1 (by omega) _ rfl, hc 2 (by omega) _ rfl, hc 3 (by omega) _ rfl, hc 4 (by omega) _ rfl, (h.rows i hi _ (List.getElem_mem hj')).mono fun b hb => (h.hD b hb).1⟩

section walks
set_option maxHeartbeats 1000000
set_option maxRecDepth 100000

theorem f19_yes (w : World) (v vp vn : Value) (ll lp : List (List Elem)) (k : Int) (l : List (Int × Elem)) (h : ListsAt w (fun b => b < w.heap.size) v ll) (hp : ListsAt w (fun b => b < w.heap.size) vp lp) (hn : OutsAt w (fun b => b < w.heap.size) vn l) (hs : smallLL ll) (hsp : smallLL lp) (hsl : l.length ≤ 1000000)
    (ht : Tog ll lp k l) : Calls Try.prog 19 #[v, .int .i64 k, vp, vn] w fun e w' => e = .returned (.bool true) ∧ Below w.heap.size w w' := by
  have h1 : 1 ≤ ll.length := by
    rcases Nat.eq_zero_or_pos ll.length with e | e
    · have := ht.ok
      unfold cutErr at this
      split at this
      · cases this
      · rw [if_pos (.inr (.inl (by omega)))] at this; cases this
    · exact e
  have hc : Calls Try.prog 36 #[v, .int .i64 k] w fun e w' => ∃ a c, e = .returned (.tuple #[.slice a ll.length c, .int .i64 0]) ∧ ListsAt w' (fun _ => True) (.slice a ll.length c) (ll.map (cutAt k)) ∧ Below w.heap.size w w' := by
    refine (f36_any w v ll k _ h (fun _ h => h) hs).mono ?_
    rintro e w' ⟨v1, he, hv1, hb1⟩
    rw [ht.ok] at he hv1
    rw [if_pos rfl] at hv1
    obtain ⟨a1, c1, hv, hl1⟩ := hv1.form
    rw [List.length_map] at hv
    exact ⟨a1, c1, by rw [he, hv], hv ▸ hv1, hb1⟩
  have hp2 := fun (W : World) (hb : Below w.heap.size w W) => f17_any W vp lp (fun b => b < W.heap.size) (ListsE.of ((hp.below hb).mono fun b hb' => Nat.lt_of_lt_of_le hb' hb.size)) (fun _ h => h) (by rw [ht.len]; exact h1) hsp
  rw [ht.len] at hp2
  have H := Lib.hid h
  have HN := Lib.hid hn
  have HT := Lib.hid ht
  have HC := Lib.hid hc
  have HP := Lib.hid hp2
  have HS := Lib.hid hs
  have HSP := Lib.hid hsp
  obtain ⟨va, vc, rfl, hl⟩ := h.form
  have hpf := hp.form
  rw [ht.len] at hpf
  obtain ⟨pa, pc, rfl, hpl⟩ := hpf
  obtain ⟨na, nc, rfl, hnl⟩ := hn.form
  have hll := hs.1
  clear h hp hn ht hc hp2 hs hsp hpl
  go_enter Try.func19, Try.ntmps19
  go_wp2_with (first
    | (go_at_call 36; refine HC.out.mono ?_; rintro e w1 ⟨a1, c1, rfl, hv1, hb1⟩; have HV1 := Lib.hid hv1; have HB1 := Lib.hid hb1; clear hv1 hb1)
    | (go_at_call 17; refine (HP.out _ HB1.out).mono ?_; rintro e w2 ⟨B, o, cap, us, evs, qb, rfl, hla, hnew, heq, hb2⟩; have HLA := Lib.hid hla; have HNEW := Lib.hid hnew; have HEQ := Lib.hid heq; have HB2 := Lib.hid hb2; clear hla hnew heq hb2))
  have hE0 : ∀ i, i < ll.length → eL (evs i) = lp.getD i [] ++ listOf i (l.take 0) := fun i hi => by rw [HEQ.out i hi]; simp [listOf]
  have HE0 := Lib.hid hE0
  clear hE0
  obtain ⟨k1, hk1, hz10, hz11, hz12⟩ := info_parts info34
  go_loopw [12] (fun i wr => ∃ (j : Nat) (us : Nat → Value) (evs : Nat → List EV) (qb : Nat → Option Nat), j ≤ l.length ∧ i = .int .i64 j ∧ LA wr ll.length B o cap us evs qb (fun b => b < w1.heap.size) ∧ (∀ b, lown ll.length B qb b → w1.heap.size ≤ b) ∧ (∀ i, i < ll.length → eL (evs i) = lp.getD i [] ++ listOf i (l.take j)) ∧ Below w1.heap.size w1 wr) (fun i _ => l.length - (intOf i).toNat)
  case atStart => exact ⟨0, us, evs, qb, by omega, rfl, HLA.out, HNEW.out, HE0.out, HB2.out⟩
  case round =>
    obtain ⟨j, us, evs, qb, hj, rfl, hla, hnew, heq, hbl⟩ := hrel
    have HLA := Lib.hid hla
    have HNEW := Lib.hid hnew
    have HEQ := Lib.hid heq
    have HBL := Lib.hid hbl
    have hbw : Below w.heap.size w wr := HB1.out.trans (hbl.mono HB1.out.size)
    have HBW := Lib.hid hbw
    clear hla hnew heq hbl hbw
    by_cases hlt : j < l.length
    · have hNw := HN.out.below HBW.out
      obtain ⟨b, off, ra, rn, rc, rfl, hbD, hbb, x0, x1, x2, x3, x4, x5, xr⟩ := hNw.at hlt
      have hinp := HT.out.inp _ (List.getElem_mem hlt)
      have HXR := Lib.hid xr
      have hjt : l.take (j + 1) = l.take j ++ [l[j]] := List.take_succ_eq_append_getElem hlt
      have HJT := Lib.hid hjt
      have hsb : b < w.heap.size := hbD
      clear hNw xr hjt hbD
      generalize l[j] = y at *
      obtain ⟨yi, ye⟩ := y
      dsimp only at x0 x1 x2 x3 x4 x5 hinp HXR
      obtain ⟨m, rfl⟩ : ∃ m : Nat, yi = m := ⟨yi.toNat, by omega⟩
      have hm : m < ll.length := by omega
      have m0 : (0 : Int) ≤ (m : Int) := by omega
      have m1 : ¬ (m : Int) < 0 := by omega
      have m2 : ¬ (m : Int) ≥ (ll.length : Int) := by omega
      have m3 : (m : Int) < (ll.length : Int) := by omega
      have j0 : (0 : Int) ≤ (j : Int) := by omega
      have j1 : (j : Int) < (l.length : Int) := by omega
      have hel : (evs m).length ≤ 2000000 := by
        have h1 := congrArg List.length (HEQ.out m hm)
        rw [List.length_append] at h1
        have h2 : (listOf m (l.take j)).length ≤ l.length := by
          unfold listOf
          rw [List.length_map]
          exact Nat.le_trans (List.length_filter_le _ _) (by rw [List.length_take]; omega)
        have h3 : (lp.getD m []).length ≤ 1000000 := by
          by_cases hmm : m < lp.length
          · rw [List.getD_eq_getElem?_getD, List.getElem?_eq_getElem hmm]
            exact (HSP.out.2 _ (List.getElem_mem hmm)).1
          · rw [List.getD_eq_getElem?_getD, List.getElem?_eq_none (by omega)]; simp
        simp only [eL, List.length_map] at h1
        omega
      clear hinp
      go_wp2_with fail
      obtain ⟨sa, sc, hus⟩ := (HLA.out.own m hm).form
      obtain ⟨y0, hBf, hBl⟩ := HLA.out.cellB hm
      rw [hus] at y0
      have hqB : qb m ≠ some B := fun e => (HLA.out.qbB hm e).1 rfl
      have hqb : qb m ≠ some b := fun e => by
        have := HNEW.out b (.inr ⟨m, hm, e⟩)
        have := HB1.out.size
        omega
      have hs0 : SlOwn (wr.alloc (Obj.cells #[.int .i64 ye.k, .int .i64 ye.n, .int .i64 ye.t, .slice ra rn rc, .int .i64 ye.c] 34)).drew 34 5 (.slice sa (evs m).length sc) (evs m).length ((evs m).flatMap ecl) (qb m) := by
        rw [← hus]
        exact (HLA.out.own m hm).keep fun g hg => Below.heap_alloc wr _ g (HLA.out.qbB hm hg).2
      have hs1 : Src (wr.alloc (Obj.cells #[.int .i64 ye.k, .int .i64 ye.n, .int .i64 ye.t, .slice ra rn rc, .int .i64 ye.c] 34)).drew 5 (.slice (some ⟨wr.heap.size, 0, none⟩) 1 1) 1 (ecl (ye, .slice ra rn rc)) := SlOwn.src (e := 34) (blk := some wr.heap.size) ⟨rfl, .inr ⟨_, 0, 1, _, rfl, rfl, World.alloc_heap_new wr (Obj.cells #[.int .i64 ye.k, .int .i64 ye.n, .int .i64 ye.t, .slice ra rn rc, .int .i64 ye.c] 34), Nat.le_refl _, by simp [maxLen], by simp, rfl⟩⟩
      have hone : ∀ u ∈ ecl (ye, Value.slice ra rn rc), u.oneCell' = true := fun u hu => by simp only [ecl, List.mem_cons, List.not_mem_nil, or_false] at hu; rcases hu with rfl | rfl | rfl | rfl | rfl <;> rfl
      have HUS := Lib.hid hus
      have HS0 := Lib.hid hs0
      have HS1 := Lib.hid hs1
      have HONE := Lib.hid hone
      clear hus hs0 hs1 hone
      have hC0 : Only (fun b => qb m = some b) wr wr.drew := (Only.refl _ _).drew
      have HC0 := Lib.hid hC0
      refine wp_region_float 19 2 (fun W => Only (fun b => qb m = some b) wr W) (by kernel_rfl) (by kernel_rfl) hC0 ?_
      simp only [List.take_succ_cons, List.take_zero, List.drop_succ_cons, List.drop_zero]
      clear hC0
      repeat (
        refine wpFloat_ex (fun K hK => ?_)
        apply Exists.intro
        refine ⟨fun W hW => ?_, ?_⟩
        · have hk := hW.cell
          clear hW
          go_simp
          rfl
        go_simp
        refine hK _ ?_
        clear hK K)
      refine wpFloat_nil ?_
      refine wpChain_step (fun K hK => ?_)
      go_simp
      refine hK _ _ rfl (fun _ => HC0.out.alloc _) ?_
      clear hK K
      refine wpChain_step (fun K hK => ?_)
      refine wp_append_S (.tmp 68) (.tmp 74) 49 rfl 34 k1 _ 5 56 Try.underlying49 hk1 hz10 hz11 hz12 rfl (by omega) (.slice sa (evs m).length sc) (evs m).length ((evs m).flatMap ecl) (qb m) rfl HS0.out (.slice (some ⟨wr.heap.size, 0, none⟩) 1 1) 1 (ecl (ye, .slice ra rn rc)) rfl HS1.out HONE.out (by simp only [maxLen]; omega) (by omega) ?_
      intro v6 w6 bk6 hown6 hgrow6 hat6
      obtain ⟨sa6, sc6, rfl⟩ := hown6.form
      have ho6 : Only (fun b => qb m = some b) wr w6 := (HC0.out.alloc _).grown hgrow6 (fun q hq _ => hq)
      have hcB : w6.cell? ⟨B, o + m, none⟩ = some (.slice sa (evs m).length sc) := (ho6.cell _ _ hBl hqB).trans y0
      have hB6 : B < w6.heap.size := Nat.lt_of_lt_of_le hBl ho6.size
      have hf6 : ∀ a, w6.frozen? ⟨B, a, none⟩ = false := by
        obtain ⟨cs, hcs⟩ := HLA.out.heapB
        exact blk_frozen ((ho6.block B hBl hqB).trans hcs)
      go_simp
      refine hK _ _ rfl (fun _ => ho6) ?_
      clear hK K
      have hb1' : Below wr.heap.size wr (wr.alloc (Obj.cells #[.int .i64 ye.k, .int .i64 ye.n, .int .i64 ye.t, .slice ra rn rc, .int .i64 ye.c] 34)).drew := ((Below.refl _ _).alloc (Nat.le_refl _) _).drew
      have hN := HLA.out.add (p := (ye, .slice ra rn rc)) hm (HXR.out.imp fun b _ hb => Nat.lt_of_lt_of_le hb HB1.out.size) hb1' hown6 hgrow6 hat6
      have hOn : Only (lown ll.length B qb) wr (w6.setCell ⟨B, o + m, none⟩ (.slice sa6 ((evs m).length + 1) sc6)) := LA.add_only hb1' hgrow6 hm
      have hlo := fun b (hb : lown ll.length B (fun j => if j = m then bk6 else qb j) b) => LA.add_own (w1 := (wr.alloc (Obj.cells #[.int .i64 ye.k, .int .i64 ye.n, .int .i64 ye.t, .slice ra rn rc, .int .i64 ye.c] 34)).drew) hat6 hm hb
      have HNX := Lib.hid hN
      have HON := Lib.hid hOn
      have HLO := Lib.hid hlo
      clear hN hOn hlo hown6 hgrow6 hat6 ho6 hb1'
      refine wpChain_step (fun K hK => ?_)
      go_simp
      refine hK _ _ rfl (fun h => absurd h (by decide)) ?_
      clear hK K
      refine wpChain_step (fun K hK => ?_)
      go_simp
      refine hK _ _ rfl (fun h => absurd h (by decide)) ?_
      clear hK K
      refine wpChain_nil ?_
      clear hcB hB6 hf6 x0 x1 x2 x3 x4 x5
      go_wp2_with fail
      go_roundw
      case rel =>
        refine ⟨j + 1, _, _, _, by omega, by go_num, HNX.out, fun b hb => ?_, fun i hi => ?_, HBL.out.trans (HON.out.below HBL.out.size fun b hb => HNEW.out b hb)⟩
        · rcases HLO.out b hb with h | h
          · exact HNEW.out b h
          · rw [h]
            have := HBL.out.size
            show w1.heap.size ≤ (wr.alloc _).heap.size
            rw [World.size_alloc]; omega
        · rw [HJT.out]
          have e0 : listOf i (l.take j ++ [((m : Int), ye)]) = listOf i (l.take j) ++ if i = m then [ye] else [] := by
            unfold listOf
            rw [List.filter_append, List.map_append]
            congr 1
            by_cases e : i = m
            · subst e; simp
            · have : ((m : Int) == (i : Int)) = false := by simp; omega
              simp [this, e]
          rw [e0, ← List.append_assoc, ← HEQ.out i hi]
          by_cases e : i = m
          · rw [if_pos e, if_pos e, eL_app, e]; rfl
          · rw [if_neg e, if_neg e, List.append_nil]
      case measure => simp [intOf]; omega
    · have hje : j = l.length := by omega
      have hE1 : ∀ i, i < ll.length → eL (evs i) = (cutAt k (ll.getD i [])).filter plainE := fun i hi => by
        rw [HEQ.out i hi, hje, List.take_of_length_le (Nat.le_refl _)]
        exact HT.out.eq i hi
      have HE1 := Lib.hid hE1
      clear hE1 hje
      obtain ⟨bb, hbb⟩ : ∃ bb, bb = ll.map (cutAt k) := ⟨_, rfl⟩
      have hbl : ll.length = bb.length := by rw [hbb]; simp
      have hbe : ∀ q (h : q < bb.length), (eL (evs q)) = bb[q].filter plainE := fun q h => by
        have hq : q < ll.length := by omega
        rw [HE1.out q hq]
        subst hbb
        rw [List.getElem_map, List.getD_eq_getElem?_getD, List.getElem?_eq_getElem hq]
        rfl
      have hbs : ∀ q (h : q < bb.length), bb[q].length ≤ 1000000 := fun q h => by
        have hq : q < ll.length := by omega
        subst hbb
        rw [List.getElem_map]
        exact Nat.le_trans (List.takeWhile_sublist _).length_le (HS.out.2 _ (List.getElem_mem hq)).1
      have hv := HV1.out.below HBL.out
      rw [← hbb] at hv
      have HV := Lib.hid hv
      have HBB := Lib.hid hbl
      have HBE := Lib.hid hbe
      have HBS := Lib.hid hbs
      clear hbb hbl hbe hbs hv HV1
      go_wp2_with fail
      obtain ⟨wo, rfl⟩ : ∃ wo : World, wo = wr := ⟨_, rfl⟩
      go_loopw [13] (fun i wx => ∃ q : Nat, q ≤ ll.length ∧ i = .int .i64 q ∧ Below wo.heap.size wo wx) (fun i _ => ll.length - (intOf i).toNat)
      case atStart => exact ⟨0, by omega, rfl, Below.refl _ _⟩
      case round =>
        obtain ⟨q, hq, rfl, hbo⟩ := hrel
        have HBO := Lib.hid hbo
        clear hbo
        by_cases hqt : q < ll.length
        · have hqb : q < bb.length := by have := HBB.out; omega
          obtain ⟨b, off, ua, uc, rfl, _, hbx, y0, ye⟩ := lists_at (HV.out.below HBO.out) HBB.out hqb
          obtain ⟨z0, hBf, hBl⟩ := (HLA.out.below HBO.out).cellB hqt
          have hel0 := (HLA.out.below HBO.out).elems hqt (by
            have h1 := congrArg List.length (HBE.out q hqb)
            have h2 := List.length_filter_le plainE bb[q]
            have h3 := HBS.out q hqb
            simp only [eL, List.length_map] at h1
            omega)
          obtain ⟨sa, sc, hus⟩ := (HLA.out.own q hqt).form
          rw [hus] at z0 hel0
          have hye := ye.imp (D' := fun b => b < wr.heap.size) (fun b hb _ => hb)
          have HYE := Lib.hid hye
          have HEL0 := Lib.hid hel0
          have hqs := HBS.out q hqb
          have hqe := HBE.out q hqb
          have HQE := Lib.hid hqe
          clear ye hye hel0 hus hqe
          obtain ⟨wb, rfl⟩ : ∃ wb : World, wb = wr := ⟨_, rfl⟩
          generalize hbq : bb[q] = E at *
          have HBQ := Lib.hid hbq
          clear hbq
          go_wp2_with fail
          go_loopw [14, 15] (fun s i wx => ∃ m : Nat, m ≤ E.length ∧ i = .int .i64 m ∧ ∃ es blk, UnbSt wb wx (fun b => b < wb.heap.size) s es blk ∧ es.map Prod.fst = (E.take m).filter plainE) (fun _ i _ => E.length - (intOf i).toNat)
          case atStart => exact ⟨0, Nat.zero_le _, rfl, [], none, ⟨⟨SlOwn.nil _ _ _, (fun p hp => by cases hp), by simp⟩, (fun g hg => by cases hg), Below.refl _ _⟩, rfl⟩
          case round =>
            obtain ⟨m, hm, rfl, es, blk, hS, hE⟩ := hrel
            obtain ⟨ta, tc, rfl⟩ := hS.at_.own.form
            have hle : es.length ≤ m := by
              have := congrArg List.length hE
              rw [List.length_map] at this
              have h2 := List.length_filter_le plainE (E.take m)
              rw [List.length_take] at h2
              omega
            have HE := Lib.hid hE
            have HSS := Lib.hid hS
            have hb := hS.below
            have y0' := (hb.cell (p := ⟨b, off + q, none⟩) hbx).trans y0
            have z0' := (hb.cell (p := ⟨B, o + q, none⟩) hBl).trans z0
            have hbx' : b < wr.heap.size := Nat.lt_of_lt_of_le hbx hb.size
            have hBl' : B < wr.heap.size := Nat.lt_of_lt_of_le hBl hb.size
            clear hE hS
            by_cases hmt : m < E.length
            · obtain ⟨b2, o2, ra, rn, rc, rfl, _, hb2, x0, x1, x2, x3, x4, xr⟩ := (HYE.out.below hb).at hmt
              have hev : (E.take (m + 1)).filter plainE = (E.take m).filter plainE ++ if plainE E[m] then [E[m]] else [] := by
                rw [List.take_succ_eq_append_getElem hmt, List.filter_append]
                cases hb : plainE E[m] <;> simp [hb]
              have HEV := Lib.hid hev
              have HXR := Lib.hid xr
              clear hev xr hb
              cases hbar : (E[m].k == 3)
              · have hbar' : (E[m].k != 3) = true := by simp [bne, hbar]
                have hp1 : ∀ u ∈ ecl (E[m], Value.slice ra rn rc), u.oneCell' = true := by
                  intro u hu
                  simp only [ecl, List.mem_cons, List.not_mem_nil, or_false] at hu
                  rcases hu with rfl | rfl | rfl | rfl | rfl <;> rfl
                have hs0 : SlOwn (wr.alloc (Obj.cells #[.int .i64 E[m].k, .int .i64 E[m].n, .int .i64 E[m].t, .slice ra rn rc, .int .i64 E[m].c] 34)) 34 5 (.slice ta es.length tc) es.length (es.flatMap ecl) blk := HSS.out.at_.own.keep fun g hg => Below.heap_alloc wr _ g (HSS.out.at_.own.lt_of hg)
                have hs1 : Src (wr.alloc (Obj.cells #[.int .i64 E[m].k, .int .i64 E[m].n, .int .i64 E[m].t, .slice ra rn rc, .int .i64 E[m].c] 34)) 5 (.slice (some ⟨wr.heap.size, 0, none⟩) 1 1) 1 (ecl (E[m], .slice ra rn rc)) := EvsAt.src1 wr (E[m], .slice ra rn rc)
                have HP1 := Lib.hid hp1
                have HS0 := Lib.hid hs0
                have HS1 := Lib.hid hs1
                clear hp1 hs0 hs1
                go_wp2_with (at_builtin; refine wpList_append_S rfl (.tmp 101) (.tmp 109) 49 rfl 34 k1 _ 5 56 Try.underlying49 hk1 hz10 hz11 hz12 rfl (by omega) (.slice ta es.length tc) es.length (es.flatMap ecl) blk rfl HS0.out (.slice (some ⟨wr.heap.size, 0, none⟩) 1 1) 1 (ecl (E[m], .slice ra rn rc)) rfl HS1.out HP1.out (by simp only [maxLen]; omega) (by omega) ?_; intro v8 w8 blk8 hown8 hgrow8 hat8; have HNS := Lib.hid (HSS.out.add (p := (E[m], .slice ra rn rc)) (fun _ h => h) HXR.out (by omega) hown8 hgrow8 hat8); obtain ⟨sa8, sc8, rfl⟩ := hown8.form; clear hown8 hgrow8 hat8)
                go_roundw
                case rel => exact ⟨m + 1, by omega, by go_num, _, _, HNS.out, by rw [HEV.out, List.map_append, HE.out]; simp [plainE, hbar]⟩
                case measure => simp [intOf]; omega
              · have hbar' : (E[m].k != 3) = false := by simp [bne, hbar]
                go_wp2_with fail
                go_roundw
                case rel => exact ⟨m + 1, by omega, by go_num, _, _, HSS.out, by rw [HEV.out, HE.out]; simp [plainE, hbar]⟩
                case measure => simp [intOf]; omega
            · have hml : m = E.length := by omega
              have hcall := f22_any wr (.slice sa (evs q).length sc) (.slice ta es.length tc) (eL (evs q)) (es.map Prod.fst) _ _ (HEL0.out.below hb) (HSS.out.at_.elems (D' := fun _ => True) (fun _ _ => trivial) (fun _ _ => trivial))
              have hse : sameElems (eL (evs q)) (es.map Prod.fst) = true := by
                rw [HE.out, hml, List.take_of_length_le (Nat.le_refl _), HQE.out]
                exact sameElems_self _
              rw [hse] at hcall
              have HCL := Lib.hid hcall
              have HB8 := Lib.hid hb
              clear hcall hse hml hb
              go_wp2_with (go_at_call 22; refine HCL.out.mono ?_; rintro e w9 ⟨rfl, hb9⟩; have HB9 := Lib.hid (HBO.out.trans ((HB8.out.trans (hb9.mono HB8.out.size)).mono HBO.out.size)); clear hb9)
              go_roundw
              case rel => exact ⟨q + 1, by omega, by go_num, HB9.out⟩
              case measure => simp [intOf]; omega
        · go_wp2_with fail
          go_ret
          exact ⟨rfl, HBW.out.trans (HBO.out.mono HBW.out.size)⟩
end walks
end Go.Proofs.Ytdnkfgnjeibjeaa.W

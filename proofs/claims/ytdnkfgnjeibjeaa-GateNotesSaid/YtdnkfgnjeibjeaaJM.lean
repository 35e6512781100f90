import Derived.Test.YtdnkfgnjeibjeaaJL
namespace Go.Proofs.Ytdnkfgnjeibjeaa.W
open Go.RowKit Go.Shelf

theorem PI.noted_mem {m : Gm} {N : List Note} {ins : Nat → List Elem} {ats : Ats} (h : PI m N ins ats) {y : Note} (hy : y ∈ N) {o : Nat × Elem} (ho : o ∈ y.2.1) : o.1 < m.n ∧ o.2 ∈ ins o.1 := by
  obtain ⟨⟨ll, _, _, e3⟩, e4⟩ := h.note y hy
  have hi := e4 o ho
  refine ⟨hi, ?_⟩
  have h3 := e3 o.1 hi
  have hx : o.2 ∈ notedAt y.2.1 o.1 := List.mem_map.2 ⟨o, List.mem_filter.2 ⟨ho, by simp⟩, rfl⟩
  have hx2 : o.2 ∈ (cutAt y.1 (ins o.1)).filter plainE := by rw [← h3]; exact List.mem_append_right _ hx
  exact (List.takeWhile_sublist _).subset (List.mem_filter.1 hx2).1

def Notes18 (wr : World) (n M B1 : Nat) (k : Int) (e : Ending) (w7 : World) : Prop :=
  Below wr.heap.size wr w7 ∧ (e = .returned (.tuple #[.slice none 0 0, .bool false, .int .i64 8]) ∨ (∃ a m c, e = .returned (.tuple #[.slice a m c, .bool false, .int .i64 0])) ∨
    (∃ a m c pa pm pc, e = .returned (.tuple #[.slice a m c, .bool true, .int .i64 0]) ∧ (Instr.lookup 48 (.map (some M)) (.int .i64 k) false).run Try.prog w7 = .ok (.slice pa pm pc) w7 ∧
      Calls Try.prog 19 #[.slice (some ⟨B1, 0, none⟩) n n, .int .i64 k, .slice pa pm pc, .slice a m c] w7 (fun e w' => e = .returned (.bool true) ∧ Below w7.heap.size w7 w')))

theorem St4.notes18 {w2 wr : World} {n G M B1 B2 c : Nat} {col : Nat → Nat} {D : Nat → Prop} {gs : GS} {m : Gm} {ns : List NoteC} {us1 us2 : Nat → Value} {ev1 ev2 : Nat → List EV} {qb1 qb2 : Nat → Option Nat} {AT : List AtE} {ins : Nat → List Elem}
    (h : St4 w2 wr n G M B1 B2 c col D gs m ns us1 ev1 qb1 us2 ev2 qb2 AT ins) (hc : c ≤ 400) (h1 : 1 ≤ n) (h2 : n ≤ 200) (k : Int) (hk : 1 ≤ k) :
    Calls Try.prog 18 #[.pointer (some ⟨G, 0, none⟩), .int .i64 k] wr (Notes18 wr n M B1 k) := by
  have hG := h.n4.hG
  have hn := h.n4.hn
  have hg := h.n4.gate
  have hcnt := h.cnt
  rw [← noteSum_abs] at hcnt
  subst hG
  cases hno : noteOf ns k with
  | none => exact (f18_none wr D gs m ns hg k hno).mono fun e w' ⟨he, hb⟩ => ⟨hb, .inl he⟩
  | some z =>
    obtain ⟨hz, hzk⟩ := noteOf_mem hno
    subst hzk
    have hzl : z.outs.length ≤ 1000000 := by
      have hle : ∀ (l : List NoteC), z ∈ l → z.outs.length ≤ noteSum l := by
        intro l
        induction l with
        | nil => intro h; cases h
        | cons y l ih =>
          intro h
          simp only [noteSum, List.map_cons, List.sum_cons] at *
          rcases List.mem_cons.1 h with rfl | h
          · omega
          · have := ih h; omega
      have := hle ns hz
      omega
    have hmem : z.abs ∈ ns.map NoteC.abs := List.mem_map.2 ⟨z, hz, rfl⟩
    have hrow : ∀ o ∈ z.outs, o.2.1.row.length ≤ 1000000 := fun o ho => by
      have hm := h.pi.noted_mem hmem (o := (o.1, o.2.1)) (List.mem_map.2 ⟨o, ho, rfl⟩)
      have h9 : o.2.1.row.length ≤ 20 := ((h.sz o.1 (by rw [← hn]; exact hm.1)).2 _ hm.2).1
      omega
    refine (f18_some wr D gs m ns hg z hz hrow hzl).mono ?_
    rintro e w7 ⟨v7, outs7, blk7, he, hcp⟩
    refine ⟨hcp.below, .inr ?_⟩
    obtain ⟨a7, c7, hv7⟩ := hcp.own.form
    cases hw : z.whole with
    | false =>
      rw [hw, hv7] at he
      exact .inl ⟨_, _, _, he⟩
    | true =>
      rw [hw, hv7] at he
      have hlen7 : outs7.length = z.outs.length := by
        have := congrArg List.length hcp.eq
        simpa [outE'] using this
      have hv : ∀ i, i < m.n → ∀ x ∈ ins i, validElem x = true := fun i hi x hx => ((h.sz i (by rw [← hn]; exact hi)).2 x hx).2
      obtain ⟨lp, hat, htog, hlpm⟩ := h.pi.tog (by omega) (by omega) hv hmem hk
      obtain ⟨en, hen, hell, hval⟩ := atOf_ats hat
      have hN7 := h.n4.next hcp.below
      have hla := h.n4.ats en hen
      rw [hell] at hla
      obtain ⟨pa, pc, hpv, _⟩ := hla.form
      obtain ⟨clk, hmap⟩ := hN7.map
      have hlk := lookup48 w7 M clk z.k (atE_ents AT) hmap
      have hval' : valAt (AT.map AtE.pair) z.k = some en.v := hval
      rw [hval', Option.getD_some, hpv] at hlk
      refine .inr ⟨_, _, _, _, _, _, he, hlk, ?_⟩
      rw [← hpv, ← hv7]
      have hsz1 : ∀ i, i < n → (ins i).length ≤ 1000000 ∧ ∀ x ∈ ins i, x.row.length ≤ 1000000 := fun i hi => ⟨by have := (h.sz i hi).1; omega, fun x hx => by have := ((h.sz i hi).2 x hx).1; omega⟩
      have hins : (List.range n).map (fun i => eL (ev1 i)) = (List.range m.n).map ins := by
        rw [hn]
        exact List.map_congr_left fun i hi => h.e1 i (List.mem_range.1 hi)
      have hevl : ∀ i, i < n → (ev1 i).length ≤ 1000000 := fun i hi => by
        have h3 := congrArg List.length (h.e1 i hi)
        have h4 := (hsz1 i hi).1
        simp only [eL, List.length_map] at h3
        omega
      have hL1 := hN7.inl.lists (by omega) hevl
      rw [hins] at hL1
      have hb7 := hcp.below
      have hD7 : ∀ b, b < w2.heap.size → b < w7.heap.size := fun b hb => by have := h.n4.bl.size; have := hb7.size; omega
      have hlpn : lp.length = n := by have := htog.len; simpa [hn] using this
      have hsl : ∀ y ∈ lp, y.length ≤ 1000000 ∧ ∀ x ∈ y, x.row.length ≤ 1000000 := fun y hy => by
        obtain ⟨i, hi, rfl⟩ := List.mem_iff_getElem.1 hy
        have hi' : i < n := by omega
        have hgd : lp.getD i [] = lp[i] := by rw [List.getD_eq_getElem?_getD, List.getElem?_eq_getElem hi]; rfl
        have heq := htog.eq i (by simp; omega)
        have hgi : ((List.range m.n).map ins).getD i [] = ins i := by rw [List.getD_eq_getElem?_getD, List.getElem?_map, List.getElem?_range (by omega)]; rfl
        rw [hgi, hgd] at heq
        refine ⟨?_, fun x hx => (hsz1 i hi').2 x (hlpm i (by omega) x (by rw [hgd]; exact hx))⟩
        have hl := congrArg List.length heq
        rw [List.length_append] at hl
        have h5 := List.length_filter_le plainE (cutAt z.abs.1 (ins i))
        have h6 := (List.takeWhile_sublist (fun x : Elem => !(x.k == 3 && x.n == z.abs.1)) (l := ins i)).length_le
        have h7 := (hsz1 i hi').1
        have h8 : (cutAt z.abs.1 (ins i)).length ≤ (ins i).length := h6
        omega
      have ho7 := OutsAt.of_own (D := fun b => b < w7.heap.size) hcp.own (by omega) (fun o ho => (hcp.rows o ho).mono fun b hb => hb.2.1) (fun b hb => hcp.own.lt_of hb)
      have hbare : outs7.map bare = z.abs.2.1.map fun o => ((o.1 : Int), o.2) := by
        have : z.abs.2.1 = outE' outs7 := hcp.eq.symm
        rw [this]
        unfold outE'
        rw [List.map_map]
        rfl
      rw [hbare] at ho7
      refine f19_yes w7 _ en.v v7 _ lp z.k _ (hL1.mono fun b hb => ?_) ((hla.below hb7).mono fun b hb => Nat.lt_of_lt_of_le (h.n4.hD b hb) hb7.size) ho7 ⟨by simp; omega, fun y hy => ?_⟩ ⟨by omega, hsl⟩ ?_ htog
      · rcases hb with hb | hb
        · exact hN7.inl.lt hb
        · exact hD7 b hb
      · obtain ⟨i, hi, rfl⟩ := List.mem_map.1 hy
        have hi := List.mem_range.1 hi
        exact hsz1 i (by omega)
      · have : z.abs.2.1.length = z.outs.length := by simp [NoteC.abs, outE']
        rw [List.length_map, this]; exact hzl

theorem blk_of_own {w : World} {e : TypeId} {size : Nat} {v : Value} {n : Nat} {xs : List Value} {blk : Option Nat} (h : SlOwn w e size v n xs blk) {g : Nat} (hg : blk = some g) : ∃ cs, w.heap[g]? = some (.cells cs e (0, 0)) := by
  rcases h.2 with ⟨_, _, hx⟩ | ⟨g', o, cap, cur, hx, _, hc, _⟩
  · rw [hg] at hx; cases hx
  · rw [hg] at hx; injection hx with hx; subst hx; exact ⟨cur, hc⟩

theorem N4.copy {w2 wr : World} {n G M B1 B2 : Nat} {col : Nat → Nat} {D : Nat → Prop} {gs : GS} {m : Gm} {ns : List NoteC} {us1 us2 : Nat → Value} {ev1 ev2 : Nat → List EV} {qb1 qb2 : Nat → Option Nat} {AT : List AtE} {ov : Value} {outs : List OV} {oblk : Option Nat}
    (h : N4 w2 wr n G M B1 B2 col D gs m ns us1 ev1 qb1 us2 ev2 qb2 AT ov outs oblk) (h1 : 1 ≤ n) (h2 : n ≤ 200) (hs : ∀ i, i < n → (eL (ev2 i)).length ≤ 1000000 ∧ ∀ x ∈ eL (ev2 i), x.row.length ≤ 1000000) (W : World) (hb : Below wr.heap.size wr W) :
    Calls Try.prog 17 #[.slice (some ⟨B2, 0, none⟩) n n] W fun e w' => ∃ B o cap us evs qb, e = .returned (.slice (some ⟨B, o, none⟩) n cap) ∧ LA w' n B o cap us evs qb D ∧ (∀ b, lown n B qb b → W.heap.size ≤ b) ∧ (∀ i, i < n → eL (evs i) = eL (ev2 i)) ∧ Below W.heap.size W w' := by
  have hl := (h.got.below hb).listsE (by omega)
  have hc := f17_any W _ _ D hl (fun b hb' => Nat.lt_of_lt_of_le (h.hD b hb') hb.size) (by simpa using h1) ⟨by simp; omega, fun y hy => by
    obtain ⟨i, hi, rfl⟩ := List.mem_map.1 hy
    exact hs i (List.mem_range.1 hi)⟩
  have e : ((List.range n).map fun i => eL (ev2 i)).length = n := by simp
  rw [e] at hc
  refine hc.mono ?_
  rintro e w' ⟨B, o, cap, us, evs, qb, he, hla, hnew, heq, hbb⟩
  refine ⟨B, o, cap, us, evs, qb, he, hla, hnew, fun i hi => ?_, hbb⟩
  rw [heq i hi, List.getD_eq_getElem?_getD, List.getElem?_map, List.getElem?_range hi]
  rfl
end Go.Proofs.Ytdnkfgnjeibjeaa.W

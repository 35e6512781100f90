import Derived.Test.YtdnkfgnjeibjeaaK3

namespace Go.Proofs.Ytdnkfgnjeibjeaa.W
open Go.RowKit Go.Shelf

/-- What waits of an input, its barriers aside. -/
def qp (m : Gm) (j : Nat) : List Elem := plainL (eL (m.inp j).queue)

theorem qp_upd {m : Gm} {i : Nat} {x : Inp} (h : x.queue = (m.inp i).queue) (j : Nat) : qp (m.upd i x) j = qp m j := by
  unfold qp
  by_cases e : j = i
  · subst e; rw [upd_self, h]
  · rw [upd_ne _ _ e]

def consJ : Job → Gm → Gm → List OV → Prop
  | .look i x, m, m', o => ∀ j, j < m.n → pst j o ++ qp m' j = (if j = i then plainL [x.1] else []) ++ qp m j
  | _, m, m', o => ∀ j, j < m.n → pst j o ++ qp m' j = qp m j

theorem qp_drain (m : Gm) (j : Nat) : pst j (drainOuts m (m.list m.n)) ++ qp (m.drainTo (m.list m.n)) j = qp m j := by
  rw [pst_drain]
  unfold qp
  rw [drain_inp]
  by_cases c : j < m.n ∧ m.waits j = true
  · rw [if_pos c, if_pos c, ← plainL_all fun x hx => List.all_eq_true.1 List.all_takeWhile x hx, ← plainL_app]
    unfold Inp.drained
    rw [← eL_app, List.takeWhile_append_dropWhile]
  · rw [if_neg c, if_neg c]; rfl

theorem runs_cons {J : Job} {m m' : Gm} {o : List OV} (h : Runs J m m' o) : consJ J m m' o := by
  induction h with
  | @pass m i x hi hp =>
    intro j hj
    rw [pst_cons, pst_nil, List.append_nil]
    by_cases e : i = j
    · subst e; rfl
    · rw [if_neg e, if_neg (fun h => e h.symm)]
  | @drop m i x hk hd =>
    intro j hj
    rw [pst_nil, plainL_bar hk]
    split <;> rfl
  | @over m m2 m3 i x o1 o2 hk hd hu0 hu r1 r2 h1 h2 =>
    intro j hj
    have e1 := h1 j hj
    have e2 := h2 j (by rw [r1.fix.1]; exact hj)
    rw [plainL_bar hk] at e2 ⊢
    rw [pst_app, List.append_assoc, e2]
    have e3 : (if j = i then ([] : List Elem) else []) = [] := by split <;> rfl
    rw [e3, List.nil_append, e1]
    rfl
  | @same m m2 i x o hi0 hk hd hu hu0 r1 h1 =>
    intro j hj
    rw [plainL_bar hk]
    have e3 : (if j = i then ([] : List Elem) else []) = [] := by split <;> rfl
    rw [e3, List.nil_append, h1 j hj]
    exact qp_upd (m := m) (i := i) (x := (m.inp i).send) rfl j
  | @first m m2 i x o hi0 hk hd hu0 r1 h1 =>
    intro j hj
    rw [plainL_bar hk]
    have e3 : (if j = i then ([] : List Elem) else []) = [] := by split <;> rfl
    rw [e3, List.nil_append, h1 j hj]
    exact qp_upd (m := { m with under := x.1.n }) (i := i) (x := (m.inp i).send) rfl j
  | none h0 => intro j hj; rfl
  | @whole m m2 i o hu hm r1 h1 =>
    intro j hj
    rw [pst_cons, plainL_bar (x := (bar m.under).1) rfl]
    have e3 : (if i = j then ([] : List Elem) else []) = [] := by split <;> rfl
    rw [e3, List.nil_append, h1 j hj]
    rfl
  | @done m h => intro j hj; exact qp_drain m j
  | @again m m3 m5 j x rest o2 o3 hj hnx hq hk r1 r2 h1 h2 =>
    intro k hk2
    obtain ⟨al, an, au, ad⟩ := m.drainTo_al (m.list m.n)
    have hn3 : m3.n = m.n := r1.fix.1.trans an
    have e1 := h1 k (by show k < (m.drainTo (m.list m.n)).n; rw [an]; exact hk2)
    have e2 := h2 k (by show k < m3.n; rw [hn3]; exact hk2)
    rw [plainL_bar hk] at e1
    have e3 : (if k = j then ([] : List Elem) else []) = [] := by split <;> rfl
    rw [e3, List.nil_append] at e1
    rw [pst_app, pst_app, List.append_assoc, List.append_assoc, e2]
    have e4 : qp (m3.freed j) k = qp m3 k := qp_upd (m := m3) (i := j) (x := { m3.inp j with holds := false }) rfl k
    have e5 : qp ((m.drainTo (m.list m.n)).popd j rest) k = qp (m.drainTo (m.list m.n)) k := by
      unfold qp
      by_cases e : k = j
      · subst e
        rw [Gm.popd, upd_self, hq]
        show plainL (eL rest) = plainL (eL ([x] ++ rest))
        rw [eL_app, plainL_app, show plainL (eL [x]) = [] from plainL_bar hk]
        rfl
      · rw [Gm.popd, upd_ne _ _ e]
    rw [e4, e1, e5]
    exact qp_drain m k

/-- The barriers that passed. -/
def bns (o : List OV) : List Int := (o.filter fun p => p.2.1.k == 3).map fun p => p.2.1.n

theorem bns_app (a b : List OV) : bns (a ++ b) = bns a ++ bns b := by unfold bns; rw [List.filter_append, List.map_append]

structure BarsUp (m m' : Gm) (o : List OV) : Prop where
  dlt : 0 < m'.under → m'.done < m'.under
  up : m.done ≤ m'.done
  inc : (bns o).Pairwise (· < ·)
  mem : ∀ b ∈ bns o, m.done < b ∧ b ≤ m'.done

theorem BarsUp.app {m m2 m3 : Gm} {o1 o2 : List OV} (h : BarsUp m m2 o1) (k : BarsUp m2 m3 o2) : BarsUp m m3 (o1 ++ o2) := by
  refine ⟨k.dlt, Int.le_trans h.up k.up, ?_, fun b hb => ?_⟩
  · rw [bns_app]
    exact List.pairwise_append.2 ⟨h.inc, k.inc, fun a ha b hb => Int.lt_of_le_of_lt (h.mem a ha).2 (k.mem b hb).1⟩
  · rw [bns_app] at hb
    have := h.up
    have := k.up
    rcases List.mem_append.1 hb with hb | hb
    · have := h.mem b hb; omega
    · have := k.mem b hb; omega

theorem BarsUp.lower {m0 m m' : Gm} {o : List OV} (h : BarsUp m m' o) (hd : m0.done ≤ m.done) : BarsUp m0 m' o :=
  ⟨h.dlt, Int.le_trans hd h.up, h.inc, fun b hb => ⟨Int.lt_of_le_of_lt hd (h.mem b hb).1, (h.mem b hb).2⟩⟩

theorem bns_plain {o : List OV} (h : ∀ p ∈ o, p.2.plain = true) : bns o = [] := by
  unfold bns
  rw [List.filter_eq_nil_iff.2]
  · rfl
  · intro p hp
    have := h p hp
    simp only [EV.plain, bne_iff_ne, ne_eq] at this
    simpa using this

theorem runs_bars {J : Job} {m m' : Gm} {o : List OV} (h : Runs J m m' o) : 0 ≤ m.under → 0 ≤ m.done → (0 < m.under → m.done < m.under) → BarsUp m m' o := by
  induction h with
  | @pass m i x hi hp => exact fun _ _ hl => ⟨hl, Int.le_refl _, by rw [bns_plain (fun p hp' => by rw [List.mem_singleton] at hp'; subst hp'; exact hp)]; exact List.Pairwise.nil, fun b hb => by rw [bns_plain (fun p hp' => by rw [List.mem_singleton] at hp'; subst hp'; exact hp)] at hb; cases hb⟩
  | drop hk hd => exact fun _ _ hl => ⟨hl, Int.le_refl _, List.Pairwise.nil, fun b hb => by cases hb⟩
  | @over m m2 m3 i x o1 o2 hk hd hu0 hu r1 r2 h1 h2 =>
    intro hu' hd' hl
    have p4 : 0 ≤ m.ends.done := Int.le_trans hd' (Int.le_max_left _ _)
    have b1 := h1 (Int.le_refl _) p4 (fun h => absurd h (by show ¬ (0 : Int) < 0; omega))
    have hp := r1.pos (Int.le_refl _) p4
    exact (b1.lower (m0 := m) (Int.le_max_left _ _)).app (h2 hp.1 hp.2 b1.dlt)
  | @same m m2 i x o hi0 hk hd hu hu0 r1 h1 => exact fun hu' hd' hl => (h1 hu' hd' hl).lower (Int.le_refl _)
  | @first m m2 i x o hi0 hk hd hu0 r1 h1 =>
    intro hu' hd' hl
    exact (h1 (by show 0 ≤ x.1.n; omega) hd' (fun _ => hd)).lower (Int.le_refl _)
  | none h0 => exact fun _ _ hl => ⟨hl, Int.le_refl _, List.Pairwise.nil, fun b hb => by cases hb⟩
  | @whole m m2 i o hu hm r1 h1 =>
    intro hu' hd' hl
    have hup : 0 < m.under := by omega
    have hlt := hl hup
    have p4 : 0 ≤ m.ends.done := Int.le_trans hd' (Int.le_max_left _ _)
    have b1 := h1 (Int.le_refl _) p4 (fun h => absurd h (by show ¬ (0 : Int) < 0; omega))
    have hde : m.ends.done = m.under := by show max m.done m.under = m.under; omega
    have hb : bns ((i, bar m.under) :: o) = m.under :: bns o := rfl
    refine ⟨b1.dlt, by have := b1.up; omega, ?_, fun b hb' => ?_⟩
    · rw [hb]
      refine List.pairwise_cons.2 ⟨fun b hb' => ?_, b1.inc⟩
      have := (b1.mem b hb').1
      omega
    · rw [hb] at hb'
      have := b1.up
      rcases List.mem_cons.1 hb' with rfl | hb'
      · omega
      · have := b1.mem b hb'; omega
  | @done m h =>
    intro hu' hd' hl
    obtain ⟨al, an, au, ad⟩ := m.drainTo_al (m.list m.n)
    have hp : bns (drainOuts m (m.list m.n)) = [] := bns_plain fun p hp => (drainOuts_plain m _ p hp).1
    refine ⟨by rw [au, ad]; exact hl, by rw [ad]; exact Int.le_refl _, by rw [hp]; exact List.Pairwise.nil, fun b hb => by rw [hp] at hb; cases hb⟩
  | @again m m3 m5 j x rest o2 o3 hj hnx hq hk r1 r2 h1 h2 =>
    intro hu' hd' hl
    obtain ⟨al, an, au, ad⟩ := m.drainTo_al (m.list m.n)
    have hp : bns (drainOuts m (m.list m.n)) = [] := bns_plain fun p hp => (drainOuts_plain m _ p hp).1
    have u1 : ((m.drainTo (m.list m.n)).popd j rest).under = m.under := au
    have d1 : ((m.drainTo (m.list m.n)).popd j rest).done = m.done := ad
    have b0 : BarsUp m ((m.drainTo (m.list m.n)).popd j rest) (drainOuts m (m.list m.n)) :=
      ⟨by rw [u1, d1]; exact hl, by rw [d1]; exact Int.le_refl _, by rw [hp]; exact List.Pairwise.nil, fun b hb => by rw [hp] at hb; cases hb⟩
    have b1 := h1 (by rw [u1]; exact hu') (by rw [d1]; exact hd') b0.dlt
    have hpos := r1.pos (by rw [u1]; exact hu') (by rw [d1]; exact hd')
    have b2 := h2 hpos.1 hpos.2 b1.dlt
    exact b0.app (b1.app (b2.lower (m0 := m3) (Int.le_refl _)))

def rngJ : Job → Gm → Prop
  | .look i _, m => i < m.n
  | .whole i, m => i < m.n
  | .go, _ => True

theorem runs_rng {J : Job} {m m' : Gm} {o : List OV} (h : Runs J m m' o) : rngJ J m → ∀ p ∈ o, p.1 < m.n := by
  induction h with
  | @pass m i x hi hp => intro _ p hp'; rw [List.mem_singleton] at hp'; subst hp'; exact hi
  | drop hk hd => intro _ p hp; cases hp
  | @over m m2 m3 i x o1 o2 hk hd hu0 hu r1 r2 h1 h2 =>
    intro hi p hp
    rcases List.mem_append.1 hp with hp | hp
    · exact h1 trivial p hp
    · have := h2 (by show i < m2.n; rw [r1.fix.1]; exact hi) p hp
      rw [r1.fix.1] at this
      exact this
  | same hi0 hk hd hu hu0 r1 h1 => exact fun hi => h1 hi
  | first hi0 hk hd hu0 r1 h1 => exact fun hi => h1 hi
  | none h0 => intro _ p hp; cases hp
  | @whole m m2 i o hu hm r1 h1 =>
    intro hi p hp
    rcases List.mem_cons.1 hp with rfl | hp
    · exact hi
    · exact h1 trivial p hp
  | @done m h => intro _ p hp; exact (mem_list.1 (drainOuts_plain m _ p hp).2.1).1
  | @again m m3 m5 j x rest o2 o3 hj hnx hq hk r1 r2 h1 h2 =>
    intro _ p hp
    obtain ⟨al, an, au, ad⟩ := m.drainTo_al (m.list m.n)
    have hn3 : m3.n = m.n := r1.fix.1.trans an
    rcases List.mem_append.1 hp with hp | hp
    · exact (mem_list.1 (drainOuts_plain m _ p hp).2.1).1
    · rcases List.mem_append.1 hp with hp | hp
      · have := h1 (by show j < (m.drainTo (m.list m.n)).n; rw [an]; exact hj) p hp
        have e : ((m.drainTo (m.list m.n)).popd j rest).n = m.n := an
        rw [e] at this; exact this
      · have := h2 trivial p hp
        have e : (m3.freed j).n = m.n := hn3
        rw [e] at this; exact this

theorem runs_closed {J : Job} {m m' : Gm} {o : List OV} (h : Runs J m m' o) : ∀ i, (m'.inp i).closed = (m.inp i).closed := by
  induction h with
  | pass | drop | none => exact fun _ => rfl
  | over _ _ _ _ _ _ h1 h2 => exact fun i => (h2 i).trans (h1 i)
  | @same m m2 i x o _ _ _ _ _ _ h1 =>
    intro j
    rw [h1 j]
    by_cases e : j = i
    · subst e; rw [upd_self]; rfl
    · rw [upd_ne _ _ e]
  | @first m m2 i x o _ _ _ _ _ h1 =>
    intro j
    rw [h1 j]
    by_cases e : j = i
    · subst e; rw [upd_self]; rfl
    · rw [upd_ne _ _ e]
  | whole _ _ _ h1 => exact h1
  | @done m _ => intro i; rw [drain_inp]; split <;> rfl
  | @again m m3 m5 j x rest o2 o3 hj hnx hq hk r1 r2 h1 h2 =>
    intro i
    have hd : ((m.drainTo (m.list m.n)).inp i).closed = (m.inp i).closed := by rw [drain_inp]; split <;> rfl
    rw [h2 i]
    by_cases e : i = j
    · subst e
      rw [Gm.freed, upd_self]
      refine (h1 i).trans ?_
      rw [Gm.popd, upd_self]; exact hd
    · rw [Gm.freed, upd_ne _ _ e]
      refine (h1 i).trans ?_
      rw [Gm.popd, upd_ne _ _ e]; exact hd

def AllShut (m : Gm) : Prop := ∀ i, i < m.n → (m.inp i).closed = true

theorem AllShut.miss {m : Gm} (h : AllShut m) : m.anyMiss = false := List.any_eq_false.2 fun i hi => by
  have := h i (List.mem_range.1 hi)
  simp [Inp.miss, this]

theorem AllShut.runs {J : Job} {m m' : Gm} {o : List OV} (h : AllShut m) (r : Runs J m m' o) : AllShut m' := fun i hi => by
  rw [runs_closed r i]
  exact h i (by rw [← r.fix.1]; exact hi)

def finJ : Job → Gm → Gm → Prop
  | .whole _, _, m' => m'.under = 0
  | _, m, m' => m.under = 0 → m'.under = 0

theorem runs_fin {J : Job} {m m' : Gm} {o : List OV} (h : Runs J m m' o) : AllShut m → finJ J m m' := by
  induction h with
  | pass | drop => exact fun _ h => h
  | over hk hd hu0 hu r1 r2 h1 h2 => exact fun _ h => absurd h (by omega)
  | same hi0 hk hd hu hu0 r1 h1 => exact fun _ h => absurd h (by omega)
  | @first m m2 i x o hi0 hk hd hu0 r1 h1 =>
    intro hs _
    refine h1 fun j hj => ?_
    have := hs j hj
    by_cases e : j = i
    · subst e; rw [upd_self]; exact this
    · rw [upd_ne _ _ e]; exact this
  | @none m i h0 =>
    intro hs
    rcases h0 with h0 | h0
    · exact h0
    · rw [hs.miss] at h0; cases h0
  | @whole m m2 i o hu hm r1 h1 => exact fun hs => h1 hs rfl
  | @done m h =>
    intro hs hu
    obtain ⟨al, an, au, ad⟩ := m.drainTo_al (m.list m.n)
    exact au.trans hu
  | @again m m3 m5 j x rest o2 o3 hj hnx hq hk r1 r2 h1 h2 =>
    intro hs hu
    obtain ⟨al, an, au, ad⟩ := m.drainTo_al (m.list m.n)
    have s1 : AllShut ((m.drainTo (m.list m.n)).popd j rest) := fun i hi => by
      have hi' : i < m.n := by rw [← an]; exact hi
      have hd : ((m.drainTo (m.list m.n)).inp i).closed = (m.inp i).closed := by rw [drain_inp]; split <;> rfl
      by_cases e : i = j
      · subst e; rw [Gm.popd, upd_self]; exact hd.trans (hs i hi')
      · rw [Gm.popd, upd_ne _ _ e]; exact hd.trans (hs i hi')
    have u3 : m3.under = 0 := h1 s1 (au.trans hu)
    have s3 := s1.runs r1
    refine h2 (fun i hi => ?_) u3
    by_cases e : i = j
    · subst e; rw [Gm.freed, upd_self]; exact s3 i hi
    · rw [Gm.freed, upd_ne _ _ e]; exact s3 i hi
end Go.Proofs.Ytdnkfgnjeibjeaa.W

namespace Go.Proofs.Ytdnkfgnjeibjeaa.W
open Go.RowKit Go.Shelf

def psO (i : Nat) (O : List (Nat × Elem)) : List Elem := (notedAt O i).filter plainE
def bnO (O : List (Nat × Elem)) : List Int := (O.filter fun p => p.2.k == 3).map fun p => p.2.n

theorem pst_out (i : Nat) (o : List OV) : pst i o = psO i (outE' o) := by
  unfold pst psO
  have : outE o = (outE' o).map fun p => ((p.1 : Int), p.2) := by
    unfold outE outE'
    rw [List.map_map]; rfl
  rw [this, listOf_noted]
  rfl

theorem bns_out (o : List OV) : bns o = bnO (outE' o) := by
  unfold bns bnO outE'
  rw [List.filter_map, List.map_map]
  rfl

theorem psO_app (i : Nat) (a b : List (Nat × Elem)) : psO i (a ++ b) = psO i a ++ psO i b := by
  unfold psO notedAt
  simp only [List.filter_append, List.map_append]

theorem bnO_app (a b : List (Nat × Elem)) : bnO (a ++ b) = bnO a ++ bnO b := by unfold bnO; rw [List.filter_append, List.map_append]

theorem outE'_app (a b : List OV) : outE' (a ++ b) = outE' a ++ outE' b := List.map_append

/-- The law between two acts. -/
structure QI (m : Gm) (N : List Note) (ins : Nat → List Elem) (O : List (Nat × Elem)) (c : Nat) : Prop where
  under : 0 ≤ m.under
  done : 0 ≤ m.done
  dlt : 0 < m.under → m.done < m.under
  alg : m.al = true → (∀ i, i < m.n → (m.inp i).holds = false) ∧ Quiet m
  fre : m.al = false → KOk m N ∧ ∀ i, i < m.n → (m.inp i).queue = []
  rng : ∀ p ∈ O, p.1 < m.n
  cons : ∀ i, i < m.n → (ins i).filter plainE = psO i O ++ qp m i
  inc : (bnO O).Pairwise (· < ·)
  bar : ∀ b ∈ bnO O, b ≤ max m.done m.under ∧ (m.al = true → b ≤ m.done)
  fin : AllShut m → m.under = 0
  cnt : O.length + 2 * qsum m m.n ≤ 2 * c
  ns : nSum N ≤ c
  nk : N.Pairwise fun x y => x.1 ≠ y.1

theorem QI.bnd {m : Gm} {N : List Note} {ins : Nat → List Elem} {O : List (Nat × Elem)} {c : Nat} (h : QI m N ins O c) (hc : c ≤ 900) : Bnd m N :=
  ⟨h.under, h.done, by have := h.cnt; omega, fun e => (h.fre e).1, by have := h.ns; omega⟩

theorem QI.more {m : Gm} {N : List Note} {ins : Nat → List Elem} {O : List (Nat × Elem)} {c : Nat} (h : QI m N ins O c) : QI m N ins O (c + 1) :=
  ⟨h.under, h.done, h.dlt, h.alg, h.fre, h.rng, h.cons, h.inc, h.bar, h.fin, by have := h.cnt; omega, by have := h.ns; omega, h.nk⟩

theorem psO_one {i j : Nat} (x : Elem) : psO j [(i, x)] = if i = j then [x].filter plainE else [] := by
  unfold psO notedAt
  by_cases e : i = j
  · subst e; simp
  · have : (i == j) = false := by simpa using e
    simp [this, e]

/-- The gate's runs, seen from the law. -/
theorem QI.runs {m m1 m' : Gm} {N : List Note} {ins ins' : Nat → List Elem} {O : List (Nat × Elem)} {c d : Nat} {J : Job} {o : List OV} (h : QI m N ins O c) (hal : m.al = true) (r : Runs J m1 m' o) (hn : m1.n = m.n) (hal1 : m1.al = true)
    (hu : 0 ≤ m1.under) (hd : 0 ≤ m1.done) (hl : 0 < m1.under → m1.done < m1.under) (hdd : m.done ≤ m1.done) (hh : ∀ i, i < m.n → (m1.inp i).holds = false) (hq : Quiet m')
    (hr : ∀ p ∈ o, p.1 < m.n) (hc : ∀ i, i < m.n → (ins' i).filter plainE = psO i O ++ (pst i o ++ qp m' i)) (hf : AllShut m' → m'.under = 0) (hqs : qsum m1 m.n = qsum m m.n) (hex : J.extra ≤ 2 * d) : QI m' N ins' (O ++ outE' o) (c + d) := by
  have b := runs_bars r hu hd hl
  have hp := r.pos hu hd
  have hf' := r.fix
  have hn' : m'.n = m.n := hf'.1.trans hn
  have hbd := r.bound
  have hcn := h.cnt
  rw [hn'] at hbd
  rw [hn, hqs] at hbd
  have hold : ∀ b ∈ bnO O, b ≤ m.done := fun b hb => (h.bar b hb).2 hal
  refine ⟨hp.1, hp.2, b.dlt, fun _ => ⟨fun i hi => ?_, hq⟩, fun e => ?_, fun p hp => ?_, fun i hi => ?_, ?_, fun b' hb => ?_, hf, ?_, ?_, h.nk⟩
  · rw [r.holds i]; exact hh i (by rw [← hn']; exact hi)
  · rw [hf'.2, hal1] at e; cases e
  · rw [hn']
    rcases List.mem_append.1 hp with hp | hp
    · exact h.rng p hp
    · obtain ⟨q, hq, rfl⟩ := List.mem_map.1 hp
      exact hr q hq
  · rw [psO_app, ← pst_out, List.append_assoc]
    exact hc i (by rw [← hn']; exact hi)
  · rw [bnO_app, ← bns_out]
    refine List.pairwise_append.2 ⟨h.inc, b.inc, fun x hx y hy => ?_⟩
    have := hold x hx
    have := (b.mem y hy).1
    omega
  · rw [bnO_app, ← bns_out] at hb
    have hup := b.up
    have : b' ≤ m'.done := by
      rcases List.mem_append.1 hb with hb | hb
      · have := hold b' hb; omega
      · exact (b.mem b' hb).2
    exact ⟨by omega, fun _ => this⟩
  · rw [List.length_append, hn']
    have : (outE' o).length = o.length := by simp [outE']
    omega
  · have := h.ns; omega

theorem ends_shut {m : Gm} (h : AllShut m.ends) : AllShut m := h

theorem plainL_eq (l : List Elem) : plainL l = l.filter plainE := rfl

theorem fWhole_keep (m : Gm) (N : List Note) : (fWhole m N).1.n = m.n ∧ (fWhole m N).1.al = m.al ∧ (∀ j, ((fWhole m N).1.inp j).queue = (m.inp j).queue ∧ ((fWhole m N).1.inp j).closed = (m.inp j).closed) := by
  unfold fWhole
  split
  · exact ⟨rfl, rfl, fun _ => ⟨rfl, rfl⟩⟩
  · exact ⟨rfl, rfl, fun _ => ⟨rfl, rfl⟩⟩

theorem fWhole_under {m : Gm} (N : List Note) (hs : AllShut m) : (fWhole m N).1.under = 0 := by
  unfold fWhole
  split
  · rename_i hc
    rcases hc with hc | hc
    · exact hc
    · rw [hs.miss] at hc; cases hc
  · rfl

theorem fWhole_done (m : Gm) (N : List Note) : max (fWhole m N).1.done (fWhole m N).1.under = max m.done m.under ∨ (0 ≤ m.done ∧ max (fWhole m N).1.done (fWhole m N).1.under = max (max m.done m.under) 0) ∨ m.done < 0 := by
  unfold fWhole
  split
  · exact .inl rfl
  · by_cases h : 0 ≤ m.done
    · exact .inr (.inl ⟨h, rfl⟩)
    · exact .inr (.inr (by omega))

theorem fWhole_pos {m : Gm} {N : List Note} (hu : 0 ≤ m.under) (hd : 0 ≤ m.done) (hl : 0 < m.under → m.done < m.under) :
    0 ≤ (fWhole m N).1.under ∧ 0 ≤ (fWhole m N).1.done ∧ (0 < (fWhole m N).1.under → (fWhole m N).1.done < (fWhole m N).1.under) ∧ max (fWhole m N).1.done (fWhole m N).1.under = max m.done m.under := by
  unfold fWhole
  split
  · exact ⟨hu, hd, hl, rfl⟩
  · refine ⟨Int.le_refl _, by show 0 ≤ max m.done m.under; omega, fun h => absurd h (by show ¬ (0 : Int) < 0; omega), ?_⟩
    show max (max m.done m.under) 0 = max m.done m.under
    omega

theorem KOk.whole {m : Gm} {N : List Note} (h : KOk m N) : KOk (fWhole m N).1 (fWhole m N).2 := by
  unfold fWhole
  split
  · exact h
  · have hp := h.pos
    have hd := h.dpos
    refine ⟨Int.le_refl _, fun hh => absurd hh (by show ¬ (0 : Int) < 0; omega), fun y hy => ?_, by show 0 ≤ max m.done m.under; omega⟩
    obtain ⟨z, hz, rfl⟩ := List.mem_map.1 hy
    obtain ⟨hz, he⟩ := List.mem_filter.1 hz
    have he' : z.1 = m.under := by simpa using he
    refine .inl ?_
    show z.1 ≤ max m.done m.under
    omega

theorem nk_filter {N : List Note} (h : N.Pairwise fun x y => x.1 ≠ y.1) (p : Note → Bool) : (N.filter p).Pairwise fun x y => x.1 ≠ y.1 := h.sublist List.filter_sublist

theorem nk_whole {m : Gm} {N : List Note} (h : N.Pairwise fun x y => x.1 ≠ y.1) : (fWhole m N).2.Pairwise fun x y => x.1 ≠ y.1 := by
  unfold fWhole
  split
  · exact h
  · show ((N.filter (fun y => y.1 == m.under)).map fun y => (y.1, y.2.1, true)).Pairwise _
    rw [List.pairwise_map]
    exact nk_filter h _

theorem nk_add {N : List Note} (h : N.Pairwise fun x y => x.1 ≠ y.1) (k : Int) (o : Nat × Elem) : (noteAdd N k o).Pairwise fun x y => x.1 ≠ y.1 := by
  unfold noteAdd
  rw [List.pairwise_map]
  refine h.imp fun {x y} hxy => ?_
  split <;> split <;> exact hxy

/-- 'looked' of the free kind, seen from the law. -/
theorem fLook_law {m : Gm} {N : List Note} {i : Nat} {x : Elem} (hk : KOk m N) (hl : 0 < m.under → m.done < m.under) (hnk : N.Pairwise fun x y => x.1 ≠ y.1) :
    (fLook m N i x).1.n = m.n ∧ (fLook m N i x).1.al = m.al ∧ (∀ j, ((fLook m N i x).1.inp j).queue = (m.inp j).queue ∧ ((fLook m N i x).1.inp j).closed = (m.inp j).closed) ∧ KOk (fLook m N i x).1 (fLook m N i x).2.1 ∧
    (0 < (fLook m N i x).1.under → (fLook m N i x).1.done < (fLook m N i x).1.under) ∧ (fLook m N i x).2.1.Pairwise (fun x y => x.1 ≠ y.1) ∧ max m.done m.under ≤ max (fLook m N i x).1.done (fLook m N i x).1.under ∧
    (((fLook m N i x).2.2 = [] ∧ plainE x = false) ∨ ((fLook m N i x).2.2 = [(i, x)] ∧ plainE x = true) ∨ ((fLook m N i x).2.2 = [(i, barE x.n)] ∧ plainE x = false ∧ max m.done m.under < x.n ∧ x.n ≤ max (fLook m N i x).1.done (fLook m N i x).1.under)) := by
  have hp := hk.pos
  have hd := hk.dpos
  have hsend : ∀ (m2 : Gm) (j : Nat), ((m2.upd i (m2.inp i).send).inp j).queue = (m2.inp j).queue ∧ ((m2.upd i (m2.inp i).send).inp j).closed = (m2.inp j).closed := fun m2 j => by
    by_cases e : j = i
    · subst e; rw [upd_self]; exact ⟨rfl, rfl⟩
    · rw [upd_ne _ _ e]; exact ⟨rfl, rfl⟩
  have hbeg : ∀ (m2 : Gm) (N2 : List Note), KOk m2 N2 → m2.under = 0 → m2.done < x.n → N2.Pairwise (fun x y => x.1 ≠ y.1) →
      (fBegin m2 N2 i x.n).1.n = m2.n ∧ (fBegin m2 N2 i x.n).1.al = m2.al ∧ (∀ j, ((fBegin m2 N2 i x.n).1.inp j).queue = (m2.inp j).queue ∧ ((fBegin m2 N2 i x.n).1.inp j).closed = (m2.inp j).closed) ∧ KOk (fBegin m2 N2 i x.n).1 (fBegin m2 N2 i x.n).2 ∧
      (0 < (fBegin m2 N2 i x.n).1.under → (fBegin m2 N2 i x.n).1.done < (fBegin m2 N2 i x.n).1.under) ∧ (fBegin m2 N2 i x.n).2.Pairwise (fun x y => x.1 ≠ y.1) ∧ max (fBegin m2 N2 i x.n).1.done (fBegin m2 N2 i x.n).1.under = x.n := fun m2 N2 k2 u2 d2 p2 => by
    have hd2 := k2.dpos
    have kb := k2.begin u2 d2 i (m2.inp i).send
    obtain ⟨f1, f2, f3⟩ := fWhole_keep (Gm.upd { m2 with under := x.n } i (m2.inp i).send) (N2 ++ [(x.n, [], false)])
    obtain ⟨g1, g2, g3, g4⟩ := fWhole_pos (m := Gm.upd { m2 with under := x.n } i (m2.inp i).send) (N := N2 ++ [(x.n, [], false)]) kb.pos kb.dpos (fun _ => d2)
    refine ⟨f1, f2, fun j => ⟨(f3 j).1.trans ?_, (f3 j).2.trans ?_⟩, kb.whole, g3, nk_whole (List.pairwise_append.2 ⟨p2, List.pairwise_singleton _ _, fun y hy z hz => ?_⟩), g4.trans ?_⟩
    · exact (hsend { m2 with under := x.n } j).1
    · exact (hsend { m2 with under := x.n } j).2
    · rw [List.mem_singleton] at hz; subst hz
      have := k2.le y hy
      show y.1 ≠ x.n
      omega
    · show max m2.done x.n = x.n
      omega
  cases hx : (x.k == 3) with
  | false =>
    have hpl : plainE x = true := by simp [plainE, hx]
    have e : fLook m N i x = (m, if noting m i then noteAdd N m.under (i, x) else N, [(i, x)]) := by
      unfold fLook; rw [hx]; rfl
    rw [e]
    refine ⟨rfl, rfl, fun _ => ⟨rfl, rfl⟩, ?_, hl, ?_, Int.le_refl _, .inr (.inl ⟨rfl, hpl⟩)⟩
    · show KOk m (if noting m i then noteAdd N m.under (i, x) else N)
      split
      · refine ⟨hk.pos, fun hu => ?_, fun y hy => ?_, hk.dpos⟩
        · obtain ⟨z, hz, hzk⟩ := hk.has hu
          refine ⟨_, List.mem_map.2 ⟨z, hz, rfl⟩, ?_⟩
          split <;> exact hzk
        · obtain ⟨z, hz, rfl⟩ := List.mem_map.1 hy
          split <;> exact hk.le z hz
      · exact hk
    · show (if noting m i then noteAdd N m.under (i, x) else N).Pairwise _
      split
      · exact nk_add hnk _ _
      · exact hnk
  | true =>
    have hpl : plainE x = false := by simp [plainE, hx]
    unfold fLook
    rw [hx]
    simp only [if_true]
    by_cases c1 : x.n ≤ m.done ∨ (0 < m.under ∧ x.n < m.under)
    · rw [if_pos c1]
      exact ⟨rfl, rfl, fun _ => ⟨rfl, rfl⟩, hk, hl, hnk, Int.le_refl _, .inl ⟨rfl, hpl⟩⟩
    · rw [if_neg c1]
      by_cases c2 : 0 < m.under ∧ m.under < x.n
      · rw [if_pos c2]
        obtain ⟨a1, a2, a3, a4, a5, a6, a7⟩ := hbeg m.ends (N.filter (fun y => y.1 != m.under)) hk.gone rfl (by show max m.done m.under < x.n; omega) (nk_filter hnk _)
        have hlt : max m.done m.under < x.n := by omega
        exact ⟨a1, a2, a3, a4, a5, a6, by rw [a7]; omega, .inr (.inr ⟨rfl, hpl, hlt, by rw [a7]; exact Int.le_refl _⟩)⟩
      · rw [if_neg c2]
        by_cases c3 : m.under = 0
        · rw [if_pos c3]
          obtain ⟨a1, a2, a3, a4, a5, a6, a7⟩ := hbeg m N hk c3 (by omega) hnk
          have hlt : max m.done m.under < x.n := by omega
          exact ⟨a1, a2, a3, a4, a5, a6, by rw [a7]; omega, .inr (.inr ⟨rfl, hpl, hlt, by rw [a7]; exact Int.le_refl _⟩)⟩
        · rw [if_neg c3]
          obtain ⟨f1, f2, f3⟩ := fWhole_keep (m.upd i (m.inp i).send) N
          obtain ⟨g1, g2, g3, g4⟩ := fWhole_pos (m := m.upd i (m.inp i).send) (N := N) hk.pos hk.dpos hl
          refine ⟨f1, f2, fun j => ⟨(f3 j).1.trans (hsend m j).1, (f3 j).2.trans (hsend m j).2⟩, (hk.send i _).whole, g3, nk_whole hnk, ?_, .inl ⟨rfl, hpl⟩⟩
          show max m.done m.under ≤ max (fWhole (m.upd i (m.inp i).send) N).1.done (fWhole (m.upd i (m.inp i).send) N).1.under
          rw [g4]
          exact Int.le_refl _
end Go.Proofs.Ytdnkfgnjeibjeaa.W

namespace Go.Proofs.Ytdnkfgnjeibjeaa.W
open Go.RowKit Go.Shelf

theorem shut_inp (m : Gm) (i j : Nat) : ((m.upd i (m.inp i).shut).inp j).queue = (m.inp j).queue ∧ ((m.upd i (m.inp i).shut).inp j).holds = (m.inp j).holds ∧ ((m.upd i (m.inp i).shut).inp j).sent = (m.inp j).sent := by
  by_cases e : j = i
  · subst e; rw [upd_self]; exact ⟨rfl, rfl, rfl⟩
  · rw [upd_ne _ _ e]; exact ⟨rfl, rfl, rfl⟩

theorem quiet_congr {m m' : Gm} (hn : m'.n = m.n) (ha : m'.al = m.al) (hu : m'.under = m.under) (h : ∀ j, j < m.n → ((m'.inp j).queue = [] ↔ (m.inp j).queue = []) ∧ (m'.inp j).holds = (m.inp j).holds ∧ (m'.inp j).sent = (m.inp j).sent) (hq : Quiet m) : Quiet m' := fun j hj => by
  have hj' : j < m.n := by rw [← hn]; exact hj
  obtain ⟨h1, h2, h3⟩ := h j hj'
  have := hq j hj'
  unfold Gm.waits Gm.blocked at *
  rw [h2, ha, hu, h3]
  have e : decide (0 < (m'.inp j).queue.length) = decide (0 < (m.inp j).queue.length) := by
    cases h4 : (m.inp j).queue with
    | nil => rw [h1.2 h4]
    | cons a l =>
      cases h5 : (m'.inp j).queue with
      | nil => rw [h1.1 h5] at h4; cases h4
      | cons b l' => rfl
  rw [e]; exact this

theorem nSum_noteAdd {N : List Note} (hp : N.Pairwise fun x y => x.1 ≠ y.1) (m : Gm) (i : Nat) (x : Elem) : nSum (fLook m N i x).2.1 ≤ nSum N + 1 := nSum_look hp m i x

theorem qsum_zero {m : Gm} (h : ∀ i, i < m.n → (m.inp i).queue = []) : ∀ k, k ≤ m.n → qsum m k = 0
  | 0, _ => rfl
  | k + 1, hk => by
    have := qsum_zero h k (by omega)
    simp [qsum, this, h k (by omega)]

theorem qp_zero {m : Gm} {i : Nat} (h : (m.inp i).queue = []) : qp m i = [] := by unfold qp; rw [h]; rfl

/-- An element arrives. -/
theorem QI.arr {m m' : Gm} {N N' : List Note} {ins : Nat → List Elem} {O O' : List (Nat × Elem)} {c : Nat} (h : QI m N ins O c) {i : Nat} (hi : i < m.n) {x : Elem} (hcl : (m.inp i).closed = false) (hlt : x.k = 3 → (m.inp i).last < x.n) (r : ArrR m N i x m' N' O') :
    QI m' N' (pushL ins i x) (O ++ O') (c + 1) ∧ m'.n = m.n ∧ m'.al = m.al := by
  have hpf : ∀ j, (pushL ins i x j).filter plainE = (ins j).filter plainE ++ if j = i then [x].filter plainE else [] := fun j => by
    by_cases e : j = i
    · subst e; rw [pushL_same, List.filter_append, if_pos rfl]
    · rw [pushL_ne _ _ e, if_neg e, List.append_nil]
  cases r with
  | wait rv hal hb =>
    obtain ⟨a1, a2⟩ := h.alg hal
    have hb' := hb
    unfold Gm.blocked at hb'
    have x1 : ({ m.inp i with last := if x.k == 3 then x.n else (m.inp i).last, queue := (m.inp i).queue ++ [(x, rv)] } : Inp).queue = (m.inp i).queue ++ [(x, rv)] := rfl
    have x2 : ({ m.inp i with last := if x.k == 3 then x.n else (m.inp i).last, queue := (m.inp i).queue ++ [(x, rv)] } : Inp).holds = (m.inp i).holds := rfl
    have x3 : ({ m.inp i with last := if x.k == 3 then x.n else (m.inp i).last, queue := (m.inp i).queue ++ [(x, rv)] } : Inp).sent = (m.inp i).sent := rfl
    have x4 : ({ m.inp i with last := if x.k == 3 then x.n else (m.inp i).last, queue := (m.inp i).queue ++ [(x, rv)] } : Inp).closed = (m.inp i).closed := rfl
    generalize ({ m.inp i with last := if x.k == 3 then x.n else (m.inp i).last, queue := (m.inp i).queue ++ [(x, rv)] } : Inp) = X at x1 x2 x3 x4 ⊢
    have hfld : ∀ j, ((m.upd i X).inp j).holds = (m.inp j).holds ∧ ((m.upd i X).inp j).sent = (m.inp j).sent ∧ ((m.upd i X).inp j).closed = (m.inp j).closed := fun j => by
      by_cases e : j = i
      · subst e; rw [upd_self]; exact ⟨x2, x3, x4⟩
      · rw [upd_ne _ _ e]; exact ⟨rfl, rfl, rfl⟩
    refine ⟨⟨h.under, h.done, h.dlt, fun _ => ⟨fun j hj => (hfld j).1.trans (a1 j hj), fun j hj => ?_⟩, fun e => absurd (hal.symm.trans e) (by decide), fun p hp => ?_, fun j hj => ?_, ?_, fun b hbm => ?_, fun hs => ?_, ?_, Nat.le_succ_of_le h.ns, h.nk⟩, rfl, rfl⟩
    · by_cases e : j = i
      · subst e
        have : (m.upd j X).blocked j = true := by
          unfold Gm.blocked
          rw [upd_self, x3]
          exact hb'
        unfold Gm.waits
        rw [this]
        simp
      · have := a2 j hj
        unfold Gm.waits Gm.blocked at *
        rw [upd_ne _ _ e]
        exact this
    · rw [List.append_nil] at hp; exact h.rng p hp
    · rw [List.append_nil, hpf, h.cons j hj, List.append_assoc]
      congr 1
      unfold qp
      by_cases e : j = i
      · subst e
        rw [upd_self, if_pos rfl, x1, eL_app, plainL_app]
        rfl
      · rw [upd_ne _ _ e, if_neg e, List.append_nil]
    · rw [List.append_nil]; exact h.inc
    · rw [List.append_nil] at hbm; exact h.bar b hbm
    · have := hs i hi
      rw [(hfld i).2.2, hcl] at this; cases this
    · rw [List.append_nil]
      have hq := qsum_upd m i X m.n hi
      have := h.cnt
      rw [x1, List.length_append] at hq
      show O.length + 2 * qsum (m.upd i X) m.n ≤ _
      simp only [List.length_cons, List.length_nil] at hq
      omega
  | @look rv _ o hal hb r =>
    obtain ⟨a1, a2⟩ := h.alg hal
    have hqi : (m.inp i).queue = [] := by
      have h1 := a2 i hi
      unfold Gm.waits at h1
      rw [a1 i hi, hb] at h1
      simpa using h1
    have hfld : ∀ j, ((m.upd i { m.inp i with last := if x.k == 3 then x.n else (m.inp i).last }).inp j).holds = (m.inp j).holds ∧ ((m.upd i { m.inp i with last := if x.k == 3 then x.n else (m.inp i).last }).inp j).sent = (m.inp j).sent ∧ ((m.upd i { m.inp i with last := if x.k == 3 then x.n else (m.inp i).last }).inp j).closed = (m.inp j).closed ∧ ((m.upd i { m.inp i with last := if x.k == 3 then x.n else (m.inp i).last }).inp j).queue = (m.inp j).queue := fun j => by
      by_cases e : j = i
      · subst e; rw [upd_self]; exact ⟨rfl, rfl, rfl, rfl⟩
      · rw [upd_ne _ _ e]; exact ⟨rfl, rfl, rfl, rfl⟩
    have hq1 : Quiet (m.upd i { m.inp i with last := if x.k == 3 then x.n else (m.inp i).last }) := quiet_congr (m := m) rfl rfl rfl (fun j _ => ⟨by rw [(hfld j).2.2.2], (hfld j).1, (hfld j).2.1⟩) a2
    have hf' := r.fix
    have hrg := runs_rng r hi
    refine ⟨h.runs hal r rfl hal h.under h.done h.dlt (Int.le_refl _) (fun j hj => (hfld j).1.trans (a1 j hj)) (r.quiet hq1) hrg (fun j hj => ?_) (fun hs => ?_) (qsum_same (m := m) (i := i) (x := { m.inp i with last := if x.k == 3 then x.n else (m.inp i).last }) rfl m.n) (by show 2 ≤ 2 * 1; omega), hf'.1, hf'.2⟩
    · have hc := runs_cons r j hj
      have e4 : qp (m.upd i { m.inp i with last := if x.k == 3 then x.n else (m.inp i).last }) j = qp m j := qp_upd (m := m) (i := i) (x := { m.inp i with last := if x.k == 3 then x.n else (m.inp i).last }) rfl j
      rw [hpf, h.cons j hj, hc, e4, List.append_assoc]
      congr 1
      by_cases e : j = i
      · subst e
        rw [qp_zero hqi]
        simp [plainL_eq]
      · rw [if_neg e, if_neg e]; simp
    · have := hs i (by rw [hf'.1]; exact hi)
      rw [runs_closed r i, (hfld i).2.2.1, hcl] at this; cases this
  | free hal =>
    obtain ⟨k, hqz⟩ := h.fre hal
    have hfld : ∀ j, ((m.upd i { m.inp i with last := if x.k == 3 then x.n else (m.inp i).last }).inp j).closed = (m.inp j).closed ∧ ((m.upd i { m.inp i with last := if x.k == 3 then x.n else (m.inp i).last }).inp j).queue = (m.inp j).queue := fun j => by
      by_cases e : j = i
      · subst e; rw [upd_self]; exact ⟨rfl, rfl⟩
      · rw [upd_ne _ _ e]; exact ⟨rfl, rfl⟩
    obtain ⟨l1, l2, l3, l4, l5, l6, l7, l8⟩ := fLook_law (m := m.upd i { m.inp i with last := if x.k == 3 then x.n else (m.inp i).last }) (N := N) (i := i) (x := x) (k.send i _) h.dlt h.nk
    have hns := nSum_look h.nk (m.upd i { m.inp i with last := if x.k == 3 then x.n else (m.inp i).last }) i x
    have hnn := h.ns
    generalize fLook (m.upd i { m.inp i with last := if x.k == 3 then x.n else (m.inp i).last }) N i x = R at l1 l2 l3 l4 l5 l6 l7 l8 hns ⊢
    have l1' : R.1.n = m.n := l1
    have l2' : R.1.al = m.al := l2
    have hq : ∀ j, j < R.1.n → (R.1.inp j).queue = [] := fun j hj => by
      rw [(l3 j).1, (hfld j).2]
      exact hqz j (by rw [← l1']; exact hj)
    have l7' : max m.done m.under ≤ max R.1.done R.1.under := l7
    have hps : ∀ j, psO j R.2.2 = if j = i then [x].filter plainE else [] := fun j => by
      rcases l8 with ⟨e, hp⟩ | ⟨e, hp⟩ | ⟨e, hp, _⟩
      · rw [e]
        have : [x].filter plainE = [] := by simp [hp]
        rw [this]
        split <;> rfl
      · rw [e, psO_one]
        by_cases e2 : i = j
        · rw [if_pos e2, if_pos e2.symm]
        · rw [if_neg e2, if_neg (fun h => e2 h.symm)]
      · rw [e, psO_one]
        have h1 : [barE x.n].filter plainE = [] := rfl
        have h2 : [x].filter plainE = [] := by simp [hp]
        rw [h1, h2]
        split <;> split <;> rfl
    refine ⟨⟨l4.pos, l4.dpos, l5, fun e => absurd (e.symm.trans (l2'.trans hal)) (by decide), fun _ => ⟨l4, hq⟩, fun p hp => ?_, fun j hj => ?_, ?_, fun b hb => ?_, fun hs => ?_, ?_, by show nSum R.2.1 ≤ _; omega, l6⟩, l1', l2'⟩
    · rw [l1']
      rcases List.mem_append.1 hp with hp | hp
      · exact h.rng p hp
      · rcases l8 with ⟨e, _⟩ | ⟨e, _⟩ | ⟨e, _⟩
        · rw [e] at hp; cases hp
        · rw [e, List.mem_singleton] at hp; subst hp; exact hi
        · rw [e, List.mem_singleton] at hp; subst hp; exact hi
    · have hj' : j < m.n := by rw [← l1']; exact hj
      rw [hpf, h.cons j hj', psO_app, hps j, qp_zero (hqz j hj'), qp_zero (hq j hj), List.append_nil, List.append_nil]
    · rw [bnO_app]
      rcases l8 with ⟨e, _⟩ | ⟨e, hp⟩ | ⟨e, _, e2, e3⟩
      · rw [e]; simpa [bnO] using h.inc
      · rw [e]
        have : bnO [(i, x)] = [] := by
          unfold plainE at hp
          simp only [Bool.not_eq_true'] at hp
          simp [bnO, hp]
        rw [this, List.append_nil]; exact h.inc
      · rw [e]
        refine List.pairwise_append.2 ⟨h.inc, List.pairwise_singleton _ _, fun a ha b hb => ?_⟩
        have hb' : b = x.n := by simpa [bnO, barE] using hb
        have := (h.bar a ha).1
        have e2' : max m.done m.under < x.n := e2
        omega
    · refine ⟨?_, fun e => absurd (e.symm.trans (l2'.trans hal)) (by decide)⟩
      rw [bnO_app] at hb
      rcases List.mem_append.1 hb with hb | hb
      · have := (h.bar b hb).1; omega
      · rcases l8 with ⟨e, _⟩ | ⟨e, hp⟩ | ⟨e, _, e2, e3⟩
        · rw [e] at hb; cases hb
        · rw [e] at hb
          unfold plainE at hp
          simp only [Bool.not_eq_true'] at hp
          simp [bnO, hp] at hb
        · rw [e] at hb
          have hb' : b = x.n := by simpa [bnO, barE] using hb
          omega
    · have := hs i (by rw [l1']; exact hi)
      rw [(l3 i).2, (hfld i).1, hcl] at this; cases this
    · rw [qsum_zero hq _ (Nat.le_refl _), List.length_append]
      have hl : R.2.2.length ≤ 1 := by
        rcases l8 with ⟨e, _⟩ | ⟨e, _⟩ | ⟨e, _⟩ <;> rw [e] <;> simp
      have := h.cnt
      omega

/-- An input is closed. -/
theorem QI.close {m m' : Gm} {N N' : List Note} {ins : Nat → List Elem} {O O' : List (Nat × Elem)} {c : Nat} (h : QI m N ins O c) {i : Nat} (hi : i < m.n) (r : CloseR m N i m' N' O') : QI m' N' ins (O ++ O') (c + 1) ∧ m'.n = m.n ∧ m'.al = m.al ∧ (m'.inp i).closed = true ∧ ∀ j, (m.inp j).closed = true → (m'.inp j).closed = true := by
  have hshut : ∀ j, ((m.upd i (m.inp i).shut).inp j).closed = true ↔ (j = i ∨ (m.inp j).closed = true) := fun j => by
    by_cases e : j = i
    · subst e; rw [upd_self]; simp [Inp.shut]
    · rw [upd_ne _ _ e]; simp [e]
  cases r with
  | @al _ o hal r =>
    obtain ⟨a1, a2⟩ := h.alg hal
    have hf' := r.fix
    have hq1 : Quiet (m.upd i (m.inp i).shut) := quiet_congr (m := m) rfl rfl rfl (fun j _ => ⟨by rw [(shut_inp m i j).1], (shut_inp m i j).2.1, (shut_inp m i j).2.2⟩) a2
    have hrg := runs_rng r hi
    refine ⟨h.runs hal r rfl hal h.under h.done h.dlt (Int.le_refl _) (fun j hj => (shut_inp m i j).2.1.trans (a1 j hj)) (r.quiet hq1) hrg (fun j hj => ?_) (fun hs => ?_) (qsum_same (m := m) (i := i) (x := (m.inp i).shut) rfl m.n) (by show 1 ≤ 2 * 1; omega), hf'.1, hf'.2, by rw [runs_closed r i]; exact (hshut i).2 (.inl rfl), fun j hj => by rw [runs_closed r j]; exact (hshut j).2 (.inr hj)⟩
    · have hc := runs_cons r j hj
      rw [h.cons j hj, hc, qp_upd (m := m) (i := i) (x := (m.inp i).shut) rfl j]
    · have hs1 : AllShut (m.upd i (m.inp i).shut) := fun j hj => by
        rw [← runs_closed r j]
        exact hs j (by rw [hf'.1]; exact hj)
      exact runs_fin r hs1
  | free hal =>
    obtain ⟨k, hqz⟩ := h.fre hal
    obtain ⟨f1, f2, f3⟩ := fWhole_keep (m.upd i (m.inp i).shut) N
    obtain ⟨g1, g2, g3, g4⟩ := fWhole_pos (m := m.upd i (m.inp i).shut) (N := N) k.pos k.dpos h.dlt
    have hns := nSum_whole (m.upd i (m.inp i).shut) N
    have hkw := (k.send i (m.inp i).shut).whole
    have hnk := nk_whole (m := m.upd i (m.inp i).shut) h.nk
    have hun := fWhole_under (m := m.upd i (m.inp i).shut) N
    have hnn := h.ns
    generalize fWhole (m.upd i (m.inp i).shut) N = R at f1 f2 f3 g1 g2 g3 g4 hns hkw hnk hun ⊢
    have f1' : R.1.n = m.n := f1
    have f2' : R.1.al = m.al := f2
    have g4' : max R.1.done R.1.under = max m.done m.under := g4
    have hq : ∀ j, j < R.1.n → (R.1.inp j).queue = [] := fun j hj => by
      rw [(f3 j).1, (shut_inp m i j).1]
      exact hqz j (by rw [← f1']; exact hj)
    refine ⟨⟨g1, g2, g3, fun e => absurd (e.symm.trans (f2'.trans hal)) (by decide), fun _ => ⟨hkw, hq⟩, fun p hp => ?_, fun j hj => ?_, ?_, fun b hb => ?_, fun hs => hun fun j hj => ?_, ?_, by show nSum R.2 ≤ _; omega, hnk⟩, f1', f2', by rw [(f3 i).2]; exact (hshut i).2 (.inl rfl), fun j hj => by rw [(f3 j).2]; exact (hshut j).2 (.inr hj)⟩
    · rw [List.append_nil] at hp; rw [f1']; exact h.rng p hp
    · have hj' : j < m.n := by rw [← f1']; exact hj
      rw [List.append_nil, h.cons j hj', qp_zero (hqz j hj'), qp_zero (hq j hj)]
    · rw [List.append_nil]; exact h.inc
    · rw [List.append_nil] at hb
      refine ⟨by rw [g4']; exact (h.bar b hb).1, fun e => absurd (e.symm.trans (f2'.trans hal)) (by decide)⟩
    · rw [← (f3 j).2]
      exact hs j (by rw [f1']; exact hj)
    · rw [List.append_nil, qsum_zero hq _ (Nat.le_refl _)]
      have := h.cnt
      omega

/-- The barrier under way is given up. -/
theorem QI.cancel {m m' : Gm} {N N' : List Note} {ins : Nat → List Elem} {O O' : List (Nat × Elem)} {c : Nat} (h : QI m N ins O c) (hu : m.under ≠ 0) (r : CancelR m N m' N' O') : QI m' N' ins (O ++ O') (c + 1) ∧ m'.n = m.n ∧ m'.al = m.al ∧ ∀ j, (m'.inp j).closed = (m.inp j).closed := by
  have hd := h.done
  cases r with
  | @al _ o hal r =>
    obtain ⟨a1, a2⟩ := h.alg hal
    have hf' := r.fix
    have hrg := runs_rng r trivial
    refine ⟨h.runs hal r rfl hal (Int.le_refl _) (by show 0 ≤ max m.done m.under; omega) (fun hh => absurd hh (by show ¬ (0 : Int) < 0; omega)) (by show m.done ≤ max m.done m.under; omega) (fun j hj => a1 j hj) r.quiet hrg (fun j hj => ?_) (fun hs => ?_) (ends_qsum m m.n) (by show 0 ≤ 2 * 1; omega), hf'.1, hf'.2, fun j => runs_closed r j⟩
    · have hc := runs_cons r j hj
      rw [h.cons j hj, hc]
      rfl
    · have hs1 : AllShut m := fun j hj => by
        have := hs j (by rw [hf'.1]; exact hj)
        rw [runs_closed r j] at this
        exact this
      exact absurd (h.fin hs1) hu
  | free hal =>
    obtain ⟨k, hqz⟩ := h.fre hal
    have hns := nSum_filter N (fun y => y.1 != m.under)
    have hnn := h.ns
    refine ⟨⟨Int.le_refl _, by show 0 ≤ max m.done m.under; omega, fun hh => absurd hh (by show ¬ (0 : Int) < 0; omega), fun e => absurd (e.symm.trans hal) (by decide), fun _ => ⟨k.gone, hqz⟩, fun p hp => ?_, fun j hj => ?_, ?_, fun b hb => ?_, fun _ => rfl, ?_, by omega, nk_filter h.nk _⟩, rfl, rfl, fun _ => rfl⟩
    · rw [List.append_nil] at hp; exact h.rng p hp
    · rw [List.append_nil]; exact h.cons j hj
    · rw [List.append_nil]; exact h.inc
    · rw [List.append_nil] at hb
      refine ⟨?_, fun e => absurd (e.symm.trans hal) (by decide)⟩
      have := (h.bar b hb).1
      show b ≤ max (max m.done m.under) 0
      omega
    · rw [List.append_nil]
      have := h.cnt
      show O.length + 2 * qsum m.ends m.n ≤ _
      rw [ends_qsum]
      omega

theorem QI.new (n : Nat) (al : Bool) : QI (Gm.new n al) [] (fun _ => []) [] 0 := by
  have hq : ∀ i, i < (Gm.new n al).n → ((Gm.new n al).inp i).queue = [] := fun i _ => rfl
  refine ⟨Int.le_refl _, Int.le_refl _, fun h => absurd h (by show ¬ (0 : Int) < 0; omega), fun _ => ⟨fun i _ => rfl, fun i _ => by simp [Gm.waits, Gm.new, Inp.zero]⟩, fun _ => ⟨⟨Int.le_refl _, fun h => absurd h (by show ¬ (0 : Int) < 0; omega), fun y hy => (by cases hy), Int.le_refl _⟩, hq⟩, fun p hp => (by cases hp), fun i _ => rfl, List.Pairwise.nil, fun b hb => (by cases hb), fun _ => rfl, ?_, Nat.le_refl _, List.Pairwise.nil⟩
  rw [qsum_zero hq _ (Nat.le_refl _)]
  exact Nat.le_refl _

/-- Once all inputs are closed nothing waits. -/
theorem QI.last {m : Gm} {N : List Note} {ins : Nat → List Elem} {O : List (Nat × Elem)} {c : Nat} (h : QI m N ins O c) (hs : AllShut m) : m.under = 0 ∧ (∀ i, i < m.n → m.blocked i = false) ∧ ∀ i, i < m.n → (ins i).filter plainE = psO i O := by
  have hu := h.fin hs
  have hb : ∀ i, i < m.n → m.blocked i = false := fun i _ => by simp [Gm.blocked, hu]
  refine ⟨hu, hb, fun i hi => ?_⟩
  rw [h.cons i hi]
  have hq : (m.inp i).queue = [] := by
    cases hal : m.al with
    | true =>
      obtain ⟨a1, a2⟩ := h.alg hal
      have h1 := a2 i hi
      unfold Gm.waits at h1
      rw [a1 i hi, hb i hi] at h1
      simpa using h1
    | false => exact (h.fre hal).2 i hi
  rw [qp_zero hq, List.append_nil]
end Go.Proofs.Ytdnkfgnjeibjeaa.W

namespace Go.Proofs.Ytdnkfgnjeibjeaa.W
open Go.RowKit Go.Shelf

/-- What is read of a gate. -/
structure GR (w : World) (G : Nat) (m : Gm) (arr cap : Nat) (ib : Nat → Nat) : Prop where
  g0 : w.cell? ⟨G, 0, none⟩ = some (.slice (some ⟨arr, 0, none⟩) m.n cap)
  g2 : w.cell? ⟨G, 2, none⟩ = some (.int .i64 m.under)
  a : ∀ i, i < m.n → w.cell? ⟨arr, i, none⟩ = some (.pointer (some ⟨ib i, 0, none⟩))
  i1 : ∀ i, i < m.n → w.cell? ⟨ib i, 1, none⟩ = some (.bool (m.inp i).closed)
  i2 : ∀ i, i < m.n → ∃ a c, w.cell? ⟨ib i, 2, none⟩ = some (.slice a (m.inp i).queue.length c)
  i3 : ∀ i, i < m.n → w.cell? ⟨ib i, 3, none⟩ = some (.bool (m.inp i).sent)
  ms : ∀ i, i < m.n → Calls Try.prog 56 #[.pointer (some ⟨ib i, 0, none⟩)] w fun e w' => e = .returned (.bool (m.inp i).miss) ∧ w' = w

theorem GW.read {w : World} {D F : Nat → Prop} {G : Nat} {m : Gm} {N : List Note} (h : GW w D F G m N) : ∃ arr cap ib, ∀ W, Below w.heap.size w W → GR W G m arr cap ib := by
  rcases h with ⟨_, _, gs, hg, rfl, _⟩ | ⟨_, gs, ns, hg, _, rfl, _⟩
  · refine ⟨gs.arr, gs.cap, gs.ib, fun W hb => ?_⟩
    have h1 := Go.Proofs.Ytdnkfgnjeibjeaa.GateAt.below hg hb
    obtain ⟨g0, g1, g2, g3, g4, gf⟩ := h1.cells
    have hc := fun i (hi : i < m.n) => h1.icells hi
    exact ⟨g0, g2, fun i hi => (hc i hi).a, fun i hi => (hc i hi).i1, fun i hi => by
      obtain ⟨a, c, hq⟩ := (h1.hq i hi).form
      exact ⟨a, c, by rw [(hc i hi).i2, hq]⟩, fun i hi => (hc i hi).i3, fun i hi => Go.Proofs.Ytdnkfgnjeibjeaa.f56_any W gs m i h1 hi⟩
  · refine ⟨gs.arr, gs.cap, gs.ib, fun W hb => ?_⟩
    have h1 := hg.gate.below hb
    obtain ⟨g0, g1, g2, g3, g4, gf⟩ := h1.cells
    have hc := fun i (hi : i < m.n) => h1.icells hi
    exact ⟨g0, g2, fun i hi => (hc i hi).a, fun i hi => (hc i hi).i1, fun i hi => by
      obtain ⟨a, c, hq⟩ := (h1.hq i hi).form
      exact ⟨a, c, by rw [(hc i hi).i2, hq]⟩, fun i hi => (hc i hi).i3, fun i hi => f56_any W gs m i h1 hi⟩

theorem GW.blocked {w : World} {D F : Nat → Prop} {G : Nat} {m : Gm} {N : List Note} (h : GW w D F G m N) (i : Nat) (hi : i < m.n) :
    Calls Try.prog 41 #[.pointer (some ⟨G, 0, none⟩), .int .i64 i] w fun e w' => e = .returned (.bool (m.blocked i)) ∧ Below w.heap.size w w' := by
  rcases h with ⟨_, _, gs, hg, rfl, _⟩ | ⟨_, gs, ns, hg, _, rfl, _⟩
  · exact Go.Proofs.Ytdnkfgnjeibjeaa.f41_any w gs m i hg hi
  · exact f41_any w gs m i hg.gate hi

/-- A list of numbers of its own. -/
structure Ints (w w' : World) (v : Value) (l : List Int) (blk : Option Nat) : Prop where
  own : SlOwn w' 3 1 v l.length (l.map (Value.int .i64)) blk
  new : ∀ g, blk = some g → w.heap.size ≤ g
  below : Below w.heap.size w w'

theorem Ints.next {w w' w2 : World} {v : Value} {l : List Int} {blk : Option Nat} (h : Ints w w' v l blk) (hb : Below w'.heap.size w' w2) : Ints w w2 v l blk :=
  ⟨h.own.keep fun g hg => hb.block g (h.own.lt_of hg), h.new, h.below.trans (hb.mono h.below.size)⟩

theorem Ints.start (w : World) : Ints w w (.slice none 0 0) [] none := ⟨SlOwn.nil _ _ _, (fun g hg => by cases hg), Below.refl _ _⟩

theorem Ints.add {w wr w' : World} {v v' : Value} {l : List Int} {k : Int} {blk blk' : Option Nat} {o : Obj} (h : Ints w wr v l blk) (hs : SlOwn w' 3 1 v' (l.length + 1) (l.map (Value.int .i64) ++ [.int .i64 k]) blk') (hg : (wr.alloc o).grownBy w' blk) (hat : blk' = blk ∨ blk' = some (wr.alloc o).heap.size) : Ints w w' v' (l ++ [k]) blk' := by
  have hsz := h.below.size
  refine ⟨by simpa using hs, fun g hgg => ?_, (h.below.alloc hsz o).grown hg (by simp; omega) (fun q hq => h.new q hq)⟩
  rcases hat with e | e
  · exact h.new g (e ▸ hgg)
  · rw [hgg] at e; injection e with e; rw [e]; simp; omega

theorem info3 : (Try.prog.info? 3).map (fun i => (i.zero, i.size, i.bytes)) = some (some (.int .i64 0), 1, 8) := by kernel_rfl

def idx (n : Nat) (p : Nat → Bool) : List Int := ((List.range n).filter p).map fun (i : Nat) => (i : Int)

theorem idx_succ (n : Nat) (p : Nat → Bool) : idx (n + 1) p = idx n p ++ if p n then [(n : Int)] else [] := by
  unfold idx
  rw [List.range_succ, List.filter_append, List.map_append]
  congr 1
  cases h : p n <;> simp [h]

theorem idx_len (n : Nat) (p : Nat → Bool) : (idx n p).length ≤ n := by
  unfold idx
  rw [List.length_map]
  exact Nat.le_trans (List.length_filter_le _ _) (by simp)

theorem int_src (w : World) (k : Int) : Src (w.alloc (.cells #[.int .i64 k] 3)) 1 (.slice (some ⟨w.heap.size, 0, none⟩) 1 1) 1 [.int .i64 k] :=
  SlOwn.src (e := 3) (blk := some w.heap.size) ⟨rfl, .inr ⟨_, 0, 1, _, rfl, rfl, World.alloc_heap_new w _, Nat.le_refl _, by simp [maxLen], by simp, rfl⟩⟩

section walks
set_option maxHeartbeats 1000000
set_option maxRecDepth 100000

theorem f23_g (w : World) {D F : Nat → Prop} {G : Nat} {m : Gm} {N : List Note} (h : GW w D F G m N) :
    Calls Try.prog 23 #[.pointer (some ⟨G, 0, none⟩)] w fun e w' => e = .returned (.int .i64 m.under) ∧ w' = w := by
  obtain ⟨arr, cap, ib, hr⟩ := h.read
  obtain ⟨g0, g2, ha, h1, h2, h3, hms⟩ := hr w (Below.refl _ _)
  clear h hr ha h1 h2 h3 hms
  go_enter Try.func23, Try.ntmps23
  go_wp2_with fail
  go_ret
  exact ⟨rfl, rfl⟩

theorem f24_g (w : World) {D F : Nat → Prop} {G : Nat} {m : Gm} {N : List Note} (h : GW w D F G m N) :
    Calls Try.prog 24 #[.pointer (some ⟨G, 0, none⟩)] w fun e w' => ∃ v blk, e = .returned v ∧ Ints w w' v (idx m.n m.blocked) blk := by
  obtain ⟨arr, cap, ib, hr⟩ := h.read
  have hp := h.pos
  have H := Lib.hid h
  have HR := Lib.hid hr
  obtain ⟨g0, g2, ha, h1, h2, h3, hms⟩ := hr w (Below.refl _ _)
  obtain ⟨i0, hi0, hz0, hz1, hz2⟩ := info_parts info3
  clear h hr ha h1 h2 h3 hms
  go_enter Try.func24, Try.ntmps24
  go_wp2_with fail
  go_loopw [3, 12] (fun s i wr => ∃ (k : Nat) (blk : Option Nat), k ≤ m.n ∧ i = .int .i64 k ∧ Ints w wr s (idx k m.blocked) blk) (fun _ i _ => m.n - (intOf i).toNat)
  case atStart => exact ⟨0, none, Nat.zero_le _, rfl, Ints.start w⟩
  case round =>
    obtain ⟨k, blk, hk, rfl, hI⟩ := hrel
    have HI := Lib.hid hI
    obtain ⟨sa, sc, rfl⟩ := hI.own.form
    by_cases hlt : k < m.n
    · have hc := (H.out.below hI.below).blocked k hlt
      have hs := idx_succ k m.blocked
      have hle := idx_len k m.blocked
      have HS := Lib.hid hs
      clear hs hI
      cases hb : m.blocked k <;> rw [hb] at hc HS <;> have HC := Lib.hid hc <;> clear hc hb
      · go_wp2_with (go_at_call 41; refine HC.out.mono ?_; rintro e w1 ⟨rfl, hb1⟩; have HB1 := Lib.hid hb1; clear hb1)
        go_roundw
        case rel => exact ⟨k + 1, _, by omega, by go_num, by rw [HS.out]; simpa using HI.out.next HB1.out⟩
        case measure => simp [intOf]; omega
      · go_wp2_with (first
          | (go_at_call 41; refine HC.out.mono ?_; rintro e w1 ⟨rfl, hb1⟩; have HI1 := Lib.hid (HI.out.next hb1); clear hb1)
          | (at_builtin; refine wpList_append_S rfl (.tmp 18) (.tmp 20) 56 rfl 3 i0 _ 1 8 Try.underlying56 hi0 hz0 hz1 hz2 rfl (by omega) (.slice sa (idx k m.blocked).length sc) (idx k m.blocked).length ((idx k m.blocked).map (Value.int .i64)) blk rfl (HI1.out.own.keep fun g hg => Below.heap_alloc _ _ _ (HI1.out.own.lt_of hg)) (.slice (some ⟨w1.heap.size, 0, none⟩) 1 1) 1 [.int .i64 k] rfl (int_src _ _) (fun u hu => by rw [List.mem_singleton] at hu; subst hu; rfl) (by simp only [maxLen]; omega) (by omega) ?_; intro v2 w2 bk2 hown2 hgrow2 hat2; have HN := Lib.hid (HI1.out.add hown2 hgrow2 hat2); clear hown2 hgrow2 hat2))
        go_roundw
        case rel => exact ⟨k + 1, _, by omega, by go_num, by rw [HS.out]; exact HN.out⟩
        case measure => simp [intOf]; omega
    · have hkn : k = m.n := by omega
      subst hkn
      clear hI
      go_wp2_with fail
      go_ret
      exact ⟨_, _, rfl, HI.out⟩

theorem f31_g (w : World) {D F : Nat → Prop} {G : Nat} {m : Gm} {N : List Note} (h : GW w D F G m N) :
    Calls Try.prog 31 #[.pointer (some ⟨G, 0, none⟩)] w fun e w' => ∃ v blk, e = .returned v ∧ Ints w w' v (if m.under = 0 then [] else idx m.n fun i => (m.inp i).miss) blk := by
  obtain ⟨arr, cap, ib, hr⟩ := h.read
  have hp := h.pos
  have H := Lib.hid h
  have HR := Lib.hid hr
  obtain ⟨g0, g2, ha, h1, h2, h3, hms⟩ := hr w (Below.refl _ _)
  obtain ⟨i0, hi0, hz0, hz1, hz2⟩ := info_parts info3
  clear h hr ha h1 h2 h3 hms
  by_cases hu : m.under = 0
  · rw [if_pos hu]
    rw [hu] at g2
    go_enter Try.func31, Try.ntmps31
    go_wp2_with fail
    go_ret
    exact ⟨_, _, rfl, Ints.start w⟩
  · rw [if_neg hu]
    have hu2 : (m.under == 0) = false := by simpa using hu
    go_enter Try.func31, Try.ntmps31
    go_wp2_with fail
    go_loopw [3, 20] (fun s i wr => ∃ (k : Nat) (blk : Option Nat), k ≤ m.n ∧ i = .int .i64 k ∧ Ints w wr s (idx k fun i => (m.inp i).miss) blk) (fun _ i _ => m.n - (intOf i).toNat)
    case atStart => exact ⟨0, none, Nat.zero_le _, rfl, Ints.start w⟩
    case round =>
      obtain ⟨k, blk, hk, rfl, hI⟩ := hrel
      have HI := Lib.hid hI
      obtain ⟨sa, sc, rfl⟩ := hI.own.form
      by_cases hlt : k < m.n
      · obtain ⟨r0, r2, ra, r1, rq, r3, rm⟩ := HR.out _ hI.below
        have y0 := ra k hlt
        have hc := rm k hlt
        have hs := idx_succ k fun i => (m.inp i).miss
        have hle := idx_len k fun i => (m.inp i).miss
        have HS := Lib.hid hs
        clear hs hI ra r1 rq r3 rm
        cases hb : (m.inp k).miss <;> rw [hb] at hc HS <;> have HC := Lib.hid hc <;> clear hc hb
        · go_wp2_with (go_at_call 56; refine HC.out.mono ?_; rintro e w1 ⟨rfl, rfl⟩)
          go_roundw
          case rel => exact ⟨k + 1, _, by omega, by go_num, by rw [HS.out]; simpa using HI.out⟩
          case measure => simp [intOf]; omega
        · go_wp2_with (first
            | (go_at_call 56; refine HC.out.mono ?_; rintro e w1 ⟨rfl, rfl⟩)
            | (at_builtin; refine wpList_append_S rfl (.tmp 27) (.tmp 29) 56 rfl 3 i0 _ 1 8 Try.underlying56 hi0 hz0 hz1 hz2 rfl (by omega) (.slice sa (idx k fun i => (m.inp i).miss).length sc) (idx k fun i => (m.inp i).miss).length ((idx k fun i => (m.inp i).miss).map (Value.int .i64)) blk rfl (HI.out.own.keep fun g hg => Below.heap_alloc _ _ _ (HI.out.own.lt_of hg)) (.slice (some ⟨w1.heap.size, 0, none⟩) 1 1) 1 [.int .i64 k] rfl (int_src _ _) (fun u hu => by rw [List.mem_singleton] at hu; subst hu; rfl) (by simp only [maxLen]; omega) (by omega) ?_; intro v2 w2 bk2 hown2 hgrow2 hat2; have HN := Lib.hid (HI.out.add hown2 hgrow2 hat2); clear hown2 hgrow2 hat2))
          go_roundw
          case rel => exact ⟨k + 1, _, by omega, by go_num, by rw [HS.out]; exact HN.out⟩
          case measure => simp [intOf]; omega
      · have hkn : k = m.n := by omega
        subst hkn
        clear hI
        go_wp2_with fail
        go_ret
        exact ⟨_, _, rfl, HI.out⟩
end walks
end Go.Proofs.Ytdnkfgnjeibjeaa.W

namespace Go.Proofs.Ytdnkfgnjeibjeaa.W
open Go.RowKit Go.Shelf

section walks
set_option maxHeartbeats 1000000
set_option maxRecDepth 100000

theorem f21_any (w : World) (v : Value) (l : List Int) (blk : Option Nat) (h : SlOwn w 3 1 v l.length (l.map (Value.int .i64)) blk) (hl : l.length ≤ 1000000) (k : Int) :
    Calls Try.prog 21 #[v, .int .i64 k] w fun e w' => e = .returned (.bool (l.any fun x => x == k)) ∧ w' = w := by
  have hc : ∀ j (h' : j < l.length), ∃ g o cap, v = .slice (some ⟨g, o, none⟩) l.length cap ∧ w.cell? ⟨g, o + j, none⟩ = some (.int .i64 l[j]) := fun j hj => by
    rcases h.2 with ⟨_, h0, _⟩ | ⟨g, o, cap, cur, hb, hv, _⟩
    · omega
    · subst hv
      exact ⟨g, o, cap, rfl, h.cell j _ (by simp [hj])⟩
  obtain ⟨va, vc, rfl⟩ := h.form
  have HC := Lib.hid hc
  clear h hc
  go_enter Try.func21, Try.ntmps21
  go_wp2
  go_loopw [5] (fun i wr => ∃ j : Nat, j ≤ l.length ∧ i = .int .i64 j ∧ (∀ q (h : q < l.length), q < j → (l[q] == k) = false) ∧ wr = w) (fun i _ => l.length - (intOf i).toNat)
  case atStart => exact ⟨0, by omega, rfl, by omega, rfl⟩
  case round =>
    obtain ⟨j, hj, rfl, hv, rfl⟩ := hrel
    have HV := Lib.hid hv
    clear hv
    by_cases hlt : j < l.length
    · obtain ⟨g, o, cap, hva, hx⟩ := HC.out j hlt
      injection hva with hva _ hvc
      subst hva hvc
      cases he : l[j] == k
      · go_wp2
        go_roundw
        case rel =>
          refine ⟨j + 1, by omega, by go_num, fun q hq hqj => ?_, by first | trivial | rfl⟩
          by_cases e : q = j
          · subst e; exact he
          · exact HV.out q hq (by omega)
        case measure => simp [intOf]; omega
      · go_wp2
        go_ret
        exact ⟨ret_bool (List.any_eq_true.2 ⟨l[j], List.getElem_mem hlt, he⟩).symm, rfl⟩
    · go_wp2
      go_ret
      refine ⟨ret_bool (Eq.symm ?_), rfl⟩
      rw [List.any_eq_false]
      intro x hx
      obtain ⟨q, hq, rfl⟩ := List.mem_iff_getElem.1 hx
      rw [HV.out q hq (by omega)]
      decide
end walks

/-- The world of 'played': the gate, what arrived, all that passed. -/
structure N5 (w2 wr : World) (n G B1 : Nat) (col : Nat → Nat) (D F : Nat → Prop) (m : Gm) (N : List Note) (us : Nat → Value) (ev : Nat → List EV) (qb : Nat → Option Nat) (ov : Value) (outs : List OV) (oblk : Option Nat) : Prop where
  gate : GW wr D F G m N
  hn : m.n = n
  hD : ∀ b, D b → b < wr.heap.size
  inl : LA wr n B1 0 n us ev qb (fun b => b < w2.heap.size)
  out : SlOwn wr 57 6 ov outs.length (outs.flatMap ocl) oblk
  rows : ∀ o ∈ outs, RowAt wr D o.2.2 o.2.1.row
  c0 : ∀ b, b < w2.heap.size → col b = 0
  cF : ∀ b, F b → col b = 1
  cI : ∀ b, lown n B1 qb b → col b = 2
  cD : ∀ b, D b → col b = 5
  cO : ∀ b, oblk = some b → col b = 6
  bl : Below w2.heap.size w2 wr

/-- What a call has just given. -/
structure Tmp (wr : World) (col : Nat → Nat) (D : Nat → Prop) (v : Value) (xs : List OV) (blk : Option Nat) : Prop where
  own : SlOwn wr 44 6 v xs.length (xs.flatMap ocl) blk
  c : ∀ g, blk = some g → col g ≠ 2
  rows : ∀ o ∈ xs, RowAt wr D o.2.2 o.2.1.row

section
variable {w2 wr w' : World} {n G B1 : Nat} {col : Nat → Nat} {D F : Nat → Prop} {m : Gm} {N : List Note} {us : Nat → Value} {ev : Nat → List EV} {qb : Nat → Option Nat} {ov : Value} {outs : List OV} {oblk : Option Nat}

theorem N5.next (h : N5 w2 wr n G B1 col D F m N us ev qb ov outs oblk) (hb : Below wr.heap.size wr w') : N5 w2 w' n G B1 col D F m N us ev qb ov outs oblk :=
  ⟨h.gate.below hb, h.hn, fun b hb' => Nat.lt_of_lt_of_le (h.hD b hb') hb.size, h.inl.below hb, h.out.keep fun g hg => hb.block g (h.out.lt_of hg), fun o ho => (h.rows o ho).below hb, h.c0, h.cF, h.cI, h.cD, h.cO, h.bl.trans (hb.mono h.bl.size)⟩

theorem Tmp.next {v : Value} {xs : List OV} {blk : Option Nat} (h : Tmp wr col D v xs blk) (hb : Below wr.heap.size wr w') : Tmp w' col D v xs blk :=
  ⟨h.own.keep fun g hg => hb.block g (h.own.lt_of hg), h.c, fun o ho => (h.rows o ho).below hb⟩

theorem N5.res (h : N5 w2 wr n G B1 col D F m N us ev qb ov outs oblk) {m' : Gm} {N' : List Note} {O : List (Nat × Elem)} {v : Value} (hr : GRes wr D F G n m' N' O v w') :
    ∃ col' D' F' xs blk, N5 w2 w' n G B1 col' D' F' m' N' us ev qb ov outs oblk ∧ outE' xs = O ∧ Tmp w' col' D' v xs blk := by
  obtain ⟨D', F', xs, blk, hg, hn, hf, hd1, hd2, hd3, ho, hO, hv, hb, hrow⟩ := hr
  have hk : ∀ b, b < wr.heap.size → col b ≠ 1 → w'.heap[b]? = wr.heap[b]? := fun b hl hc => ho.block b hl fun hh => hc (h.cF b hh)
  have hsz := ho.size
  have hbl := h.bl.size
  classical
  refine ⟨fun b => if b < wr.heap.size then col b else if D' b then 5 else if F' b then 1 else 7, D', F', xs, blk, ⟨hg, hn, hd3, h.inl.keep hsz fun b hb' hl => hk b hl ?_, h.out.keep fun g hg' => hk g (h.out.lt_of hg') (by rw [h.cO g hg']; decide), fun o ho' => ((h.rows o ho').keep fun b hb' hl => hk b hl (by rw [h.cD b hb']; decide)).mono hd1, fun b hb' => ?_, fun b hb' => ?_, fun b hb' => ?_, fun b hb' => ?_, fun b hb' => ?_, h.bl.trans (ho.below hbl fun x hx => ?_)⟩, hO, ⟨hv, fun g hg' => ?_, hrow⟩⟩
  · rcases hb' with hb' | hb'
    · rw [h.cI b hb']; decide
    · rw [h.c0 b hb']; decide
  · rw [if_pos (by omega)]; exact h.c0 b hb'
  · by_cases hl : b < wr.heap.size
    · rw [if_pos hl]
      rcases hf b hb' with hb' | hb'
      · exact h.cF b hb'
      · omega
    · rw [if_neg hl, if_neg (fun hd => hg.hD hd hb'), if_pos hb']
  · rw [if_pos (h.inl.lt hb')]; exact h.cI b hb'
  · by_cases hl : b < wr.heap.size
    · rw [if_pos hl]
      rcases hd2 b hb' with hb' | hb'
      · exact h.cD b hb'
      · omega
    · rw [if_neg hl, if_pos hb']
  · rw [if_pos (h.out.lt_of hb')]; exact h.cO b hb'
  · refine Nat.le_of_not_lt fun hlt => ?_
    have := h.c0 x hlt
    rw [h.cF x hx] at this; cases this
  · obtain ⟨h1, h2⟩ := hb g hg'
    show (if g < wr.heap.size then col g else if D' g then 5 else if F' g then 1 else 7) ≠ 2
    rw [if_neg (by omega)]
    split
    · decide
    · first | decide | (rw [if_neg h2]; decide)

theorem N5.push {w1 w3 : World} {i : Nat} {p : EV} {v' v : Value} {blk' : Option Nat} {xs : List OV} {xblk : Option Nat} (h : N5 w2 wr n G B1 col D F m N us ev qb ov outs oblk) (ht : Tmp wr col D v xs xblk) (hi : i < n) (hp : RowAt wr (fun b => b < w2.heap.size) p.2 p.1.row)
    (hb1 : Below wr.heap.size wr w1) (hs : SlOwn w3 34 5 v' ((ev i).length + 1) ((ev i).flatMap ecl ++ ecl p) blk') (hg : w1.grownBy w3 (qb i)) (hat : blk' = qb i ∨ blk' = some w1.heap.size) :
    ∃ col', N5 w2 (w3.setCell ⟨B1, 0 + i, none⟩ v') n G B1 col' D F m N (fun j => if j = i then v' else us j) (fun j => if j = i then ev i ++ [p] else ev j) (fun j => if j = i then blk' else qb j) ov outs oblk ∧ Tmp (w3.setCell ⟨B1, 0 + i, none⟩ v') col' D v xs xblk := by
  have ho : Only (lown n B1 qb) wr (w3.setCell ⟨B1, 0 + i, none⟩ v') := LA.add_only hb1 hg hi
  have hk : ∀ b, b < wr.heap.size → col b ≠ 2 → (w3.setCell ⟨B1, 0 + i, none⟩ v').heap[b]? = wr.heap[b]? := fun b hl hc => ho.block b hl fun hh => hc (h.cI b hh)
  have hsz := ho.size
  have hbl := h.bl.size
  refine ⟨fun b => if b < wr.heap.size then col b else 2, ⟨h.gate.hold fun b hl hb => hk b hl ?_, h.hn, fun b hb => Nat.lt_of_lt_of_le (h.hD b hb) hsz, h.inl.add hi hp hb1 hs hg hat, h.out.keep fun g hg' => hk g (h.out.lt_of hg') (by rw [h.cO g hg']; decide), fun o ho' => (h.rows o ho').keep fun b hb' hl => hk b hl (by rw [h.cD b hb']; decide), fun b hb' => ?_, fun b hb' => ?_, fun b hb' => ?_, fun b hb' => ?_, fun b hb' => ?_, h.bl.trans (ho.below hbl fun x hx => ?_)⟩, ⟨ht.own.keep fun g hg' => hk g (ht.own.lt_of hg') (ht.c g hg'), fun g hg' => ?_, fun o ho' => (ht.rows o ho').keep fun b hb' hl => hk b hl (by rw [h.cD b hb']; decide)⟩⟩
  · rcases hb with hb | hb
    · rw [h.cF b hb]; decide
    · rw [h.cD b hb]; decide
  · rw [if_pos (by omega)]; exact h.c0 b hb'
  · rw [if_pos (h.gate.lt hb')]; exact h.cF b hb'
  · rcases LA.add_own hat hi hb' with hb' | hb'
    · rw [if_pos (h.inl.lt hb')]; exact h.cI b hb'
    · have := hb1.size
      rw [if_neg (by omega)]
  · rw [if_pos (h.hD b hb')]; exact h.cD b hb'
  · rw [if_pos (h.out.lt_of hb')]; exact h.cO b hb'
  · refine Nat.le_of_not_lt fun hlt => ?_
    have := h.c0 x hlt
    rw [h.cI x hx] at this; cases this
  · show (if g < wr.heap.size then col g else 2) ≠ 2
    rw [if_pos (ht.own.lt_of hg')]
    exact ht.c g hg'

/-- What passed is laid behind what passed before. -/
theorem N5.app {w1 w3 : World} {xs : List OV} {v' : Value} {blk' : Option Nat} (h : N5 w2 wr n G B1 col D F m N us ev qb ov outs oblk) (hb1 : Below wr.heap.size wr w1) (hr : ∀ o ∈ xs, RowAt wr D o.2.2 o.2.1.row)
    (hs : SlOwn w3 57 6 v' (outs.length + xs.length) (outs.flatMap ocl ++ xs.flatMap ocl) blk') (hg : w1.grownBy w3 oblk) (hat : blk' = oblk ∨ blk' = some w1.heap.size) :
    ∃ col', N5 w2 w3 n G B1 col' D F m N us ev qb v' (outs ++ xs) blk' := by
  have s1 := hb1.size
  have hsz := hg.size
  have hbl := h.bl.size
  have hk : ∀ b, b < wr.heap.size → col b ≠ 6 → w3.heap[b]? = wr.heap[b]? := fun b hl hc => (hg.block b (by omega) (fun e => hc (h.cO b e.symm))).trans (hb1.block b hl)
  refine ⟨fun b => if b < wr.heap.size then col b else 6, ⟨h.gate.hold fun b hl hb => hk b hl ?_, h.hn, fun b hb => by have := h.hD b hb; omega, h.inl.keep (by omega) fun b hb hl => hk b hl ?_, by simpa using hs, fun o ho => ?_, fun b hb' => ?_, fun b hb' => ?_, fun b hb' => ?_, fun b hb' => ?_, fun b hb' => ?_, ?_⟩⟩
  · rcases hb with hb | hb
    · rw [h.cF b hb]; decide
    · rw [h.cD b hb]; decide
  · rcases hb with hb | hb
    · rw [h.cI b hb]; decide
    · rw [h.c0 b hb]; decide
  · have hkk : ∀ {r row}, RowAt wr D r row → RowAt w3 D r row := fun hx => hx.keep fun b hb hl => hk b hl (by rw [h.cD b hb]; decide)
    rcases List.mem_append.1 ho with ho | ho
    · exact hkk (h.rows o ho)
    · exact hkk (hr o ho)
  · rw [if_pos (by omega)]; exact h.c0 b hb'
  · rw [if_pos (h.gate.lt hb')]; exact h.cF b hb'
  · rw [if_pos (h.inl.lt hb')]; exact h.cI b hb'
  · rw [if_pos (h.hD b hb')]; exact h.cD b hb'
  · rcases hat with e | e
    · rw [e] at hb'
      rw [if_pos (h.out.lt_of hb')]; exact h.cO b hb'
    · rw [hb'] at e; injection e with e
      rw [if_neg (by omega)]
  · refine (h.bl.trans (hb1.mono hbl)).grown hg (by omega) fun q hq => ?_
    refine Nat.le_of_not_lt fun hlt => ?_
    have := h.c0 q hlt
    rw [h.cO q hq] at this; cases this
end
end Go.Proofs.Ytdnkfgnjeibjeaa.W

namespace Go.Proofs.Ytdnkfgnjeibjeaa.W
open Go.RowKit Go.Shelf

/-- The state of 'played' between two acts. -/
structure S5 (w2 wr : World) (n G B1 c : Nat) (col : Nat → Nat) (D F : Nat → Prop) (m : Gm) (N : List Note) (us : Nat → Value) (ev : Nat → List EV) (qb : Nat → Option Nat) (ov : Value) (outs : List OV) (oblk : Option Nat) (ins : Nat → List Elem) : Prop where
  n5 : N5 w2 wr n G B1 col D F m N us ev qb ov outs oblk
  qi : QI m N ins (outE' outs) c
  e1 : ∀ i, i < n → eL (ev i) = ins i
  sz : ∀ i, i < n → (ins i).length ≤ c ∧ ∀ x ∈ ins i, x.row.length ≤ 20

/-- After a call. -/
def R5 (w2 w' : World) (n G B1 c : Nat) (us : Nat → Value) (ev : Nat → List EV) (qb : Nat → Option Nat) (ov : Value) (outs : List OV) (oblk : Option Nat) (ins : Nat → List Elem) (v : Value) (xs : List OV) (ex : Gm → Prop) : Prop :=
  ∃ col D F m N xblk, N5 w2 w' n G B1 col D F m N us ev qb ov outs oblk ∧ Tmp w' col D v xs xblk ∧ QI m N ins (outE' (outs ++ xs)) (c + 1) ∧ ex m

section
variable {w2 wr w' : World} {n G B1 c : Nat} {col : Nat → Nat} {D F : Nat → Prop} {m : Gm} {N : List Note} {us : Nat → Value} {ev : Nat → List EV} {qb : Nat → Option Nat} {ov : Value} {outs : List OV} {oblk : Option Nat} {ins : Nat → List Elem}

theorem S5.next (h : S5 w2 wr n G B1 c col D F m N us ev qb ov outs oblk ins) (hb : Below wr.heap.size wr w') : S5 w2 w' n G B1 c col D F m N us ev qb ov outs oblk ins := ⟨h.n5.next hb, h.qi, h.e1, h.sz⟩

theorem S5.len (h : S5 w2 wr n G B1 c col D F m N us ev qb ov outs oblk ins) : outs.length ≤ 2 * c := by
  have := h.qi.cnt
  have h2 : (outE' outs).length = outs.length := by simp [outE']
  omega

theorem S5.err (h : S5 w2 wr n G B1 c col D F m N us ev qb ov outs oblk ins) (hb : Below wr.heap.size wr w') {ex : Gm → Prop} (hx : ex m) : R5 w2 w' n G B1 c us ev qb ov outs oblk ins (.slice none 0 0) [] ex :=
  ⟨col, D, F, m, N, none, h.n5.next hb, ⟨SlOwn.nil _ _ _, fun g hg => (by cases hg), fun o ho => (by cases ho)⟩, by rw [List.append_nil]; exact h.qi.more, hx⟩

theorem R5.next {v : Value} {xs : List OV} {ex : Gm → Prop} (h : R5 w2 wr n G B1 c us ev qb ov outs oblk ins v xs ex) (hb : Below wr.heap.size wr w') : R5 w2 w' n G B1 c us ev qb ov outs oblk ins v xs ex := by
  obtain ⟨col, D, F, m, N, xblk, h1, h2, h3, h4⟩ := h
  exact ⟨col, D, F, m, N, xblk, h1.next hb, h2.next hb, h3, h4⟩

theorem R5.len {v : Value} {xs : List OV} {ex : Gm → Prop} (h : R5 w2 wr n G B1 c us ev qb ov outs oblk ins v xs ex) : outs.length + xs.length ≤ 2 * (c + 1) := by
  obtain ⟨col, D, F, m, N, xblk, h1, h2, h3, h4⟩ := h
  have := h3.cnt
  have h5 : (outE' (outs ++ xs)).length = outs.length + xs.length := by simp [outE']
  omega

theorem R5.own {v : Value} {xs : List OV} {ex : Gm → Prop} (h : R5 w2 wr n G B1 c us ev qb ov outs oblk ins v xs ex) : SlOwn wr 57 6 ov outs.length (outs.flatMap ocl) oblk := by
  obtain ⟨col, D, F, m, N, xblk, h1, h2, h3, h4⟩ := h
  exact h1.out

theorem R5.bl {v : Value} {xs : List OV} {ex : Gm → Prop} (h : R5 w2 wr n G B1 c us ev qb ov outs oblk ins v xs ex) : Below w2.heap.size w2 wr := by
  obtain ⟨col, D, F, m, N, xblk, h1, h2, h3, h4⟩ := h
  exact h1.bl

theorem R5.one {v : Value} {xs : List OV} {ex : Gm → Prop} (h : R5 w2 wr n G B1 c us ev qb ov outs oblk ins v xs ex) : ∀ u ∈ xs.flatMap ocl, u.oneCell' = true := by
  obtain ⟨col, D, F, m, N, xblk, h1, h2, h3, h4⟩ := h
  intro u hu
  obtain ⟨o, ho, hu⟩ := List.mem_flatMap.1 hu
  obtain ⟨a, k, hrow, _⟩ := h2.rows o ho
  simp only [Go.Proofs.Ytdnkfgnjeibjeaa.ocl, ecl, List.mem_cons, List.not_mem_nil, or_false] at hu
  rcases hu with rfl | rfl | rfl | rfl | rfl | rfl
  · rfl
  · rfl
  · rfl
  · rfl
  · rw [hrow]; rfl
  · rfl

/-- What a call gave, read. -/
theorem R5.outs15 {v : Value} {xs : List OV} {ex : Gm → Prop} (h : R5 w2 wr n G B1 c us ev qb ov outs oblk ins v xs ex) (hc : c ≤ 100000) :
    Calls Try.prog 15 #[v] wr fun e w' => ∃ v2 blk, e = .returned v2 ∧ SlOwn w' 57 6 v2 xs.length (xs.flatMap Go.Proofs.Ytdnkfgnjeibjeaa.ocl) blk ∧ R5 w2 w' n G B1 c us ev qb ov outs oblk ins v xs ex := by
  have hl := h.len
  have hh := h
  obtain ⟨col, D, F, m, N, xblk, h1, h2, h3, h4⟩ := h
  refine (f15_any wr v xs h2.own.src (fun o ho => by obtain ⟨a, k, hr, _⟩ := h2.rows o ho; exact ⟨a, _, k, hr⟩) (by omega) h2.own.form).mono ?_
  rintro e w' ⟨v2, blk, he, hs, _, hb⟩
  exact ⟨v2, blk, he, hs, hh.next hb⟩

theorem R5.app {w1 w3 : World} {v v' : Value} {xs : List OV} {blk' : Option Nat} {ex : Gm → Prop} (h : R5 w2 wr n G B1 c us ev qb ov outs oblk ins v xs ex) (he : ∀ i, i < n → eL (ev i) = ins i) (hz : ∀ i, i < n → (ins i).length ≤ c + 1 ∧ ∀ x ∈ ins i, x.row.length ≤ 20) (hb1 : Below wr.heap.size wr w1)
    (hs : SlOwn w3 57 6 v' (outs.length + xs.length) (outs.flatMap Go.Proofs.Ytdnkfgnjeibjeaa.ocl ++ xs.flatMap Go.Proofs.Ytdnkfgnjeibjeaa.ocl) blk') (hg : w1.grownBy w3 oblk) (hat : blk' = oblk ∨ blk' = some w1.heap.size) :
    ∃ col' D F m N, S5 w2 w3 n G B1 (c + 1) col' D F m N us ev qb v' (outs ++ xs) blk' ins ∧ ex m := by
  obtain ⟨col, D, F, m, N, xblk, h1, h2, h3, h4⟩ := h
  obtain ⟨col', h5⟩ := h1.app hb1 h2.rows hs hg hat
  exact ⟨col', D, F, m, N, ⟨h5, h3, he, hz⟩, h4⟩

theorem close5 (h : S5 w2 wr n G B1 c col D F m N us ev qb ov outs oblk ins) (hc : c ≤ 900) (oi : Int) :
    Calls Try.prog 29 #[.pointer (some ⟨G, 0, none⟩), .int .i64 oi] wr fun e w' => ∃ v err xs, e = .returned (.tuple #[v, .int .i64 err]) ∧ R5 w2 w' n G B1 c us ev qb ov outs oblk ins v xs fun m' => (∀ j, (m.inp j).closed = true → (m'.inp j).closed = true) ∧ ∀ i : Nat, oi = i → i < n → (m'.inp i).closed = true := by
  have hn := h.n5.hn
  refine (close_any h.n5.gate h.n5.hD (h.qi.bnd hc) oi).mono ?_
  rintro e w' (⟨hr, he, hb⟩ | ⟨i, rfl, hi, hcl, he, hb⟩ | ⟨i, rfl, hi, hcl, v, m', N', O, he, hC, hR⟩)
  · refine ⟨_, _, _, he, h.err hb ⟨fun j hj => hj, fun i hi hin => ?_⟩⟩
    omega
  · refine ⟨_, _, _, he, h.err hb ⟨fun j hj => hj, fun i' hi' hin => ?_⟩⟩
    have : i' = i := by omega
    subst this
    exact hcl
  · rw [hn] at hR
    obtain ⟨hq, h1, h2, h3, h4⟩ := h.qi.close hi hC
    obtain ⟨col', D', F', xs, blk, h5, h6, h7⟩ := h.n5.res hR
    subst h6
    refine ⟨v, 0, xs, he, col', D', F', m', N', blk, h5, h7, by rw [outE'_app]; exact hq, h4, fun i' hi' hin => ?_⟩
    have : i' = i := by omega
    subst this
    exact h3

theorem cancel5 (h : S5 w2 wr n G B1 c col D F m N us ev qb ov outs oblk ins) (hc : c ≤ 900) :
    Calls Try.prog 30 #[.pointer (some ⟨G, 0, none⟩)] wr fun e w' => ∃ v err xs, e = .returned (.tuple #[v, .int .i64 err]) ∧ R5 w2 w' n G B1 c us ev qb ov outs oblk ins v xs fun _ => True := by
  have hn := h.n5.hn
  refine (cancel_any h.n5.gate h.n5.hD (h.qi.bnd hc)).mono ?_
  rintro e w' (⟨hr, he, hb⟩ | ⟨hu, v, m', N', O, he, hC, hR⟩)
  · exact ⟨_, _, _, he, h.err hb trivial⟩
  · rw [hn] at hR
    obtain ⟨hq, _⟩ := h.qi.cancel hu hC
    obtain ⟨col', D', F', xs, blk, h5, h6, h7⟩ := h.n5.res hR
    subst h6
    exact ⟨v, 0, xs, he, col', D', F', m', N', blk, h5, h7, by rw [outE'_app]; exact hq, trivial⟩

theorem arrive5 (h : S5 w2 wr n G B1 c col D F m N us ev qb ov outs oblk ins) (hc : c ≤ 900) (x : Elem) (r : Value) (hr : RowAt wr (fun b => b < w2.heap.size) r x.row) (hsm : x.row.length ≤ 1000000) (oi : Int) :
    Calls Try.prog 13 #[.pointer (some ⟨G, 0, none⟩), .int .i64 oi, Go.Proofs.Ytdnkfgnjeibjeaa.ev x r] wr fun e w' => ∃ v err xs, e = .returned (.tuple #[v, .int .i64 err]) ∧ ((err ≠ 0 ∧ R5 w2 w' n G B1 c us ev qb ov outs oblk ins v xs fun _ => True) ∨ (err = 0 ∧ ∃ i : Nat, oi = i ∧ i < n ∧ R5 w2 w' n G B1 c us ev qb ov outs oblk (pushL ins i x) v xs fun _ => True)) := by
  have hn := h.n5.hn
  refine (arrive_g h.n5.gate h.n5.hD (h.qi.bnd hc) oi x r _ hr (fun b hb hf => by have h1 := h.n5.c0 b hb; rw [h.n5.cF b hf] at h1; cases h1) hsm).mono ?_
  rintro e w' (⟨h0, he, hb⟩ | ⟨h0, i, rfl, hi, hv, hcl, hlt, v, m', N', O, he, hA, hR⟩)
  · exact ⟨_, _, _, he, .inl ⟨h0, h.err hb trivial⟩⟩
  · rw [hn] at hR
    obtain ⟨hq, _⟩ := h.qi.arr hi hcl hlt hA
    obtain ⟨col', D', F', xs, blk, h5, h6, h7⟩ := h.n5.res hR
    subst h6
    exact ⟨v, 0, xs, he, .inr ⟨rfl, i, rfl, by omega, col', D', F', m', N', blk, h5, h7, by rw [outE'_app]; exact hq, trivial⟩⟩

theorem S5.start {w w2 : World} {n G : Nat} {F : Nat → Prop} {al : Bool} (hn : n ≤ 1000000) (hg : GW w NoB F G (Gm.new n al) []) (hF : ∀ b, F b → w2.heap.size ≤ b) (hb : Below w2.heap.size w2 w) :
    ∃ col, S5 w2 (w.alloc (.cells (madeCells #[.slice none 0 0] n) 49)) n G w.heap.size 0 col NoB F (Gm.new n al) [] (fun _ => .slice none 0 0) (fun _ => []) (fun _ => none) (.slice none 0 0) [] none (fun _ => []) := by
  have hsz := hb.size
  have b1 : Below w.heap.size w (w.alloc (.cells (madeCells #[.slice none 0 0] n) 49)) := (Below.refl _ _).alloc (Nat.le_refl _) _
  have z1 : (w.alloc (.cells (madeCells #[.slice none 0 0] n) 49)).heap.size = w.heap.size + 1 := by simp
  have l1 := LA.make w n hn
  refine ⟨fun b => if b < w2.heap.size then 0 else if b < w.heap.size then 1 else 2, ⟨hg.below b1, rfl, fun b hb => hb.elim, ?_, SlOwn.nil _ _ _, fun o ho => (by cases ho), fun b hb => if_pos hb, fun b hb => ?_, fun b hb => ?_, fun b hb => hb.elim, fun b hb => (by cases hb), hb.trans (b1.mono hsz)⟩, QI.new n al, fun i _ => rfl, fun i _ => ⟨Nat.le_refl _, fun x hx => (by cases hx)⟩⟩
  · exact l1.rowsNil fun b hb => ⟨by omega, fun hl => by
      rcases hl with hl | ⟨i, _, hl⟩
      · omega
      · cases hl⟩
  · have h1 := hF b hb
    have h2 := hg.lt hb
    simp only [if_neg (show ¬ b < w2.heap.size by omega), if_pos h2]
  · rcases hb with hb | ⟨i, _, hb⟩
    · subst hb
      simp only [if_neg (show ¬ w.heap.size < w2.heap.size by omega), if_neg (show ¬ w.heap.size < w.heap.size by omega)]
    · cases hb
end
end Go.Proofs.Ytdnkfgnjeibjeaa.W


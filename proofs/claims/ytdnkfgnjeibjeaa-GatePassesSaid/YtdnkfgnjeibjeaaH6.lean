import Derived.Test.YtdnkfgnjeibjeaaH5
namespace Go.Proofs.Ytdnkfgnjeibjeaa
open Go.RowKit Go.Shelf

theorem setH_same (hand : Nat → List Elem) (i : Nat) (l : List Elem) : setH hand i l i = l := if_pos rfl
theorem setH_ne (hand : Nat → List Elem) {i j : Nat} (l : List Elem) (h : j ≠ i) : setH hand i l j = hand j := if_neg h

theorem Good.ends {m : Gm} {ins hand : Nat → List Elem} {outs : List OV} (h : Good m ins hand outs) : Good m.ends ins hand outs := by
  refine ⟨fun i hi => ?_, fun i hi hh => ?_, h.inc, h.cons, h.opened, h.valid, h.passed⟩
  · obtain ⟨s, h1, h2, _⟩ := h.seen i hi
    exact ⟨s, h1, h2, fun e => by cases e⟩
  · exact ⟨rfl, (h.hand i hi hh).2⟩

/-- A barrier that was looked at is not told. -/
theorem Good.saw {m : Gm} {ins hand : Nat → List Elem} {outs : List OV} (h : Good m ins hand outs) {i : Nat} {x : Elem} (hi : i < m.n) (hh : hand i = [x]) (hk : x.k = 3) : Good m ins (setH hand i []) outs := by
  refine ⟨fun j hj => ?_, fun j hj hne => ?_, h.inc, h.cons, h.opened, h.valid, h.passed⟩
  · obtain ⟨s, h1, h2, h3⟩ := h.seen j hj
    by_cases e : j = i
    · subst e
      rw [setH_same]
      refine ⟨s ++ [x], by rw [h1, hh]; simp, by rw [plainL_app, plainL_bar hk, List.append_nil, h2], fun hs => ?_⟩
      rw [(h.hand j hj (by rw [hh]; simp)).1] at hs
      cases hs
    · rw [setH_ne _ _ e]
      exact ⟨s, h1, h2, h3⟩
  · by_cases e : j = i
    · subst e; exact absurd (setH_same _ _ _) hne
    · rw [setH_ne _ _ e] at hne
      exact h.hand j hj hne

/-- A plain element that was looked at passes. -/
theorem Good.pass {m : Gm} {ins hand : Nat → List Elem} {outs : List OV} (h : Good m ins hand outs) {i : Nat} {x : EV} (hi : i < m.n) (hh : hand i = [x.1]) (hp : x.plain = true) : Good m ins (setH hand i []) (outs ++ [(i, x)]) := by
  have hk : x.1.k ≠ 3 := by simpa [EV.plain] using hp
  refine ⟨fun j hj => ?_, fun j hj hne => ?_, h.inc, cons_plain h.cons (fun o ho => by rw [List.mem_singleton] at ho; subst ho; exact hk), h.opened, h.valid, fun o ho => ?_⟩
  · obtain ⟨s, h1, h2, h3⟩ := h.seen j hj
    rw [pst_app, pst_cons, pst_nil, List.append_nil]
    by_cases e : j = i
    · subst e
      rw [setH_same, if_pos rfl]
      refine ⟨s ++ [x.1], by rw [h1, hh]; simp, by rw [plainL_app, h2], fun hs => ?_⟩
      rw [(h.hand j hj (by rw [hh]; simp)).1] at hs
      cases hs
    · rw [setH_ne _ _ e, if_neg (fun e' => e e'.symm), List.append_nil]
      exact ⟨s, h1, h2, h3⟩
  · by_cases e : j = i
    · subst e; exact absurd (setH_same _ _ _) hne
    · rw [setH_ne _ _ e] at hne
      exact h.hand j hj hne
  · rcases List.mem_append.1 ho with ho | ho
    · exact h.passed o ho
    · rw [List.mem_singleton] at ho
      subst ho
      refine ⟨hi, h.valid i hi _ ?_⟩
      obtain ⟨s, hs, _⟩ := h.seen i hi
      rw [hs, hh]
      simp

/-- An input has sent the barrier under way. -/
theorem Good.sent {m : Gm} {ins hand : Nat → List Elem} {outs : List OV} (h : Good m ins hand outs) {i : Nat} {x : Elem} (hi : i < m.n) (hh : hand i = [x]) (hk : x.k = 3) (u : Int) (hu : 0 < u) (hx : x.n = u) (hm : m.under = u ∨ m.under = 0) :
    Good (Gm.upd { m with under := u } i (m.inp i).send) ins (setH hand i []) outs := by
  refine ⟨fun j hj => ?_, fun j hj hne => ?_, h.inc, h.cons, fun j hj => ?_, h.valid, h.passed⟩
  · obtain ⟨s, h1, h2, h3⟩ := h.seen j hj
    by_cases e : j = i
    · subst e
      rw [setH_same]
      refine ⟨s ++ [x], ?_, by rw [plainL_app, plainL_bar hk, List.append_nil, h2], fun _ => ⟨hu, s, x, rfl, hk, hx⟩⟩
      rw [h1, hh]
      simp [Gm.upd, Inp.send]
    · rw [setH_ne _ _ e]
      refine ⟨s, by rw [h1]; simp [Gm.upd, e], h2, fun hs => ?_⟩
      have hs' : (m.inp j).sent = true := by simpa [Gm.upd, e] using hs
      obtain ⟨h4, p, b, h5, h6, h7⟩ := h3 hs'
      rcases hm with hm | hm
      · exact ⟨hu, p, b, h5, h6, by rw [h7, hm]; rfl⟩
      · omega
  · by_cases e : j = i
    · subst e; exact absurd (setH_same _ _ _) hne
    · rw [setH_ne _ _ e] at hne
      simpa [Gm.upd, e] using h.hand j hj hne
  · have := h.opened j hj
    by_cases e : j = i
    · subst e; simpa [Gm.upd, Inp.send] using this
    · simpa [Gm.upd, e] using this

theorem Good.popd {m : Gm} {ins hand : Nat → List Elem} {outs : List OV} (h : Good m ins hand outs) {j : Nat} {x : EV} {rest : List EV} (_hj : j < m.n) (hh : hand j = []) (hs : (m.inp j).sent = false) (hq : (m.inp j).queue = x :: rest) : Good (m.popd j rest) ins (setH hand j [x.1]) outs := by
  refine ⟨fun i hi => ?_, fun i hi hne => ?_, h.inc, h.cons, fun i hi => ?_, h.valid, h.passed⟩
  · obtain ⟨s, h1, h2, h3⟩ := h.seen i hi
    by_cases e : i = j
    · subst e
      refine ⟨s, ?_, h2, fun e => ?_⟩
      · rw [h1, hh, hq, setH_same]; simp [Gm.popd, Gm.upd, eL]
      · simp [Gm.popd, Gm.upd, hs] at e
    · refine ⟨s, ?_, h2, fun e' => h3 (by simpa [Gm.popd, Gm.upd, e] using e')⟩
      rw [h1, setH_ne _ _ e]; simp [Gm.popd, Gm.upd, e]
  · by_cases e : i = j
    · subst e
      simp [Gm.popd, Gm.upd, hs]
    · rw [setH_ne _ _ e] at hne
      simpa [Gm.popd, Gm.upd, e] using h.hand i hi hne
  · have := h.opened i hi
    by_cases e : i = j
    · subst e; simpa [Gm.popd, Gm.upd] using this
    · simpa [Gm.popd, Gm.upd, e] using this

theorem Good.freed {m : Gm} {ins hand : Nat → List Elem} {outs : List OV} (h : Good m ins hand outs) {j : Nat} (hh : hand j = []) : Good (m.freed j) ins hand outs := by
  have hf : ∀ i, ((m.freed j).inp i).sent = (m.inp i).sent ∧ ((m.freed j).inp i).queue = (m.inp i).queue ∧ ((m.freed j).inp i).closed = (m.inp i).closed := by
    intro i
    by_cases e : i = j
    · subst e; simp [Gm.freed, Gm.upd]
    · simp [Gm.freed, Gm.upd, e]
  refine ⟨fun i hi => ?_, fun i hi hne => ?_, h.inc, h.cons, fun i hi => ?_, h.valid, h.passed⟩
  · rw [(hf i).1, (hf i).2.1]; exact h.seen i hi
  · have e : i ≠ j := fun e => hne (e ▸ hh)
    simpa [Gm.freed, Gm.upd, e] using h.hand i hi hne
  · rw [(hf i).2.2]; exact h.opened i hi

/-- The barrier under way passes: every input has sent it. -/
theorem Good.complete {m : Gm} {ins hand : Nat → List Elem} {outs : List OV} (h : Good m ins hand outs) {i : Nat} (hi : i < m.n) (hm : m.anyMiss = false) : Good m ins hand (outs ++ [(i, bar m.under)]) := by
  have hsent : ∀ j, j < m.n → (m.inp j).sent = true := by
    intro j hj
    have h1 : (m.inp j).miss = false := by
      refine Bool.eq_false_iff.2 fun hh => ?_
      have : m.anyMiss = true := List.any_eq_true.2 ⟨j, List.mem_range.2 hj, hh⟩
      rw [hm] at this; cases this
    have h2 := h.opened j hj
    simpa [Inp.miss, h2] using h1
  have hpst : ∀ j, pst j (outs ++ [(i, bar m.under)]) = pst j outs := by
    intro j
    rw [pst_app, pst_cons, pst_nil, List.append_nil]
    split
    · rw [plainL_bar (by rfl), List.append_nil]
    · rw [List.append_nil]
  refine ⟨fun j hj => ?_, h.hand, h.inc, ?_, h.opened, h.valid, fun o ho => ?_⟩
  · rw [hpst]; exact h.seen j hj
  · intro A j x B e hk l hl
    rcases List.append_eq_append_iff.1 e with ⟨t, h1, h2⟩ | ⟨t, h1, h2⟩
    · obtain ⟨s, h3, h4, h5⟩ := h.seen l hl
      obtain ⟨h6, p, b, rfl, h7, h8⟩ := h5 (hsent l hl)
      cases t with
      | nil =>
        simp only [List.nil_append, List.cons.injEq, Prod.mk.injEq] at h2
        obtain ⟨⟨rfl, rfl⟩, rfl⟩ := h2
        rw [List.append_nil] at h1
        subst h1
        refine ⟨p, b, hand l ++ eL (m.inp l).queue, by rw [h3]; simp, h7, h8, fun y hy hyk => ?_, ?_⟩
        · have hinc := h.inc l hl
          rw [h3] at hinc
          have := (List.pairwise_append.1 (List.pairwise_append.1 hinc).1).2.2 y hy b (by simp) hyk.1 h7
          have hb : (bar m.under).1.n = m.under := rfl
          rw [hb] at hyk
          omega
        · rw [plainL_app, plainL_bar h7, List.append_nil] at h4
          exact h4
      | cons y t =>
        rw [List.cons_append] at h2
        injection h2 with h2 h3
        cases t <;> cases h3
    · cases t with
      | nil =>
        simp only [List.nil_append] at h2
        rw [List.append_nil] at h1
        subst h1
        obtain ⟨s, h3, h4, h5⟩ := h.seen l hl
        obtain ⟨h6, p, b, rfl, h7, h8⟩ := h5 (hsent l hl)
        simp only [List.cons.injEq, Prod.mk.injEq] at h2
        obtain ⟨⟨rfl, rfl⟩, _⟩ := h2
        refine ⟨p, b, hand l ++ eL (m.inp l).queue, by rw [h3]; simp, h7, h8, fun y hy hyk => ?_, ?_⟩
        · have hinc := h.inc l hl
          rw [h3] at hinc
          have := (List.pairwise_append.1 (List.pairwise_append.1 hinc).1).2.2 y hy b (by simp) hyk.1 h7
          have hb : (bar m.under).1.n = m.under := rfl
          rw [hb] at hyk
          omega
        · rw [plainL_app, plainL_bar h7, List.append_nil] at h4
          exact h4
      | cons y t =>
        rw [List.cons_append] at h2
        injection h2 with h2 h3
        subst h2
        exact h.cons A j x t h1 hk l hl
  · rcases List.mem_append.1 ho with ho | ho
    · exact h.passed o ho
    · rw [List.mem_singleton] at ho
      subst ho
      refine ⟨hi, ?_⟩
      obtain ⟨s, h3, _, h5⟩ := h.seen i hi
      obtain ⟨h6, p, b, rfl, h7, h8⟩ := h5 (hsent i hi)
      have hv := h.valid i hi b (by rw [h3]; simp)
      simp only [validElem, h7, h8] at hv
      simp only [validElem, bar]
      simp [bareElem] at hv ⊢
      exact hv.2

/-- What the gate comes to keeps the law. -/
def Job.good : Job → Gm → Gm → List OV → Prop
  | .look i x, m, m', o => ∀ ins hand outs, i < m.n → hand i = [x.1] → Good m ins hand outs → Good m' ins (setH hand i []) (outs ++ o)
  | .whole i, m, m', o => ∀ ins hand outs, i < m.n → Good m ins hand outs → Good m' ins hand (outs ++ o)
  | .go, m, m', o => ∀ ins hand outs, Good m ins hand outs → Good m' ins hand (outs ++ o)

theorem Runs.pos' {J : Job} {m m' : Gm} {o : List OV} (h : Runs J m m' o) : 0 ≤ m.done → 0 ≤ m'.done := by
  induction h with
  | pass | drop | none => exact id
  | over _ _ _ _ _ _ h1 h2 => exact fun b => h2 (h1 (Int.le_trans b (Int.le_max_left _ _)))
  | same _ _ _ _ _ _ h1 => exact h1
  | first _ _ _ _ _ h1 => exact h1
  | whole _ _ _ h1 => exact fun b => h1 (Int.le_trans b (Int.le_max_left _ _))
  | @done m _ => rw [(m.drainTo_al _).2.2.2]; exact id
  | @again m m3 m5 j x rest o2 o3 hj hnx hq hk r1 r2 h1 h2 =>
    exact fun b => h2 (h1 (by rw [show ((m.drainTo (m.list m.n)).popd j rest).done = m.done from (m.drainTo_al _).2.2.2]; exact b))

theorem Runs.good {J : Job} {m m' : Gm} {o : List OV} (h : Runs J m m' o) : m.al = true → 0 ≤ m.done → J.good m m' o := by
  induction h with
  | pass hi hp => exact fun _ _ ins hand outs hi hh hg => hg.pass hi hh hp
  | drop hk hd => intro _ _ ins hand outs hi hh hg; rw [List.append_nil]; exact hg.saw hi hh hk
  | @over m m2 m3 i x o1 o2 hk hd hu0 hu r1 r2 h1 h2 =>
    intro hal hd0 ins hand outs hi hh hg
    have p4 : 0 ≤ m.ends.done := Int.le_trans hd0 (Int.le_max_left _ _)
    have g1 := h1 hal p4 ins hand outs hg.ends
    rw [← List.append_assoc]
    exact h2 (r1.fix.2.trans hal) (r1.pos (Int.le_refl _) p4).2 ins hand _ (by rw [r1.fix.1]; exact hi) hh g1
  | @same m m2 i x o hi0 hk hd hu hu0 r1 h1 =>
    intro hal hd0 ins hand outs hi hh hg
    exact h1 hal hd0 ins _ outs hi (hg.sent hi hh hk m.under hu0 hu (.inl rfl))
  | @first m m2 i x o hi0 hk hd hu0 r1 h1 =>
    intro hal hd0 ins hand outs hi hh hg
    exact h1 hal hd0 ins _ outs hi (hg.sent hi hh hk x.1.n (by omega) rfl (.inr hu0))
  | none h0 => intro _ _ ins hand outs hi hg; rw [List.append_nil]; exact hg
  | @whole m m2 i o hu hm r1 h1 =>
    intro hal hd0 ins hand outs hi hg
    have g1 := h1 hal (Int.le_trans hd0 (Int.le_max_left _ _)) ins hand _ (hg.complete hi hm).ends
    rw [List.append_assoc] at g1
    exact g1
  | done h => exact fun hal _ ins hand outs hg => hg.drain hal
  | @again m m3 m5 j x rest o2 o3 hj hnx hq hk r1 r2 h1 h2 =>
    intro hal hd0 ins hand outs hg
    obtain ⟨al, an, au, ad⟩ := m.drainTo_al (m.list m.n)
    have hjw : m.waits j = true := by
      obtain ⟨j', e1, _, e3, _⟩ := drainNx_mem (m := m) (k := m.n) (by rw [hnx]; omega)
      have : j' = j := by omega
      subst this; exact e3
    have g1 := hg.drain hal
    have hd := drain_inp m m.n j
    rw [if_pos ⟨hj, hjw⟩] at hd
    have hw2 := hjw
    simp only [Gm.waits, Bool.and_eq_true, Bool.not_eq_true', decide_eq_true_eq] at hw2
    obtain ⟨⟨w1, w2⟩, w3⟩ := hw2
    have hs : (m.inp j).sent = false := by
      obtain ⟨s, _, _, h3⟩ := hg.seen j hj
      refine Bool.eq_false_iff.2 fun hs => ?_
      have := (h3 hs).1
      simp [Gm.blocked, hal, this, hs] at w2
    have hh : hand j = [] := by
      by_cases e : hand j = []
      · exact e
      · rcases (hg.hand j hj e).2 with hh | hh
        · rw [w1] at hh; cases hh
        · rw [hh] at w3; simp at w3
    have g2 := g1.popd (j := j) (by rw [an]; exact hj) hh (by rw [hd]; exact hs) hq
    have g3 := h1 (al.trans hal) (by rw [show ((m.drainTo (m.list m.n)).popd j rest).done = m.done from ad]; exact hd0) ins _ _ (by rw [show ((m.drainTo (m.list m.n)).popd j rest).n = m.n from an]; exact hj) (setH_same _ _ _) g2
    have e : setH (setH hand j [x.1]) j [] = hand := by
      funext i
      by_cases e : i = j
      · subst e; rw [setH_same, hh]
      · rw [setH_ne _ _ e, setH_ne _ _ e]
    rw [e] at g3
    have g4 := h2 (r1.fix.2.trans (al.trans hal)) (by exact (r1.pos' (by rw [show ((m.drainTo (m.list m.n)).popd j rest).done = m.done from ad]; exact hd0))) ins hand _ (g3.freed hh)
    rw [List.append_assoc, List.append_assoc] at g4
    exact g4
end Go.Proofs.Ytdnkfgnjeibjeaa

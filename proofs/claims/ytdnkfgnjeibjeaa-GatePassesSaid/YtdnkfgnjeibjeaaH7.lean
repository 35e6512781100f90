import Derived.Test.YtdnkfgnjeibjeaaH6
namespace Go.Proofs.Ytdnkfgnjeibjeaa
open Go.RowKit Go.Shelf

theorem upd_ne (m : Gm) {i j : Nat} (x : Inp) (h : j ≠ i) : (m.upd i x).inp j = m.inp j := if_neg h
theorem upd_self (m : Gm) (i : Nat) (x : Inp) : (m.upd i x).inp i = x := if_pos rfl

theorem Runs.last {J : Job} {m m' : Gm} {o : List OV} (h : Runs J m m' o) : ∀ i, (m'.inp i).last = (m.inp i).last := by
  induction h with
  | pass | drop | none => exact fun _ => rfl
  | over _ _ _ _ _ _ h1 h2 => exact fun i => (h2 i).trans (h1 i)
  | @same m m2 i x o _ _ _ _ _ _ h1 =>
    intro j
    rw [h1 j]
    by_cases e : j = i
    · subst e; rw [upd_self]; rfl
    · rw [upd_ne _ _ e]
  | @first m m2 i x o _ _ _ _ _ h1 =>
    intro j
    rw [h1 j]
    by_cases e : j = i
    · subst e; rw [upd_self]; rfl
    · rw [upd_ne _ _ e]
  | whole _ _ _ h1 => exact h1
  | @done m _ => intro i; rw [drain_inp]; split <;> rfl
  | @again m m3 m5 j x rest o2 o3 hj hnx hq hk r1 r2 h1 h2 =>
    intro i
    have hd : ((m.drainTo (m.list m.n)).inp i).last = (m.inp i).last := by rw [drain_inp]; split <;> rfl
    rw [h2 i]
    by_cases e : i = j
    · subst e
      rw [Gm.freed, upd_self]
      refine (h1 i).trans ?_
      rw [Gm.popd, upd_self]; exact hd
    · rw [Gm.freed, upd_ne _ _ e]
      refine (h1 i).trans ?_
      rw [Gm.popd, upd_ne _ _ e]; exact hd

theorem again_holds {m : Gm} {j : Nat} (hnx : drainNx m (m.list m.n) = j) : (m.inp j).holds = false := by
  obtain ⟨j', e1, _, e3, _⟩ := drainNx_mem (m := m) (k := m.n) (by rw [hnx]; omega)
  have : j' = j := by omega
  subst this
  simp only [Gm.waits, Bool.and_eq_true, Bool.not_eq_true'] at e3
  exact e3.1.1

theorem Runs.holds {J : Job} {m m' : Gm} {o : List OV} (h : Runs J m m' o) : ∀ i, (m'.inp i).holds = (m.inp i).holds := by
  induction h with
  | pass | drop | none => exact fun _ => rfl
  | over _ _ _ _ _ _ h1 h2 => exact fun i => (h2 i).trans (h1 i)
  | @same m m2 i x o _ _ _ _ _ _ h1 =>
    intro j
    rw [h1 j]
    by_cases e : j = i
    · subst e; rw [upd_self]; rfl
    · rw [upd_ne _ _ e]
  | @first m m2 i x o _ _ _ _ _ h1 =>
    intro j
    rw [h1 j]
    by_cases e : j = i
    · subst e; rw [upd_self]; rfl
    · rw [upd_ne _ _ e]
  | whole _ _ _ h1 => exact h1
  | @done m _ => intro i; rw [drain_inp]; split <;> rfl
  | @again m m3 m5 j x rest o2 o3 hj hnx hq hk r1 r2 h1 h2 =>
    intro i
    have hd : ((m.drainTo (m.list m.n)).inp i).holds = (m.inp i).holds := by rw [drain_inp]; split <;> rfl
    rw [h2 i]
    by_cases e : i = j
    · subst e
      rw [Gm.freed, upd_self, again_holds hnx]
    · rw [Gm.freed, upd_ne _ _ e]
      refine (h1 i).trans ?_
      rw [Gm.popd, upd_ne _ _ e]; exact hd

theorem drainNx_keep {m : Gm} {a : List Nat} : ∀ b : List Nat, 0 ≤ drainNx m a → 0 ≤ drainNx m (a ++ b) := by
  intro b
  induction b generalizing a with
  | nil => intro h; rwa [List.append_nil]
  | cons x b ih =>
    intro h
    have : a ++ x :: b = (a ++ [x]) ++ b := by simp
    rw [this]
    refine ih ?_
    rw [drainNx_snoc, if_neg (by omega)]
    exact h

theorem drainNx_has {m : Gm} {l : List Nat} {i : Nat} (hi : i ∈ l) (h : (m.inp i).drained.queue ≠ []) : 0 ≤ drainNx m l := by
  obtain ⟨a, b, rfl⟩ := List.append_of_mem hi
  have : a ++ i :: b = (a ++ [i]) ++ b := by simp
  rw [this]
  refine drainNx_keep b ?_
  rw [drainNx_snoc]
  split
  · omega
  · rename_i hc
    by_cases e : drainNx m a < 0
    · exact absurd ⟨e, h⟩ hc
    · omega

/-- Nothing waits that might go on. -/
def Quiet (m : Gm) : Prop := ∀ i, i < m.n → m.waits i = false

theorem Quiet.send {m : Gm} {u : Int} {i : Nat} (h : Quiet m) (hu : m.under = u ∨ m.under = 0) : Quiet (Gm.upd { m with under := u } i (m.inp i).send) := by
  intro j hj
  have hw := h j hj
  by_cases e : j = i
  · subst e
    simp only [Gm.waits, Gm.blocked, upd_self, Inp.send] at hw ⊢
    simp only [Gm.upd] at hw ⊢
    rcases hu with hu | hu
    · rw [hu] at hw
      cases h1 : (m.inp j).holds <;> cases h2 : m.al <;> cases h3 : (m.inp j).sent <;> simp_all
    · rw [hu] at hw
      cases h1 : (m.inp j).holds <;> cases h2 : m.al <;> cases h3 : (m.inp j).sent <;> simp_all
  · simp only [Gm.waits, Gm.blocked, upd_ne _ _ e] at hw ⊢
    simp only [Gm.upd] at hw ⊢
    rcases hu with hu | hu
    · rw [hu] at hw; exact hw
    · rw [hu] at hw
      cases h1 : (m.inp j).holds <;> cases h2 : m.al <;> cases h3 : (m.inp j).sent <;> simp_all

def Job.quiet : Job → Gm → Gm → Prop
  | .go, _, m' => Quiet m'
  | _, m, m' => Quiet m → Quiet m'

theorem Runs.quiet {J : Job} {m m' : Gm} {o : List OV} (h : Runs J m m' o) : J.quiet m m' := by
  induction h with
  | pass | drop | none => exact fun h => h
  | over _ _ _ _ _ _ h1 h2 => exact fun _ => h2 h1
  | same _ _ _ _ _ _ h1 => exact fun h => h1 (h.send (.inl rfl))
  | first _ _ _ hu0 _ h1 => exact fun h => h1 (h.send (.inr hu0))
  | whole _ _ _ h1 => exact fun _ => h1
  | @done m hnx =>
    obtain ⟨al, an, au, ad⟩ := m.drainTo_al (m.list m.n)
    intro i hi
    rw [an] at hi
    have hd := drain_inp m m.n i
    have hb : (m.drainTo (m.list m.n)).blocked i = m.blocked i := by
      simp only [Gm.blocked, al, au]
      rw [hd]; split <;> rfl
    cases hw : m.waits i
    · rw [if_neg (by rw [hw]; simp)] at hd
      rw [← hw]
      simp only [Gm.waits, hb, hd]
    · rw [if_pos ⟨hi, hw⟩] at hd
      have he : (m.inp i).drained.queue = [] := by
        by_cases e : (m.inp i).drained.queue = []
        · exact e
        · exact absurd hnx (Int.not_lt.2 (drainNx_has (mem_list.2 ⟨hi, hw⟩) e))
      simp only [Gm.waits, hd, he]
      simp
  | again _ _ _ _ _ _ _ h2 => exact h2
end Go.Proofs.Ytdnkfgnjeibjeaa

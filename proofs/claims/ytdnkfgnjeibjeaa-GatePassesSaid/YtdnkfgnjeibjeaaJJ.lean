import Derived.Test.YtdnkfgnjeibjeaaJI
namespace Go.Proofs.Ytdnkfgnjeibjeaa.W
open Go.RowKit

theorem cutAt_some {k : Int} {l : List Elem} (h : ∃ x ∈ l, barAt k x = true) (y : Elem) : cutAt k (l ++ [y]) = cutAt k l := by
  unfold cutAt
  induction l with
  | nil => obtain ⟨x, hx, _⟩ := h; cases hx
  | cons z l ih =>
    simp only [List.cons_append, List.takeWhile_cons]
    cases hz : !(z.k == 3 && z.n == k) with
    | false => rfl
    | true =>
      simp only [if_true]
      congr 1
      refine ih ?_
      obtain ⟨x, hx, hb⟩ := h
      rcases List.mem_cons.1 hx with rfl | hx
      · unfold barAt at hb; rw [hb] at hz; cases hz
      · exact ⟨x, hx, hb⟩

theorem cutAt_none {k : Int} {l : List Elem} (h : ∀ x ∈ l, barAt k x = false) : cutAt k l = l := by
  unfold cutAt
  induction l with
  | nil => rfl
  | cons z l ih =>
    have hz := h z (List.mem_cons_self ..)
    unfold barAt at hz
    rw [List.takeWhile_cons, hz]
    simp only [Bool.not_false, if_true]
    rw [ih fun x hx => h x (List.mem_cons_of_mem _ hx)]

theorem cutAt_bar {k : Int} {l : List Elem} (h : ∀ x ∈ l, barAt k x = false) {y : Elem} (hy : barAt k y = true) : cutAt k (l ++ [y]) = l := by
  induction l with
  | nil =>
    unfold cutAt barAt at *
    rw [List.nil_append, List.takeWhile_cons, hy]
    rfl
  | cons z l ih =>
    have hz := h z (List.mem_cons_self ..)
    have := ih fun x hx => h x (List.mem_cons_of_mem _ hx)
    unfold cutAt barAt at *
    simp only [List.cons_append, List.takeWhile_cons, hz, Bool.not_false, if_true]
    rw [this]

theorem bar_or (k : Int) (l : List Elem) : (∃ x ∈ l, barAt k x = true) ∨ ∀ x ∈ l, barAt k x = false := by
  by_cases h : ∃ x ∈ l, barAt k x = true
  · exact .inl h
  · refine .inr fun x hx => ?_
    cases hb : barAt k x
    · rfl
    · exact absurd ⟨x, hx, hb⟩ h

/-- An element that is no barrier k leaves the plain part of the cut, or is behind it. -/
theorem cutAt_bar_plain {k : Int} (l : List Elem) {y : Elem} (hy : plainE y = false) : (cutAt k (l ++ [y])).filter plainE = (cutAt k l).filter plainE := by
  rcases bar_or k l with h | h
  · rw [cutAt_some h]
  · rw [cutAt_none h]
    cases hb : barAt k y
    · rw [cutAt_none (fun x hx => by
        rcases List.mem_append.1 hx with hx | hx
        · exact h x hx
        · rw [List.mem_singleton] at hx; subst hx; exact hb), List.filter_append]
      simp [hy]
    · rw [cutAt_bar h hb]

abbrev Ats := List (Int × List (List Elem))
def atOf (ats : Ats) (k : Int) : Option (List (List Elem)) := (ats.find? fun e => e.1 == k).map Prod.snd

theorem atOf_app {ats : Ats} {k c : Int} {G ll : List (List Elem)} (h : atOf ats c = some ll) : atOf (ats ++ [(k, G)]) c = some ll := by
  unfold atOf at *
  rw [List.find?_append]
  cases hf : ats.find? fun e => e.1 == c with
  | none => rw [hf] at h; cases h
  | some e => rw [hf] at h; exact h

theorem atOf_new {ats : Ats} {k : Int} {G : List (List Elem)} (h : ∀ e ∈ ats, e.1 < k) : atOf (ats ++ [(k, G)]) k = some G := by
  unfold atOf
  have : ats.find? (fun e => e.1 == k) = none := List.find?_eq_none.2 fun e he => by
    have := h e he
    simp only [beq_iff_eq]; omega
  rw [List.find?_append, this]
  simp

def notedAt (l : List (Nat × Elem)) (i : Nat) : List Elem := (l.filter fun o => o.1 == i).map Prod.snd

theorem notedAt_app (l : List (Nat × Elem)) (o : Nat × Elem) (i : Nat) : notedAt (l ++ [o]) i = notedAt l i ++ if o.1 = i then [o.2] else [] := by
  unfold notedAt
  rw [List.filter_append, List.map_append]
  congr 1
  by_cases e : o.1 = i
  · simp [e]
  · have : (o.1 == i) = false := by simpa using e
    simp [this, e]

/-- What holds of a note: with what had passed when it began it is what came before the barrier. -/
structure NoteOk (n : Nat) (ins : Nat → List Elem) (ats : Ats) (y : Note) : Prop where
  ex : ∃ ll, atOf ats y.1 = some ll ∧ ll.length = n ∧ ∀ i, i < n → ll.getD i [] ++ notedAt y.2.1 i = (cutAt y.1 (ins i)).filter plainE
  inp : ∀ o ∈ y.2.1, o.1 < n

/-- The plain law of the free kind. -/
structure PI (m : Gm) (N : List Note) (ins : Nat → List Elem) (ats : Ats) : Prop where
  kok : KOk m N
  dlt : 0 < m.under → m.done < m.under
  closed : ∀ i, i < m.n → (m.inp i).closed = false
  insle : ∀ i, i < m.n → ∀ x ∈ ins i, x.k = 3 → x.n ≤ max m.done m.under
  note : ∀ y ∈ N, NoteOk m.n ins ats y
  whole : ∀ y ∈ N, y.2.2 = true → ∀ i, i < m.n → ∃ x ∈ ins i, barAt y.1 x = true
  part : ∀ y ∈ N, y.2.2 = false → 0 < m.under ∧ y.1 = m.under
  uw : 0 < m.under → ∀ y ∈ N, y.1 = m.under → y.2.2 = false
  sent : 0 < m.under → ∀ i, i < m.n → ((m.inp i).sent = true ↔ ∃ x ∈ ins i, barAt m.under x = true)
  unsent : m.under = 0 → ∀ i, i < m.n → (m.inp i).sent = false
  atk : ∀ e ∈ ats, e.1 ≤ max m.done m.under

def pushL (ins : Nat → List Elem) (i : Nat) (x : Elem) : Nat → List Elem := fun j => if j = i then ins i ++ [x] else ins j

theorem pushL_same (ins : Nat → List Elem) (i : Nat) (x : Elem) : pushL ins i x i = ins i ++ [x] := if_pos rfl
theorem pushL_ne (ins : Nat → List Elem) {i j : Nat} (x : Elem) (h : j ≠ i) : pushL ins i x j = ins j := if_neg h
theorem mem_pushL {ins : Nat → List Elem} {i j : Nat} {x y : Elem} : y ∈ pushL ins i x j ↔ y ∈ ins j ∨ (j = i ∧ y = x) := by
  by_cases e : j = i
  · subst e; rw [pushL_same]; simp
  · rw [pushL_ne _ _ e]; simp [e]

theorem barAt_iff {k : Int} {x : Elem} : barAt k x = true ↔ x.k = 3 ∧ x.n = k := by simp [barAt]

/-- The plain parts before barriers stay when a barrier comes. -/
theorem NoteOk.bar {n : Nat} {ins : Nat → List Elem} {ats : Ats} {y : Note} (h : NoteOk n ins ats y) (i : Nat) {x : Elem} (hx : plainE x = false) : NoteOk n (pushL ins i x) ats y := by
  obtain ⟨⟨ll, h1, h2, h3⟩, h4⟩ := h
  refine ⟨⟨ll, h1, h2, fun j hj => ?_⟩, h4⟩
  by_cases e : j = i
  · subst e; rw [pushL_same, cutAt_bar_plain _ hx]; exact h3 j hj
  · rw [pushL_ne _ _ e]; exact h3 j hj

theorem NoteOk.atApp {n : Nat} {ins : Nat → List Elem} {ats : Ats} {y : Note} (h : NoteOk n ins ats y) (k : Int) (G : List (List Elem)) : NoteOk n ins (ats ++ [(k, G)]) y := by
  obtain ⟨⟨ll, h1, h2, h3⟩, h4⟩ := h
  exact ⟨⟨ll, atOf_app h1, h2, h3⟩, h4⟩

theorem PI.upd {m : Gm} {N : List Note} {ins : Nat → List Elem} {ats : Ats} (h : PI m N ins ats) (i : Nat) (x : Inp) (h1 : x.closed = (m.inp i).closed) (h2 : x.sent = (m.inp i).sent) : PI (m.upd i x) N ins ats := by
  have key : ∀ j, ((m.upd i x).inp j).closed = (m.inp j).closed ∧ ((m.upd i x).inp j).sent = (m.inp j).sent := fun j => by
    by_cases e : j = i
    · subst e; simp [Gm.upd, h1, h2]
    · simp [Gm.upd, e]
  exact ⟨⟨h.kok.pos, h.kok.has, h.kok.le, h.kok.dpos⟩, h.dlt, fun j hj => (key j).1.trans (h.closed j hj), h.insle, h.note, h.whole, h.part, h.uw, fun hu j hj => by rw [(key j).2]; exact h.sent hu j hj, fun hu j hj => (key j).2.trans (h.unsent hu j hj), h.atk⟩

theorem PI.gone {m : Gm} {N : List Note} {ins : Nat → List Elem} {ats : Ats} (h : PI m N ins ats) : PI m.ends (N.filter (fun y => y.1 != m.under)) ins ats := by
  have hd := h.kok.dpos
  refine ⟨h.kok.gone, fun hh => absurd hh (by show ¬ (0 : Int) < 0; omega), h.closed, fun i hi x hx hk => ?_, fun y hy => h.note y (List.mem_filter.1 hy).1, fun y hy => h.whole y (List.mem_filter.1 hy).1, fun y hy hw => ?_, fun hh => absurd hh (by show ¬ (0 : Int) < 0; omega), fun hh => absurd hh (by show ¬ (0 : Int) < 0; omega), fun _ i _ => rfl, fun e he => ?_⟩
  · have := h.insle i hi x hx hk
    show x.n ≤ max (max m.done m.under) 0
    omega
  · obtain ⟨hy, hne⟩ := List.mem_filter.1 hy
    have := (h.part y hy hw).2
    rw [this] at hne
    simp at hne
  · have := h.atk e he
    show e.1 ≤ max (max m.done m.under) 0
    omega

theorem PI.whole' {m : Gm} {N : List Note} {ins : Nat → List Elem} {ats : Ats} (h : PI m N ins ats) : PI (fWhole m N).1 (fWhole m N).2 ins ats := by
  unfold fWhole
  split
  · exact h
  · rename_i hc
    have hu : m.under ≠ 0 := fun e => hc (.inl e)
    have hm : m.anyMiss = false := by
      cases hx : m.anyMiss
      · rfl
      · exact absurd (.inr hx) hc
    have hp := h.kok.pos
    have hu' : 0 < m.under := by omega
    have hd := h.kok.dpos
    have hsent : ∀ i, i < m.n → (m.inp i).sent = true := fun i hi => by
      have := List.any_eq_false.1 hm i (List.mem_range.2 hi)
      simp only [Inp.miss, h.closed i hi, Bool.not_false, Bool.true_and] at this
      simpa using this
    have hmem : ∀ y ∈ (N.filter (fun y => y.1 == m.under)).map (fun y => (y.1, y.2.1, true)), ∃ z ∈ N, z.1 = m.under ∧ y = (m.under, z.2.1, true) := fun y hy => by
      obtain ⟨z, hz, rfl⟩ := List.mem_map.1 hy
      obtain ⟨hz, he⟩ := List.mem_filter.1 hz
      have he' : z.1 = m.under := by simpa using he
      exact ⟨z, hz, he', by rw [he']⟩
    refine ⟨⟨Int.le_refl _, fun hh => absurd hh (by show ¬ (0 : Int) < 0; omega), fun y hy => ?_, ?_⟩, fun hh => absurd hh (by show ¬ (0 : Int) < 0; omega), h.closed, fun i hi x hx hk => ?_, fun y hy => ?_, fun y hy _ i hi => ?_, fun y hy hw => ?_, fun hh => absurd hh (by show ¬ (0 : Int) < 0; omega), fun hh => absurd hh (by show ¬ (0 : Int) < 0; omega), fun _ i _ => rfl, fun e he => ?_⟩
    · obtain ⟨z, hz, hk, rfl⟩ := hmem y hy
      refine .inl ?_
      show m.under ≤ max m.done m.under
      omega
    · show 0 ≤ max m.done m.under
      omega
    · have := h.insle i hi x hx hk
      show x.n ≤ max (max m.done m.under) 0
      omega
    · obtain ⟨z, hz, hk, rfl⟩ := hmem y hy
      have := h.note z hz
      rw [← hk]
      exact ⟨this.ex, this.inp⟩
    · obtain ⟨z, hz, hk, rfl⟩ := hmem y hy
      exact (h.sent hu' i hi).1 (hsent i hi)
    · obtain ⟨z, hz, hk, rfl⟩ := hmem y hy
      cases hw
    · have := h.atk e he
      show e.1 ≤ max (max m.done m.under) 0
      omega

/-- A barrier that passes nothing. -/
theorem PI.drop {m : Gm} {N : List Note} {ins : Nat → List Elem} {ats : Ats} (h : PI m N ins ats) (i : Nat) {x : Elem} (hk : x.k = 3) (hd : x.n ≤ m.done ∨ (0 < m.under ∧ x.n < m.under)) : PI m N (pushL ins i x) ats := by
  have hp : plainE x = false := by simp [plainE, hk]
  refine ⟨h.kok, h.dlt, h.closed, fun j hj y hy hyk => ?_, fun y hy => (h.note y hy).bar i hp, fun y hy hw j hj => ?_, h.part, h.uw, fun hu j hj => ?_, h.unsent, h.atk⟩
  · rcases mem_pushL.1 hy with hy | ⟨_, rfl⟩
    · exact h.insle j hj y hy hyk
    · omega
  · obtain ⟨z, hz, hb⟩ := h.whole y hy hw j hj
    exact ⟨z, mem_pushL.2 (.inl hz), hb⟩
  · rw [h.sent hu j hj]
    have := h.dlt hu
    constructor
    · rintro ⟨z, hz, hb⟩
      exact ⟨z, mem_pushL.2 (.inl hz), hb⟩
    · rintro ⟨z, hz, hb⟩
      rcases mem_pushL.1 hz with hz | ⟨_, rfl⟩
      · exact ⟨z, hz, hb⟩
      · have := (barAt_iff.1 hb).2
        omega

/-- The barrier under way comes from an input. -/
theorem PI.same {m : Gm} {N : List Note} {ins : Nat → List Elem} {ats : Ats} (h : PI m N ins ats) (i : Nat) {x : Elem} (hk : x.k = 3) (hu : 0 < m.under) (hx : x.n = m.under) : PI (m.upd i (m.inp i).send) N (pushL ins i x) ats := by
  have hp : plainE x = false := by simp [plainE, hk]
  have hcl : ∀ j, ((m.upd i (m.inp i).send).inp j).closed = (m.inp j).closed := fun j => by
    by_cases e : j = i
    · subst e; simp [Gm.upd, Inp.send]
    · simp [Gm.upd, e]
  refine ⟨h.kok.send i _, h.dlt, fun j hj => (hcl j).trans (h.closed j hj), fun j hj y hy hyk => ?_, fun y hy => (h.note y hy).bar i hp, fun y hy hw j hj => ?_, h.part, h.uw, fun _ j hj => ?_, fun h0 => absurd h0 (by show ¬ m.under = 0; omega), h.atk⟩
  · rcases mem_pushL.1 hy with hy | ⟨_, rfl⟩
    · exact h.insle j hj y hy hyk
    · show y.n ≤ max m.done m.under
      omega
  · obtain ⟨z, hz, hb⟩ := h.whole y hy hw j hj
    exact ⟨z, mem_pushL.2 (.inl hz), hb⟩
  · by_cases e : j = i
    · subst e
      refine ⟨fun _ => ⟨x, mem_pushL.2 (.inr ⟨rfl, rfl⟩), barAt_iff.2 ⟨hk, hx⟩⟩, fun _ => by simp [Gm.upd, Inp.send]⟩
    · have e1 : ((m.upd i (m.inp i).send).inp j).sent = (m.inp j).sent := by simp [Gm.upd, e]
      rw [e1, pushL_ne _ _ e]
      exact h.sent hu j hj

def gotL (n : Nat) (ins : Nat → List Elem) : List (List Elem) := (List.range n).map fun i => (ins i).filter plainE

theorem gotL_at {n : Nat} (ins : Nat → List Elem) {i : Nat} (hi : i < n) : (gotL n ins).getD i [] = (ins i).filter plainE := by
  unfold gotL
  rw [List.getD_eq_getElem?_getD, List.getElem?_map, List.getElem?_range hi]
  rfl

/-- A barrier begins. -/
theorem PI.first {m : Gm} {N : List Note} {ins : Nat → List Elem} {ats : Ats} (h : PI m N ins ats) (i : Nat) {x : Elem} (hk : x.k = 3) (h0 : m.under = 0) (hx : m.done < x.n) :
    PI (Gm.upd { m with under := x.n } i (m.inp i).send) (N ++ [(x.n, [], false)]) (pushL ins i x) (ats ++ [(x.n, gotL m.n ins)]) := by
  have hp : plainE x = false := by simp [plainE, hk]
  have hd := h.kok.dpos
  have hcl : ∀ j, ((Gm.upd { m with under := x.n } i (m.inp i).send).inp j).closed = (m.inp j).closed := fun j => by
    by_cases e : j = i
    · subst e; simp [Gm.upd, Inp.send]
    · simp [Gm.upd, e]
  have hno : ∀ j, j < m.n → ∀ y ∈ ins j, barAt x.n y = false := fun j hj y hy => by
    cases hb : barAt x.n y
    · rfl
    · obtain ⟨h1, h2⟩ := barAt_iff.1 hb
      have := h.insle j hj y hy h1
      omega
  have hat : ∀ e ∈ ats, e.1 < x.n := fun e he => by have := h.atk e he; omega
  refine ⟨h.kok.begin h0 hx i _, fun _ => hx, fun j hj => (hcl j).trans (h.closed j hj), fun j hj y hy hyk => ?_, fun y hy => ?_, fun y hy hw j hj => ?_, fun y hy hw => ?_, fun _ y hy hyk => ?_, fun _ j hj => ?_, fun hh => absurd hh (by show ¬ x.n = 0; omega), fun e he => ?_⟩
  · show y.n ≤ max m.done x.n
    rcases mem_pushL.1 hy with hy | ⟨_, rfl⟩
    · have := h.insle j hj y hy hyk; omega
    · omega
  · rcases List.mem_append.1 hy with hy | hy
    · exact ((h.note y hy).bar i hp).atApp _ _
    · rw [List.mem_singleton] at hy; subst hy
      refine ⟨⟨gotL m.n ins, atOf_new hat, by simp [gotL]; rfl, fun j hj => ?_⟩, fun o ho => by cases ho⟩
      have hj' : j < m.n := hj
      rw [gotL_at ins hj']
      show _ ++ [] = _
      rw [List.append_nil]
      by_cases e : j = i
      · subst e
        rw [pushL_same, cutAt_bar (hno j hj') (barAt_iff.2 ⟨hk, rfl⟩)]
      · rw [pushL_ne _ _ e, cutAt_none (hno j hj')]
  · rcases List.mem_append.1 hy with hy | hy
    · obtain ⟨z, hz, hb⟩ := h.whole y hy hw j hj
      exact ⟨z, mem_pushL.2 (.inl hz), hb⟩
    · rw [List.mem_singleton] at hy; subst hy; cases hw
  · rcases List.mem_append.1 hy with hy | hy
    · have := (h.part y hy hw).1; omega
    · rw [List.mem_singleton] at hy; subst hy
      exact ⟨by show 0 < x.n; omega, rfl⟩
  · rcases List.mem_append.1 hy with hy | hy
    · have h1 := h.kok.le y hy
      have h2 : y.1 = x.n := hyk
      omega
    · rw [List.mem_singleton] at hy; subst hy; rfl
  · by_cases e : j = i
    · subst e
      exact ⟨fun _ => ⟨x, mem_pushL.2 (.inr ⟨rfl, rfl⟩), barAt_iff.2 ⟨hk, rfl⟩⟩, fun _ => by simp [Gm.upd, Inp.send]⟩
    · have e1 : ((Gm.upd { m with under := x.n } i (m.inp i).send).inp j).sent = false := by
        have := h.unsent h0 j hj
        simp [Gm.upd, e, this]
      rw [e1, pushL_ne _ _ e]
      constructor
      · intro hh; cases hh
      · rintro ⟨z, hz, hb⟩
        have := hno j hj z hz
        rw [show barAt x.n z = true from hb] at this
        cases this
  · show e.1 ≤ max m.done x.n
    rcases List.mem_append.1 he with he | he
    · have := h.atk e he; omega
    · rw [List.mem_singleton] at he; subst he
      show x.n ≤ _
      omega

/-- A plain element passes. -/
theorem PI.plain {m : Gm} {N : List Note} {ins : Nat → List Elem} {ats : Ats} (h : PI m N ins ats) {i : Nat} (hi : i < m.n) {x : Elem} (hk : (x.k == 3) = false) : PI m (if noting m i then noteAdd N m.under (i, x) else N) (pushL ins i x) ats := by
  have hp : plainE x = true := by simp [plainE, hk]
  have hk3 : x.k ≠ 3 := by simpa using hk
  have hbx : ∀ k, barAt k x = false := fun k => by simp [barAt, hk]
  have hbars : ∀ k j, (∃ z ∈ pushL ins i x j, barAt k z = true) ↔ ∃ z ∈ ins j, barAt k z = true := fun k j => by
    constructor
    · rintro ⟨z, hz, hb⟩
      rcases mem_pushL.1 hz with hz | ⟨_, rfl⟩
      · exact ⟨z, hz, hb⟩
      · rw [hbx] at hb; cases hb
    · rintro ⟨z, hz, hb⟩
      exact ⟨z, mem_pushL.2 (.inl hz), hb⟩
  have hmem : ∀ y ∈ (if noting m i then noteAdd N m.under (i, x) else N), ∃ z ∈ N, y.1 = z.1 ∧ y.2.2 = z.2.2 ∧ y.2.1 = z.2.1 ++ (if noting m i = true ∧ z.1 = m.under then [(i, x)] else []) := fun y hy => by
    cases hno : noting m i
    · rw [hno] at hy
      exact ⟨y, hy, rfl, rfl, by simp⟩
    · rw [hno] at hy
      simp only [if_true] at hy
      obtain ⟨z, hz, rfl⟩ := List.mem_map.1 hy
      refine ⟨z, hz, ?_⟩
      by_cases e : z.1 = m.under
      · rw [if_pos e]; simp [e]
      · rw [if_neg e]; simp [e]
  refine ⟨⟨h.kok.pos, fun hu => ?_, fun y hy => ?_, h.kok.dpos⟩, h.dlt, h.closed, fun j hj y hy hyk => ?_, fun y hy => ?_, fun y hy hw j hj => ?_, fun y hy hw => ?_, fun hu y hy hyk => ?_, fun hu j hj => ?_, h.unsent, h.atk⟩
  · obtain ⟨z, hz, hzk⟩ := h.kok.has hu
    cases hno : noting m i
    · exact ⟨z, hz, hzk⟩
    · refine ⟨_, List.mem_map.2 ⟨z, hz, rfl⟩, ?_⟩
      split <;> exact hzk
  · obtain ⟨z, hz, e1, _, _⟩ := hmem y hy
    rw [e1]; exact h.kok.le z hz
  · rcases mem_pushL.1 hy with hy | ⟨_, rfl⟩
    · exact h.insle j hj y hy hyk
    · exact absurd hyk hk3
  · obtain ⟨z, hz, e1, e2, e3⟩ := hmem y hy
    obtain ⟨⟨ll, h1, h2, h3⟩, h4⟩ := h.note z hz
    refine ⟨⟨ll, by rw [e1]; exact h1, h2, fun j hj => ?_⟩, fun o ho => ?_⟩
    · rw [e1, e3]
      have hnn : notedAt (z.2.1 ++ (if noting m i = true ∧ z.1 = m.under then [(i, x)] else [])) j = notedAt z.2.1 j ++ if (noting m i = true ∧ z.1 = m.under) ∧ i = j then [x] else [] := by
        by_cases hc : noting m i = true ∧ z.1 = m.under
        · rw [if_pos hc, notedAt_app]
          by_cases e : i = j
          · rw [if_pos e, if_pos ⟨hc, e⟩]
          · rw [if_neg e, if_neg (fun hh => e hh.2)]
        · rw [if_neg hc, if_neg (fun hh => hc hh.1), List.append_nil, List.append_nil]
      rw [hnn, ← List.append_assoc, h3 j hj]
      by_cases e : j = i
      · subst e
        rw [pushL_same]
        rcases bar_or z.1 (ins j) with hb | hb
        · rw [cutAt_some hb, if_neg, List.append_nil]
          rintro ⟨⟨hno, hzu⟩, _⟩
          unfold noting at hno
          simp only [Bool.and_eq_true, decide_eq_true_eq, Bool.not_eq_true'] at hno
          have := (h.sent hno.1 j hj).2 (hzu ▸ hb)
          rw [hno.2] at this; cases this
        · have hns : z.2.2 = false := by
            cases hzw : z.2.2
            · rfl
            · obtain ⟨q, hq, hqb⟩ := h.whole z hz hzw j hj
              rw [hb q hq] at hqb; cases hqb
          obtain ⟨hu, hzu⟩ := h.part z hz hns
          have hsf : (m.inp j).sent = false := by
            cases hs : (m.inp j).sent
            · rfl
            · obtain ⟨q, hq, hqb⟩ := (h.sent hu j hj).1 hs
              rw [← hzu, hb q hq] at hqb; cases hqb
          rw [if_pos ⟨⟨by simp [noting, hu, hsf], hzu⟩, rfl⟩, cutAt_none hb, cutAt_none (fun q hq => by
            rcases List.mem_append.1 hq with hq | hq
            · exact hb q hq
            · rw [List.mem_singleton] at hq; subst hq; exact hbx _), List.filter_append]
          simp [hp]
      · rw [if_neg (fun hh => e hh.2.symm), pushL_ne _ _ e, List.append_nil]
    · rw [e3] at ho
      rcases List.mem_append.1 ho with ho | ho
      · exact h4 o ho
      · split at ho
        · rw [List.mem_singleton] at ho; subst ho; exact hi
        · cases ho
  · obtain ⟨z, hz, e1, e2, _⟩ := hmem y hy
    rw [e1]
    exact (hbars _ _).2 (h.whole z hz (e2 ▸ hw) j hj)
  · obtain ⟨z, hz, e1, e2, _⟩ := hmem y hy
    rw [e1]
    exact h.part z hz (e2 ▸ hw)
  · obtain ⟨z, hz, e1, e2, _⟩ := hmem y hy
    rw [e2]
    exact h.uw hu z hz (e1 ▸ hyk)
  · rw [h.sent hu j hj, hbars]

theorem gotL_push {n : Nat} (ins : Nat → List Elem) (i : Nat) {x : Elem} (hx : plainE x = false) : gotL n (pushL ins i x) = gotL n ins := by
  unfold gotL
  refine List.map_congr_left fun j _ => ?_
  by_cases e : j = i
  · subst e; rw [pushL_same, List.filter_append]; simp [hx]
  · rw [pushL_ne _ _ e]

theorem ends_upd (m : Gm) (i : Nat) (L : Int) : (m.upd i { m.inp i with last := L }).ends = m.ends.upd i { m.ends.inp i with last := L } := by
  cases m
  simp only [Gm.upd, Gm.ends, Gm.mk.injEq, true_and, and_true]
  funext j
  by_cases e : j = i
  · subst e; simp [Inp.unsent]
  · simp [e]

/-- An element arrives. -/
theorem PI.arrive {m : Gm} {N : List Note} {ins : Nat → List Elem} {ats : Ats} (h : PI m N ins ats) {i : Nat} (hi : i < m.n) (x : Elem) (m1 : Gm) (hm1 : m1 = if x.k == 3 then m.upd i { m.inp i with last := x.n } else m) :
    PI (fLook m1 N i x).1 (fLook m1 N i x).2.1 (pushL ins i x) (ats ++ (((fLook m1 N i x).2.2).filter (fun o => !plainE o.2)).map fun o => (o.2.n, gotL m.n ins)) ∧ (fLook m1 N i x).1.n = m.n ∧
      (((fLook m1 N i x).2.2 = [] ∧ plainE x = false) ∨ ((fLook m1 N i x).2.2 = [(i, x)] ∧ plainE x = true) ∨ ((fLook m1 N i x).2.2 = [(i, barE x.n)] ∧ plainE x = false ∧ ∀ e ∈ ats, e.1 < x.n)) := by
  have hwn : ∀ (m : Gm) N, (fWhole m N).1.n = m.n := fun m N => by unfold fWhole; split <;> rfl
  cases hk : (x.k == 3) with
  | false =>
    have hp : plainE x = true := by simp [plainE, hk]
    rw [hk] at hm1
    simp only [Bool.false_eq_true, if_false] at hm1
    rw [hm1]
    have e : fLook m N i x = (m, if noting m i then noteAdd N m.under (i, x) else N, [(i, x)]) := by
      unfold fLook
      rw [hk]
      rfl
    rw [e]
    refine ⟨?_, rfl, .inr (.inl ⟨rfl, hp⟩)⟩
    have e2 : ([(i, x)].filter fun o : Nat × Elem => !plainE o.2) = [] := by simp [hp]
    show PI m (if noting m i then noteAdd N m.under (i, x) else N) _ (ats ++ ([(i, x)].filter fun o : Nat × Elem => !plainE o.2).map _)
    rw [e2, List.map_nil, List.append_nil]
    exact h.plain hi hk
  | true =>
    have hk3 : x.k = 3 := by simpa using hk
    have hp : plainE x = false := by simp [plainE, hk]
    have hpb : plainE (barE x.n) = false := rfl
    have h1 : PI m1 N ins ats := by rw [hm1, hk, if_pos rfl]; exact h.upd i _ rfl rfl
    have hn1 : m1.n = m.n := by rw [hm1, hk, if_pos rfl]; rfl
    have hi1 : i < m1.n := by omega
    unfold fLook
    rw [hk]
    simp only [if_true]
    by_cases c1 : x.n ≤ m1.done ∨ (0 < m1.under ∧ x.n < m1.under)
    · rw [if_pos c1]
      refine ⟨?_, hn1, .inl ⟨rfl, hp⟩⟩
      show PI m1 N _ (ats ++ [])
      rw [List.append_nil]
      exact h1.drop i hk3 c1
    · rw [if_neg c1]
      have hd : m1.done < x.n := by omega
      have hb : ∀ {m2 : Gm} {N2 : List Note}, PI m2 N2 ins ats → m2.n = m1.n → m2.under = 0 → m2.done < x.n →
          PI (fBegin m2 N2 i x.n).1 (fBegin m2 N2 i x.n).2 (pushL ins i x) (ats ++ (([(i, barE x.n)] : List (Nat × Elem)).filter fun o => !plainE o.2).map fun o => (o.2.n, gotL m.n ins)) ∧ (fBegin m2 N2 i x.n).1.n = m.n := fun {m2 N2} h2 e1 e2 e3 => by
        have := (h2.first i hk3 e2 e3).whole'
        have e4 : gotL m2.n ins = gotL m.n ins := by rw [e1, hn1]
        rw [e4] at this
        exact ⟨this, by unfold fBegin; rw [hwn]; exact e1.trans hn1⟩
      by_cases c2 : 0 < m1.under ∧ m1.under < x.n
      · rw [if_pos c2]
        have h2 := h1.gone
        have hat : ∀ e ∈ ats, e.1 < x.n := fun e he => by have := h1.atk e he; omega
        obtain ⟨r1, r2⟩ := hb h2 rfl rfl (by show max m1.done m1.under < x.n; omega)
        exact ⟨r1, r2, .inr (.inr ⟨rfl, hp, hat⟩)⟩
      · rw [if_neg c2]
        by_cases c3 : m1.under = 0
        · rw [if_pos c3]
          have hpos := h1.kok.dpos
          have hat : ∀ e ∈ ats, e.1 < x.n := fun e he => by have := h1.atk e he; omega
          obtain ⟨r1, r2⟩ := hb h1 rfl c3 hd
          exact ⟨r1, r2, .inr (.inr ⟨rfl, hp, hat⟩)⟩
        · rw [if_neg c3]
          have hpos := h1.kok.pos
          have h2 := (h1.same i hk3 (by omega) (by omega)).whole'
          refine ⟨?_, (hwn _ _).trans hn1, .inl ⟨rfl, hp⟩⟩
          show PI _ _ _ (ats ++ [])
          rw [List.append_nil]
          exact h2

def nSum (N : List Note) : Nat := (N.map fun y => y.2.1.length).sum

theorem nSum_filter (N : List Note) (p : Note → Bool) : nSum (N.filter p) ≤ nSum N := by
  induction N with
  | nil => exact Nat.le_refl _
  | cons y N ih =>
    simp only [nSum, List.filter_cons, List.map_cons, List.sum_cons] at *
    split
    · simp only [List.map_cons, List.sum_cons]; omega
    · omega

theorem nSum_add {N : List Note} (hp : N.Pairwise fun x y => x.1 ≠ y.1) (k : Int) (o : Nat × Elem) : nSum (noteAdd N k o) ≤ nSum N + 1 := by
  induction N with
  | nil => exact Nat.zero_le _
  | cons y N ih =>
    obtain ⟨h1, h2⟩ := List.pairwise_cons.1 hp
    have := ih h2
    simp only [nSum, noteAdd, List.map_cons, List.sum_cons, List.map_map] at *
    by_cases e : y.1 = k
    · have hid : (N.map ((fun y : Note => y.2.1.length) ∘ fun y => if y.1 = k then (y.1, y.2.1 ++ [o], y.2.2) else y)) = N.map fun y => y.2.1.length := List.map_congr_left fun z hz => by
        have : ¬ z.1 = k := fun e2 => h1 z hz (by rw [e, e2])
        simp [this]
      rw [hid]
      simp [e]
      omega
    · simp [e]
      omega

theorem nSum_whole (m : Gm) (N : List Note) : nSum (fWhole m N).2 ≤ nSum N := by
  unfold fWhole
  split
  · exact Nat.le_refl _
  · have := nSum_filter N (fun y => y.1 == m.under)
    have e : nSum ((N.filter (fun y => y.1 == m.under)).map fun y => (y.1, y.2.1, true)) = nSum (N.filter (fun y => y.1 == m.under)) := by
      unfold nSum
      rw [List.map_map]
      rfl
    show nSum _ ≤ _
    rw [e]
    exact this

theorem nSum_begin (m : Gm) (N : List Note) (i : Nat) (k : Int) : nSum (fBegin m N i k).2 ≤ nSum N := by
  refine Nat.le_trans (nSum_whole _ _) ?_
  simp [nSum]

theorem nSum_look {N : List Note} (hp : N.Pairwise fun x y => x.1 ≠ y.1) (m : Gm) (i : Nat) (x : Elem) : nSum (fLook m N i x).2.1 ≤ nSum N + 1 := by
  unfold fLook
  split
  · split
    · exact Nat.le_succ _
    · split
      · exact Nat.le_succ_of_le (Nat.le_trans (nSum_begin _ _ _ _) (nSum_filter _ _))
      · split
        · exact Nat.le_succ_of_le (nSum_begin _ _ _ _)
        · exact Nat.le_succ_of_le (nSum_whole _ _)
  · show nSum (if noting m i then noteAdd N m.under (i, x) else N) ≤ _
    split
    · exact nSum_add hp _ _
    · exact Nat.le_succ _

theorem listOf_noted (l : List (Nat × Elem)) (i : Nat) : listOf i (l.map fun o => ((o.1 : Int), o.2)) = notedAt l i := by
  unfold listOf notedAt
  induction l with
  | nil => rfl
  | cons o l ih =>
    simp only [List.map_cons, List.filter_cons]
    by_cases e : o.1 = i
    · have e1 : ((o.1 : Int) == (i : Int)) = true := by simp [e]
      have e2 : (o.1 == i) = true := by simp [e]
      rw [e1, e2]
      simp only [if_true, List.map_cons, ih]
    · have e1 : ((o.1 : Int) == (i : Int)) = false := by simp; omega
      have e2 : (o.1 == i) = false := by simpa using e
      rw [e1, e2]
      simpa using ih

/-- What passed before a barrier, and what was noted for it, are together what came before it. -/
theorem PI.tog {m : Gm} {N : List Note} {ins : Nat → List Elem} {ats : Ats} (h : PI m N ins ats) (h1 : 1 ≤ m.n) (h2 : m.n ≤ 200) (hv : ∀ i, i < m.n → ∀ x ∈ ins i, validElem x = true) {y : Note} (hy : y ∈ N) (hk : 1 ≤ y.1) :
    ∃ lp, atOf ats y.1 = some lp ∧ Tog ((List.range m.n).map ins) lp y.1 (y.2.1.map fun o => ((o.1 : Int), o.2)) ∧ ∀ i, i < m.n → ∀ x ∈ lp.getD i [], x ∈ ins i := by
  obtain ⟨⟨ll, e1, e2, e3⟩, e4⟩ := h.note y hy
  have hg : ∀ i, i < m.n → ((List.range m.n).map ins).getD i [] = ins i := fun i hi => by
    rw [List.getD_eq_getElem?_getD, List.getElem?_map, List.getElem?_range hi]; rfl
  refine ⟨ll, e1, ⟨?_, by simpa using e2, fun o ho => ?_, fun i hi => ?_⟩, fun i hi x hx => ?_⟩
  · have hbad : ((List.range m.n).map ins).any (fun l => l.any badE) = false := by
      rw [List.any_eq_false]
      intro l hl
      obtain ⟨i, hi, rfl⟩ := List.mem_map.1 hl
      have hi := List.mem_range.1 hi
      rw [Bool.not_eq_true, List.any_eq_false]
      intro x hx
      have : badE x = !validElem x := rfl
      rw [this, hv i hi x hx]
      decide
    unfold cutErr
    rw [hbad, if_neg (by decide), if_neg (by simp; omega)]
  · obtain ⟨q, hq, rfl⟩ := List.mem_map.1 ho
    have := e4 q hq
    simp only [List.length_map, List.length_range]
    omega
  · have hi' : i < m.n := by simpa using hi
    rw [listOf_noted, hg i hi']
    exact e3 i hi'
  · have h3 := e3 i hi
    have hx2 : x ∈ (cutAt y.1 (ins i)).filter plainE := by rw [← h3]; exact List.mem_append_left _ hx
    exact (List.takeWhile_sublist _).subset (List.mem_filter.1 hx2).1
end Go.Proofs.Ytdnkfgnjeibjeaa.W

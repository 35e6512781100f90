import Derived.Test.YtdnkfgnjeibjeaaH4
import Derived.Test.YtdnkfgnjeibjeaaC16
namespace Go.Proofs.Ytdnkfgnjeibjeaa
open Go.RowKit Go.Shelf

def eL (q : List EV) : List Elem := q.map Prod.fst

/-- What passed, as the law tells it. -/
def outE (outs : List OV) : List (Int × Elem) := outs.map fun o => ((o.1 : Int), o.2.1)

/-- The plain elements of an input that passed. -/
def pst (i : Nat) (outs : List OV) : List Elem := plainL (listOf i (outE outs))

theorem plainL_app (a b : List Elem) : plainL (a ++ b) = plainL a ++ plainL b := List.filter_append ..

theorem pst_app (i : Nat) (a b : List OV) : pst i (a ++ b) = pst i a ++ pst i b := by
  simp [pst, plainL, listOf, outE]

theorem pst_cons (i j : Nat) (x : EV) (b : List OV) : pst i ((j, x) :: b) = (if j = i then plainL [x.1] else []) ++ pst i b := by
  by_cases e : j = i
  · subst e
    simp only [pst, listOf, outE, List.map_cons, List.filter_cons, beq_self_eq_true, if_true]
    exact plainL_app [x.1] _
  · have : ¬ ((j : Int) = (i : Int)) := by omega
    simp [pst, plainL, listOf, outE, e, this]

theorem pst_nil (i : Nat) : pst i [] = [] := rfl

theorem plainL_bar {x : Elem} (h : x.k = 3) : plainL [x] = [] := by simp [plainL, barE, h]
theorem plainL_one {x : EV} (h : x.plain = true) : plainL [x.1] = [x.1] := by
  have : x.1.k ≠ 3 := by simpa [EV.plain] using h
  simp [plainL, barE, this]

theorem plainL_all : ∀ {l : List EV}, (∀ x ∈ l, x.plain = true) → plainL (eL l) = eL l
  | [], _ => rfl
  | x :: l, h => by
    have h1 := plainL_one (h x List.mem_cons_self)
    have h2 := plainL_all (l := l) fun y hy => h y (List.mem_cons_of_mem _ hy)
    have : eL (x :: l) = [x.1] ++ eL l := rfl
    rw [this, plainL_app, h1, h2]

theorem pst_same (i : Nat) : ∀ l : List EV, pst i (l.map fun p => (i, p)) = plainL (eL l)
  | [] => rfl
  | x :: l => by
    have : eL (x :: l) = [x.1] ++ eL l := rfl
    rw [List.map_cons, pst_cons, if_pos rfl, pst_same i l, this, plainL_app]

theorem pst_other {i j : Nat} (h : j ≠ i) : ∀ l : List EV, pst i (l.map fun p => (j, p)) = []
  | [] => rfl
  | x :: l => by rw [List.map_cons, pst_cons, if_neg h, pst_other h l]; rfl

/-- What the inputs hand on, input by input. -/
theorem pst_drain (m : Gm) (i : Nat) : ∀ k, pst i (drainOuts m (m.list k)) = if i < k ∧ m.waits i = true then eL ((m.inp i).queue.takeWhile EV.plain) else []
  | 0 => by simp [Gm.list, drainOuts, pst_nil]
  | k + 1 => by
    rw [m.list_succ]
    have ih := pst_drain m i k
    cases hw : m.waits k
    · rw [if_neg (by simp), List.append_nil, ih]
      by_cases h : i < k ∧ m.waits i = true
      · rw [if_pos h, if_pos ⟨by omega, h.2⟩]
      · rw [if_neg h, if_neg]
        rintro ⟨h1, h2⟩
        refine h ⟨?_, h2⟩
        have : i ≠ k := fun e => by subst e; rw [hw] at h2; cases h2
        omega
    · rw [if_pos rfl, drainOuts_snoc, pst_app, ih]
      by_cases e : i = k
      · subst e
        rw [if_neg (by omega), if_pos ⟨by omega, hw⟩, pst_same, plainL_all fun x hx => List.all_eq_true.1 List.all_takeWhile x hx]
        rfl
      · rw [pst_other (fun h => e h.symm), List.append_nil]
        by_cases h : i < k ∧ m.waits i = true
        · rw [if_pos h, if_pos ⟨by omega, h.2⟩]
        · rw [if_neg h, if_neg]
          rintro ⟨h1, h2⟩
          exact h ⟨by omega, h2⟩

/-- Some elements of an input are looked at just now. -/
def setH (hand : Nat → List Elem) (j : Nat) (l : List Elem) : Nat → List Elem := fun i => if i = j then l else hand i

/-- A gate, what arrived, what is looked at, what passed. -/
structure Good (m : Gm) (ins hand : Nat → List Elem) (outs : List OV) : Prop where
  seen : ∀ i, i < m.n → ∃ s, ins i = s ++ (hand i ++ eL (m.inp i).queue) ∧ plainL s = pst i outs ∧ ((m.inp i).sent = true → 0 < m.under ∧ ∃ p b, s = p ++ [b] ∧ b.k = 3 ∧ b.n = m.under)
  hand : ∀ i, i < m.n → hand i ≠ [] → (m.inp i).sent = false ∧ ((m.inp i).holds = true ∨ (m.inp i).queue = [])
  inc : ∀ i, i < m.n → (ins i).Pairwise fun y z => y.k = 3 → z.k = 3 → y.n < z.n
  cons : ∀ A j x B, outs = A ++ (j, x) :: B → x.1.k = 3 → ∀ i, i < m.n → ∃ p b r, ins i = p ++ b :: r ∧ b.k = 3 ∧ b.n = x.1.n ∧ (∀ y ∈ p, ¬ (y.k = 3 ∧ y.n = x.1.n)) ∧ plainL p = pst i A
  opened : ∀ i, i < m.n → (m.inp i).closed = false
  valid : ∀ i, i < m.n → ∀ y ∈ ins i, validElem y = true
  passed : ∀ o ∈ outs, o.1 < m.n ∧ validElem o.2.1 = true

/-- What passes is plain: what is Consistent stays so. -/
theorem cons_plain {ins : Nat → List Elem} {n : Nat} {outs news : List OV} (h : ∀ A j x B, outs = A ++ (j, x) :: B → x.1.k = 3 → ∀ i, i < n → ∃ p b r, ins i = p ++ b :: r ∧ b.k = 3 ∧ b.n = x.1.n ∧ (∀ y ∈ p, ¬ (y.k = 3 ∧ y.n = x.1.n)) ∧ plainL p = pst i A)
    (hn : ∀ o ∈ news, o.2.1.k ≠ 3) : ∀ A j x B, outs ++ news = A ++ (j, x) :: B → x.1.k = 3 → ∀ i, i < n → ∃ p b r, ins i = p ++ b :: r ∧ b.k = 3 ∧ b.n = x.1.n ∧ (∀ y ∈ p, ¬ (y.k = 3 ∧ y.n = x.1.n)) ∧ plainL p = pst i A := by
  intro A j x B e hk i hi
  rcases List.append_eq_append_iff.1 e with ⟨l, h1, h2⟩ | ⟨l, h1, h2⟩
  · have : (j, x) ∈ news := by rw [h2]; exact List.mem_append_right _ List.mem_cons_self
    exact absurd hk (hn _ this)
  · cases l with
    | nil =>
      have : (j, x) ∈ news := by
        rw [List.nil_append] at h2
        rw [← h2]; exact List.mem_cons_self
      exact absurd hk (hn _ this)
    | cons y l =>
      rw [List.cons_append] at h2
      injection h2 with h3 h4
      subst h3
      exact h A j x l h1 hk i hi

theorem mem_list {m : Gm} {k j : Nat} : j ∈ m.list k ↔ j < k ∧ m.waits j = true := by simp [Gm.list]

theorem drainOuts_plain (m : Gm) (l : List Nat) : ∀ o ∈ drainOuts m l, o.2.plain = true ∧ o.1 ∈ l ∧ o.2 ∈ (m.inp o.1).queue := by
  intro o ho
  obtain ⟨i, hi, h⟩ := List.mem_flatMap.1 ho
  obtain ⟨p, hp, rfl⟩ := List.mem_map.1 h
  exact ⟨List.all_eq_true.1 List.all_takeWhile p hp, hi, (List.takeWhile_prefix _).subset hp⟩

theorem eL_app (a b : List EV) : eL (a ++ b) = eL a ++ eL b := List.map_append

theorem mem_eL {x : EV} {q : List EV} (h : x ∈ q) : x.1 ∈ eL q := List.mem_map_of_mem h

/-- The waiting inputs hand on. -/
theorem Good.drain {m : Gm} {ins hand : Nat → List Elem} {outs : List OV} (h : Good m ins hand outs) (hal : m.al = true) : Good (m.drainTo (m.list m.n)) ins hand (outs ++ drainOuts m (m.list m.n)) := by
  obtain ⟨al, an, au, ad⟩ := m.drainTo_al (m.list m.n)
  have hin := drain_inp m m.n
  have hw : ∀ i, i < m.n → m.waits i = true → (m.inp i).sent = false ∧ hand i = [] := by
    intro i hi hw
    simp only [Gm.waits, Bool.and_eq_true, Bool.not_eq_true', decide_eq_true_eq] at hw
    obtain ⟨⟨w1, w2⟩, w3⟩ := hw
    obtain ⟨s, _, _, h3⟩ := h.seen i hi
    have hs : (m.inp i).sent = false := by
      refine Bool.eq_false_iff.2 fun hs => ?_
      have := (h3 hs).1
      simp [Gm.blocked, hal, this, hs] at w2
    refine ⟨hs, ?_⟩
    by_cases e : hand i = []
    · exact e
    · rcases (h.hand i hi e).2 with hh | hh
      · rw [w1] at hh; cases hh
      · rw [hh] at w3; simp at w3
  have hf : ∀ i, ((m.drainTo (m.list m.n)).inp i).sent = (m.inp i).sent ∧ ((m.drainTo (m.list m.n)).inp i).holds = (m.inp i).holds ∧ ((m.drainTo (m.list m.n)).inp i).closed = (m.inp i).closed := by
    intro i; rw [hin]; split <;> exact ⟨rfl, rfl, rfl⟩
  refine ⟨fun i hi => ?_, fun i hi hh => ?_, fun i hi => h.inc i (an ▸ hi), ?_, fun i hi => ?_, fun i hi => h.valid i (an ▸ hi), fun o ho => ?_⟩
  · rw [an] at hi
    obtain ⟨s, h1, h2, h3⟩ := h.seen i hi
    rw [(hf i).1, au, pst_app, pst_drain, hin]
    by_cases c : i < m.n ∧ m.waits i = true
    · rw [if_pos c, if_pos c]
      obtain ⟨hs, hh⟩ := hw i hi c.2
      refine ⟨s ++ eL ((m.inp i).queue.takeWhile EV.plain), ?_, ?_, fun e => by rw [hs] at e; cases e⟩
      · rw [h1, hh, List.nil_append, List.nil_append, List.append_assoc, Inp.drained, ← eL_app, List.takeWhile_append_dropWhile]
      · rw [plainL_app, h2, plainL_all fun x hx => List.all_eq_true.1 List.all_takeWhile x hx]
    · rw [if_neg c, if_neg c]
      exact ⟨s, h1, by rw [h2, List.append_nil], h3⟩
  · rw [an] at hi
    obtain ⟨a, b⟩ := h.hand i hi hh
    rw [(hf i).1, (hf i).2.1]
    refine ⟨a, b.imp id fun hq => ?_⟩
    rw [hin]; split
    · rw [Inp.drained, hq]; rfl
    · exact hq
  · rw [an]
    exact cons_plain h.cons fun o ho => by simpa [EV.plain] using (drainOuts_plain m _ o ho).1
  · rw [(hf i).2.2]; exact h.opened i (an ▸ hi)
  · rw [an]
    rcases List.mem_append.1 ho with ho | ho
    · exact h.passed o ho
    · obtain ⟨_, h1, h2⟩ := drainOuts_plain m _ o ho
      have hi := (mem_list.1 h1).1
      refine ⟨hi, h.valid o.1 hi _ ?_⟩
      obtain ⟨s, hs, _⟩ := h.seen o.1 hi
      rw [hs]
      exact List.mem_append_right _ (List.mem_append_right _ (mem_eL h2))
end Go.Proofs.Ytdnkfgnjeibjeaa

import Derived.Test.YtdnkfgnjeibjeaaH7
namespace Go.Proofs.Ytdnkfgnjeibjeaa
open Go.RowKit Go.Shelf

/-- A gate between two calls. -/
structure AOk (m : Gm) (ins : Nat → List Elem) (outs : List OV) (c : Nat) : Prop where
  al : m.al = true
  good : Good m ins (fun _ => []) outs
  under : 0 ≤ m.under
  done : 0 ≤ m.done
  holds : ∀ i, i < m.n → (m.inp i).holds = false
  quiet : Quiet m
  last : ∀ i, i < m.n → ∀ y ∈ ins i, y.k = 3 → y.n ≤ (m.inp i).last
  cnt : outs.length + 2 * qsum m m.n ≤ 2 * c

theorem AOk.new {n : Nat} : AOk (Gm.new n true) (fun _ => []) [] 0 := by
  have hq : ∀ k, qsum (Gm.new n true) k = 0 := by
    intro k
    induction k with
    | zero => rfl
    | succ k ih => simp only [qsum, ih]; rfl
  refine ⟨rfl, ⟨fun i hi => ⟨[], rfl, rfl, fun e => by cases e⟩, fun i hi hh => absurd rfl hh, fun i hi => List.Pairwise.nil, fun A j x B e => ?_, fun i hi => rfl, fun i hi y hy => (by cases hy), fun o ho => (by cases ho)⟩, Int.le_refl _, Int.le_refl _, fun i hi => rfl, fun i hi => rfl, fun i hi y hy => (by cases hy), by rw [hq]; simp⟩
  cases A <;> cases e

/-- What arrives is put behind what arrived. -/
theorem inc_snoc {l : List Elem} {x : Elem} (h : l.Pairwise fun y z => y.k = 3 → z.k = 3 → y.n < z.n) (hx : x.k = 3 → ∀ y ∈ l, y.k = 3 → y.n < x.n) : (l ++ [x]).Pairwise fun y z => y.k = 3 → z.k = 3 → y.n < z.n :=
  List.pairwise_append.2 ⟨h, List.pairwise_singleton _ _, fun y hy z hz h1 h2 => by rw [List.mem_singleton] at hz; subst hz; exact hx h2 y hy h1⟩

/-- An element arrives, and is in hand (w = false), or behind the queue (w = true). -/
theorem AOk.comes {m : Gm} {ins : Nat → List Elem} {outs : List OV} {c : Nat} (h : AOk m ins outs c) {i : Nat} (hi : i < m.n) {x : EV} (hv : validElem x.1 = true) (hl : x.1.k = 3 → (m.inp i).last < x.1.n) (L : Int) (w : Bool) (hw : w = m.blocked i) :
    Good (m.upd i { m.inp i with last := L, queue := if w then (m.inp i).queue ++ [x] else (m.inp i).queue }) (setH ins i (ins i ++ [x.1])) (if w then fun _ => [] else setH (fun _ => []) i [x.1]) outs := by
  have g := h.good
  refine ⟨fun j hj => ?_, fun j hj hne => ?_, fun j hj => ?_, fun A j y B e hk l hlt => ?_, fun j hj => ?_, fun j hj y hy => ?_, g.passed⟩
  · obtain ⟨s, h1, h2, h3⟩ := g.seen j hj
    by_cases e : j = i
    · subst e
      rw [setH_same, upd_self]
      refine ⟨s, ?_, h2, h3⟩
      rw [h1]
      cases w
      · have hq : (m.inp j).queue = [] := by
          have := h.quiet j hj
          simp only [Gm.waits, h.holds j hj, ← hw] at this
          simpa using this
        simp [setH_same, hq, eL]
      · simp [eL]
    · rw [setH_ne _ _ e, upd_ne _ _ e]
      refine ⟨s, ?_, h2, h3⟩
      rw [h1]
      cases w
      · simp [setH_ne _ _ e]
      · simp
  · cases w
    · by_cases e : j = i
      · subst e
        rw [upd_self]
        have hq : (m.inp j).queue = [] := by
          have := h.quiet j hj
          simp only [Gm.waits, h.holds j hj, ← hw] at this
          simpa using this
        refine ⟨Bool.eq_false_iff.2 fun hs => ?_, .inr (by simpa using hq)⟩
        obtain ⟨s, _, _, h3⟩ := g.seen j hj
        have := (h3 hs).1
        have hs' : (m.inp j).sent = true := hs
        simp [Gm.blocked, h.al, this, hs'] at hw
      · exact absurd (by simp [setH_ne _ _ e]) hne
    · exact absurd rfl hne
  · by_cases e : j = i
    · subst e
      rw [setH_same]
      exact inc_snoc (g.inc j hj) fun hk y hy hyk => by have := h.last j hj y hy hyk; have := hl hk; omega
    · rw [setH_ne _ _ e]; exact g.inc j hj
  · obtain ⟨p, b, r, h1, h2⟩ := g.cons A j y B e hk l hlt
    by_cases e : l = i
    · subst e
      rw [setH_same]
      exact ⟨p, b, r ++ [x.1], by rw [h1]; simp, h2⟩
    · rw [setH_ne _ _ e]
      exact ⟨p, b, r, h1, h2⟩
  · by_cases e : j = i
    · subst e; rw [upd_self]; exact g.opened j hj
    · rw [upd_ne _ _ e]; exact g.opened j hj
  · by_cases e : j = i
    · subst e
      rw [setH_same] at hy
      rcases List.mem_append.1 hy with hy | hy
      · exact g.valid j hj y hy
      · rw [List.mem_singleton] at hy; subst hy; exact hv
    · rw [setH_ne _ _ e] at hy; exact g.valid j hj y hy

theorem AOk.lasts {m : Gm} {ins : Nat → List Elem} {outs : List OV} {c : Nat} (h : AOk m ins outs c) {i : Nat} {x : Elem} {L : Int} (hL : (m.inp i).last ≤ L) (hx : x.k = 3 → x.n ≤ L) (q : List EV) (j : Nat) (hj : j < m.n) :
    ∀ y ∈ setH ins i (ins i ++ [x]) j, y.k = 3 → y.n ≤ ((m.upd i { m.inp i with last := L, queue := q }).inp j).last := by
  intro y hy hk
  by_cases e : j = i
  · subst e
    rw [upd_self]
    rw [setH_same] at hy
    rcases List.mem_append.1 hy with hy | hy
    · have := h.last j hj y hy hk
      exact Int.le_trans this hL
    · rw [List.mem_singleton] at hy; subst hy; exact hx hk
  · rw [setH_ne _ _ e] at hy
    rw [upd_ne _ _ e]
    exact h.last j hj y hy hk

/-- It waits. -/
theorem AOk.wait {m : Gm} {ins : Nat → List Elem} {outs : List OV} {c : Nat} (h : AOk m ins outs c) {i : Nat} (hi : i < m.n) {x : EV} (hv : validElem x.1 = true) (hl : x.1.k = 3 → (m.inp i).last < x.1.n) (hb : m.blocked i = true) {L : Int} (hL : (m.inp i).last ≤ L) (hx : x.1.k = 3 → x.1.n ≤ L) :
    AOk (m.upd i { m.inp i with last := L, queue := (m.inp i).queue ++ [x] }) (setH ins i (ins i ++ [x.1])) outs (c + 1) := by
  have g := h.comes hi hv hl L true hb.symm
  simp only [if_true] at g
  refine ⟨h.al, g, h.under, h.done, fun j hj => ?_, fun j hj => ?_, h.lasts hL hx _, ?_⟩
  · by_cases e : j = i
    · subst e; rw [upd_self]; exact h.holds j hj
    · rw [upd_ne _ _ e]; exact h.holds j hj
  · have hq := h.quiet j hj
    by_cases e : j = i
    · subst e
      have : (m.upd j { m.inp j with last := L, queue := (m.inp j).queue ++ [x] }).blocked j = true := by rw [← hb]; simp only [Gm.blocked, upd_self]; rfl
      simp [Gm.waits, this]
    · have : (m.upd i { m.inp i with last := L, queue := (m.inp i).queue ++ [x] }).blocked j = m.blocked j := by simp only [Gm.blocked, upd_ne _ _ e]; rfl
      rw [← hq]
      simp only [Gm.waits, this, upd_ne _ _ e]
  · have hc := h.cnt
    have key : ∀ Y : Inp, Y.queue = (m.inp i).queue ++ [x] → outs.length + 2 * qsum (m.upd i Y) m.n ≤ 2 * (c + 1) := fun Y hY => by
      have := qsum_upd m i Y m.n hi
      rw [hY] at this
      simp only [List.length_append, List.length_singleton] at this
      omega
    exact key _ rfl

/-- It is looked at. -/
theorem AOk.look {m : Gm} {ins : Nat → List Elem} {outs : List OV} {c : Nat} (h : AOk m ins outs c) {i : Nat} (hi : i < m.n) {x : EV} (hv : validElem x.1 = true) (hl : x.1.k = 3 → (m.inp i).last < x.1.n) (hb : m.blocked i = false) {L : Int} (hL : (m.inp i).last ≤ L) (hx : x.1.k = 3 → x.1.n ≤ L)
    {m' : Gm} {o : List OV} (hr : Runs (.look i x) (m.upd i { m.inp i with last := L }) m' o) : AOk m' (setH ins i (ins i ++ [x.1])) (outs ++ o) (c + 1) := by
  have g := h.comes hi hv hl L false hb.symm
  simp only [Bool.false_eq_true, if_false] at g
  have hq1 : Quiet (m.upd i { m.inp i with last := L }) := by
    intro j hj
    have hq := h.quiet j hj
    by_cases e : j = i
    · subst e
      rw [← hq]; simp only [Gm.waits, Gm.blocked, upd_self]; rfl
    · rw [← hq]; simp only [Gm.waits, Gm.blocked, upd_ne _ _ e]; rfl
  have hh1 : ∀ j, j < m.n → ((m.upd i { m.inp i with last := L }).inp j).holds = false := by
    intro j hj
    by_cases e : j = i
    · subst e; rw [upd_self]; exact h.holds j hj
    · rw [upd_ne _ _ e]; exact h.holds j hj
  have hn : m'.n = m.n := hr.fix.1
  have g2 := hr.good h.al h.done _ _ _ hi (setH_same _ _ _) g
  have he : setH (setH (fun _ => []) i [x.1]) i [] = fun _ => ([] : List Elem) := by
    funext j
    by_cases e : j = i
    · subst e; rw [setH_same]
    · rw [setH_ne _ _ e, setH_ne _ _ e]
  rw [he] at g2
  obtain ⟨p1, p2⟩ := hr.pos h.under h.done
  refine ⟨hr.fix.2.trans h.al, g2, p1, p2, fun j hj => ?_, hr.quiet hq1, fun j hj y hy hk => ?_, ?_⟩
  · rw [hr.holds j]; exact hh1 j (hn ▸ hj)
  · rw [hr.last j]
    have := h.lasts hL hx (m.inp i).queue j (hn ▸ hj) y hy hk
    exact this
  · have hc := h.cnt
    have hbd := hr.bound
    have hs : qsum (m.upd i { m.inp i with last := L }) m.n = qsum m m.n := qsum_same (m := m) (i := i) (x := { m.inp i with last := L }) rfl m.n
    rw [show (m.upd i { m.inp i with last := L }).n = m.n from rfl, hs] at hbd
    simp only [Job.extra] at hbd
    rw [List.length_append]
    omega

theorem eqVal_refl (v : Val) : eqVal v v = true := by simp [eqVal]
theorem eqRow_refl : ∀ r : List Val, eqRow r r = true
  | [] => rfl
  | v :: r => by rw [eqRow, eqVal_refl, eqRow_refl r]; rfl
theorem sameP_refl (x : Elem) : sameP x x = true := by simp [sameP, eqRow_refl]
theorem samePs_refl : ∀ l : List Elem, samePs l l = true
  | [] => rfl
  | x :: l => by rw [samePs, sameP_refl, samePs_refl l]; rfl

theorem cutAt_mid {k : Int} {p r : List Elem} {b : Elem} (hb : b.k = 3) (hk : b.n = k) (hp : ∀ y ∈ p, ¬ (y.k = 3 ∧ y.n = k)) : cutAt k (p ++ b :: r) = p := by
  unfold cutAt
  rw [List.takeWhile_append_of_pos (fun y hy => by
    have := hp y hy
    cases e1 : (y.k == 3) <;> cases e2 : (y.n == k) <;> simp_all)]
  simp [hb, hk]

theorem outE_app (a b : List OV) : outE (a ++ b) = outE a ++ outE b := List.map_append
theorem outE_len (a : List OV) : (outE a).length = a.length := List.length_map ..

/-- What passed up to a barrier is just what came before it. -/
theorem AOk.consistent {m : Gm} {ins : Nat → List Elem} {outs : List OV} {c : Nat} (h : AOk m ins outs c) (h0 : 0 < m.n) (hn : m.n ≤ 200) {ll : List (List Elem)} (hl : ll.length = m.n) (hi : ∀ i, i < m.n → ll.getD i [] = ins i) {o : Int × Elem} (ho : o ∈ outE outs) (hk : o.2.k = 3) :
    consWith samePs ll o.2.n (outE outs) = true := by
  obtain ⟨o', ho', rfl⟩ := List.mem_map.1 ho
  obtain ⟨oi, x⟩ := o'
  dsimp only at hk ⊢
  have g := h.good
  have hvx := (g.passed _ ho').2
  dsimp only at hvx
  have hk1 : 1 ≤ x.1.n := by
    simp only [validElem, hk] at hvx
    simp [withinB] at hvx
    exact hvx.2.1
  have hmem : ∀ l ∈ ll, ∃ i, i < m.n ∧ ins i = l := by
    intro l hl'
    obtain ⟨i, hi', rfl⟩ := List.mem_iff_getElem.1 hl'
    refine ⟨i, by omega, ?_⟩
    rw [← hi i (by omega)]
    simp [List.getD, List.getElem?_eq_getElem hi']
  have hce : cutErr ll x.1.n = 0 := by
    unfold cutErr
    rw [if_neg, if_neg (by omega)]
    intro hh
    obtain ⟨l, hl', hb⟩ := List.any_eq_true.1 hh
    obtain ⟨e, he, hbe⟩ := List.any_eq_true.1 hb
    obtain ⟨i, hi', rfl⟩ := hmem l hl'
    have := g.valid i hi' e he
    simp [badE, this] at hbe
  rcases outIdx_cases x.1.n (outE outs) with ⟨_, ha⟩ | ⟨e, he, _, hbe, hc⟩
  · have := ha _ ho
    simp [barAt, hk] at this
  · rw [consWith_some hce he hbe hc]
    have heo : e < outs.length := by rwa [outE_len] at he
    have hsp : outs = outs.take e ++ (outs[e].1, outs[e].2) :: outs.drop (e + 1) := by
      rw [List.getElem_cons_drop, List.take_append_drop]
    have hge : (outE outs)[e] = ((outs[e].1 : Int), outs[e].2.1) := List.getElem_map ..
    have hbk : outs[e].2.1.k = 3 ∧ outs[e].2.1.n = x.1.n := by
      rw [hge] at hbe
      simpa [barAt] using hbe
    have htk : (outE outs).take e = outE (outs.take e) := List.map_take.symm
    rw [htk, Bool.and_eq_true]
    constructor
    · rw [List.all_eq_true]
      intro y hy
      obtain ⟨y', hy', rfl⟩ := List.mem_map.1 hy
      obtain ⟨h1, h2⟩ := g.passed y' (List.mem_of_mem_take hy')
      simp only [okOut, h2, Bool.and_true, Bool.and_eq_true, decide_eq_true_eq, hl]
      omega
    · rw [List.all_eq_true]
      intro i hi'
      have hin : i < m.n := by rw [← hl]; exact List.mem_range.1 hi'
      obtain ⟨p, b, r, h1, h2, h3, h4, h5⟩ := g.cons _ _ _ _ hsp hbk.1 i hin
      rw [hbk.2] at h3 h4
      rw [hi i hin, h1, cutAt_mid h2 h3 h4]
      have : plainL (listOf i (outE (outs.take e))) = plainL p := h5.symm
      rw [this]
      exact samePs_refl _
end Go.Proofs.Ytdnkfgnjeibjeaa

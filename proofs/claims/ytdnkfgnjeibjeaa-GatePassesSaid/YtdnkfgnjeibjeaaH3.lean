import Derived.Test.YtdnkfgnjeibjeaaH2
namespace Go.Proofs.Ytdnkfgnjeibjeaa
open Go.RowKit Go.Shelf

/-- What a gate is told to do. -/
inductive Job where
  | look (i : Nat) (x : EV)
  | whole (i : Nat)
  | go

/-- A barrier is taken off a queue, and looked at. -/
def Gm.popd (m : Gm) (j : Nat) (rest : List EV) : Gm := m.upd j { m.inp j with queue := rest, holds := true }

/-- The barrier has been looked at. -/
def Gm.freed (m : Gm) (j : Nat) : Gm := m.upd j { m.inp j with holds := false }

/-- What the gate comes to. -/
inductive Runs : Job → Gm → Gm → List OV → Prop where
  | pass {m : Gm} {i : Nat} {x : EV} (hi : i < m.n) (hp : x.plain = true) : Runs (.look i x) m m [(i, x)]
  | drop {m : Gm} {i : Nat} {x : EV} (hk : x.1.k = 3) (hd : x.1.n ≤ m.done ∨ (0 < m.under ∧ x.1.n < m.under)) : Runs (.look i x) m m []
  | over {m m2 m3 : Gm} {i : Nat} {x : EV} {o1 o2 : List OV} (hk : x.1.k = 3) (hd : m.done < x.1.n) (hu0 : 0 < m.under) (hu : m.under < x.1.n) (h1 : Runs .go m.ends m2 o1) (h2 : Runs (.look i x) m2 m3 o2) : Runs (.look i x) m m3 (o1 ++ o2)
  | same {m m2 : Gm} {i : Nat} {x : EV} {o : List OV} (hi : i < m.n) (hk : x.1.k = 3) (hd : m.done < x.1.n) (hu : x.1.n = m.under) (hu0 : 0 < m.under) (h1 : Runs (.whole i) (m.upd i (m.inp i).send) m2 o) : Runs (.look i x) m m2 o
  | first {m m2 : Gm} {i : Nat} {x : EV} {o : List OV} (hi : i < m.n) (hk : x.1.k = 3) (hd : m.done < x.1.n) (hu0 : m.under = 0) (h1 : Runs (.whole i) (Gm.upd { m with under := x.1.n } i (m.inp i).send) m2 o) : Runs (.look i x) m m2 o
  | none {m : Gm} {i : Nat} (h0 : m.under = 0 ∨ m.anyMiss = true) : Runs (.whole i) m m []
  | whole {m m2 : Gm} {i : Nat} {o : List OV} (hu : m.under ≠ 0) (hm : m.anyMiss = false) (h1 : Runs .go m.ends m2 o) : Runs (.whole i) m m2 ((i, bar m.under) :: o)
  | done {m : Gm} (h : drainNx m (m.list m.n) < 0) : Runs .go m (m.drainTo (m.list m.n)) (drainOuts m (m.list m.n))
  | again {m m3 m5 : Gm} {j : Nat} {x : EV} {rest : List EV} {o2 o3 : List OV} (hj : j < m.n) (hnx : drainNx m (m.list m.n) = j) (hq : ((m.drainTo (m.list m.n)).inp j).queue = x :: rest) (hk : x.1.k = 3)
      (h1 : Runs (.look j x) ((m.drainTo (m.list m.n)).popd j rest) m3 o2) (h2 : Runs .go (m3.freed j) m5 o3) : Runs .go m m5 (drainOuts m (m.list m.n) ++ (o2 ++ o3))

theorem qsum_congr {m m' : Gm} (h : ∀ i, (m'.inp i).queue.length = (m.inp i).queue.length) : ∀ k, qsum m' k = qsum m k
  | 0 => rfl
  | k + 1 => by simp only [qsum, qsum_congr h k, h k]

theorem qsum_upd_ge (m : Gm) (i : Nat) (x : Inp) : ∀ k, k ≤ i → qsum (m.upd i x) k = qsum m k
  | 0, _ => rfl
  | k + 1, h => by
    have ih := qsum_upd_ge m i x k (by omega)
    have e : (m.upd i x).inp k = m.inp k := if_neg (by omega)
    simp only [qsum, ih, e]

theorem qsum_upd (m : Gm) (i : Nat) (x : Inp) : ∀ k, i < k → qsum (m.upd i x) k + (m.inp i).queue.length = qsum m k + x.queue.length
  | 0, h => by omega
  | k + 1, h => by
    by_cases hk : i = k
    · subst hk
      have ih := qsum_upd_ge m i x i (Nat.le_refl _)
      have e : (m.upd i x).inp i = x := if_pos rfl
      simp only [qsum, ih, e]
      omega
    · have ih := qsum_upd m i x k (by omega)
      have e : (m.upd i x).inp k = m.inp k := if_neg (by omega)
      simp only [qsum, e]
      omega

theorem qsum_same {m : Gm} {i : Nat} {x : Inp} (h : x.queue = (m.inp i).queue) (k : Nat) : qsum (m.upd i x) k = qsum m k := qsum_congr (fun j => by
  by_cases e : j = i
  · subst e; rw [show (m.upd j x).inp j = x from if_pos rfl, h]
  · rw [show (m.upd i x).inp j = m.inp j from if_neg e]) k

theorem drain_inp (m : Gm) (k j : Nat) : (m.drainTo (m.list k)).inp j = if j < k ∧ m.waits j = true then (m.inp j).drained else m.inp j := by
  induction k with
  | zero => simp [Gm.list, Gm.drainTo]
  | succ k ih =>
    rw [m.list_succ]
    cases hw : m.waits k
    · rw [if_neg (by simp), List.append_nil, ih]
      by_cases h : j < k ∧ m.waits j = true
      · rw [if_pos h, if_pos ⟨by omega, h.2⟩]
      · rw [if_neg h, if_neg]
        rintro ⟨h1, h2⟩
        refine h ⟨?_, h2⟩
        have : j ≠ k := fun e => by subst e; rw [hw] at h2; cases h2
        omega
    · rw [if_pos rfl, Gm.drainTo_snoc]
      by_cases e : j = k
      · subst e
        rw [m.drainTo_inp _ _ (m.not_mem_list _), if_pos ⟨by omega, hw⟩]
        exact if_pos rfl
      · refine (if_neg e).trans ?_
        rw [ih]
        by_cases h : j < k ∧ m.waits j = true
        · rw [if_pos h, if_pos ⟨by omega, h.2⟩]
        · rw [if_neg h, if_neg]
          rintro ⟨h1, h2⟩
          exact h ⟨by omega, h2⟩

theorem take_drop_len {α : Type} (p : α → Bool) : ∀ l : List α, (l.takeWhile p).length + (l.dropWhile p).length = l.length
  | [] => rfl
  | a :: l => by
    have := take_drop_len p l
    cases h : p a
    · simp [h]
    · simp [h]; omega

theorem drain_sum (m : Gm) : ∀ k, (drainOuts m (m.list k)).length + qsum (m.drainTo (m.list m.n)) k = qsum m k ∨ m.n < k
  | 0 => .inl (by simp [Gm.list, drainOuts, qsum])
  | k + 1 => by
    by_cases hk : m.n < k + 1
    · exact .inr hk
    refine .inl ?_
    have ih := (drain_sum m k).resolve_right (by omega)
    rw [m.list_succ]
    have e := drain_inp m m.n k
    simp only [qsum]
    cases hw : m.waits k <;> rw [hw] at e
    · rw [if_neg (by simp)] at e ⊢
      rw [e, List.append_nil]
      omega
    · rw [if_pos ⟨by omega, rfl⟩] at e
      rw [if_pos rfl, drainOuts_snoc, e]
      have := take_drop_len EV.plain (m.inp k).queue
      simp only [List.length_append, List.length_map, Inp.drained]
      omega

theorem drain_qsum (m : Gm) : (drainOuts m (m.list m.n)).length + qsum (m.drainTo (m.list m.n)) m.n = qsum m m.n := (drain_sum m m.n).resolve_right (by omega)

theorem drainNx_mem {m : Gm} {k : Nat} : 0 ≤ drainNx m (m.list k) → ∃ j : Nat, drainNx m (m.list k) = j ∧ j < k ∧ m.waits j = true ∧ (m.inp j).drained.queue ≠ [] := by
  induction k with
  | zero => intro h; simp [Gm.list, drainNx] at h
  | succ k ih =>
    rw [m.list_succ]
    cases hw : m.waits k
    · rw [if_neg (by simp), List.append_nil]
      intro h
      obtain ⟨j, h1, h2, h3⟩ := ih h
      exact ⟨j, h1, by omega, h3⟩
    · rw [if_pos rfl, drainNx_snoc]
      split
      · rename_i h; exact fun _ => ⟨k, rfl, by omega, hw, h.2⟩
      · intro h
        obtain ⟨j, h1, h2, h3⟩ := ih h
        exact ⟨j, h1, by omega, h3⟩

theorem dropWhile_head {α : Type} {p : α → Bool} {x : α} {rest : List α} : ∀ {l : List α}, l.dropWhile p = x :: rest → p x = false
  | [], h => by cases h
  | a :: l, h => by
    rw [List.dropWhile_cons] at h
    cases hp : p a <;> rw [hp] at h
    · simp at h; rw [← h.1]; exact hp
    · exact dropWhile_head h

theorem popd_qsum {m : Gm} {j : Nat} {x : EV} {rest : List EV} (hj : j < m.n) (hq : (m.inp j).queue = x :: rest) : qsum (m.popd j rest) m.n + 1 = qsum m m.n := by
  have e2 : qsum (m.popd j rest) m.n + (m.inp j).queue.length = qsum m m.n + rest.length := qsum_upd m j { m.inp j with queue := rest, holds := true } m.n hj
  rw [hq] at e2
  simp only [List.length_cons] at e2
  omega

theorem freed_qsum (m : Gm) (j k : Nat) : qsum (m.freed j) k = qsum m k := qsum_same (m := m) (i := j) (x := { m.inp j with holds := false }) rfl k
theorem send_qsum (m : Gm) (i k : Nat) : qsum (m.upd i (m.inp i).send) k = qsum m k := qsum_same (m := m) (i := i) (x := (m.inp i).send) rfl k
theorem first_qsum (m : Gm) (u : Int) (i k : Nat) : qsum (Gm.upd { m with under := u } i (m.inp i).send) k = qsum m k := (qsum_same (m := { m with under := u }) (i := i) (x := (m.inp i).send) rfl k).trans (qsum_congr (m := m) (m' := { m with under := u }) (fun _ => rfl) k)
theorem ends_qsum (m : Gm) (k : Nat) : qsum m.ends k = qsum m k := qsum_congr (m := m) (m' := m.ends) (fun _ => rfl) k

/-- The gate's number of inputs and its kind do not turn. -/
theorem Runs.fix {J : Job} {m m' : Gm} {o : List OV} (h : Runs J m m' o) : m'.n = m.n ∧ m'.al = m.al := by
  induction h with
  | pass | drop | none => exact ⟨rfl, rfl⟩
  | over _ _ _ _ _ _ h1 h2 => exact ⟨h2.1.trans h1.1, h2.2.trans h1.2⟩
  | same _ _ _ _ _ _ h1 => exact h1
  | first _ _ _ _ _ h1 => exact h1
  | whole _ _ _ h1 => exact h1
  | @done m _ => exact ⟨(m.drainTo_al _).2.1, (m.drainTo_al _).1⟩
  | @again m m3 m5 j x rest o2 o3 _ _ _ _ _ _ h1 h2 => exact ⟨h2.1.trans (h1.1.trans (m.drainTo_al _).2.1), h2.2.trans (h1.2.trans (m.drainTo_al _).1)⟩

/-- How much more may pass. -/
def Job.extra : Job → Nat
  | .look _ _ => 2
  | .whole _ => 1
  | .go => 0

theorem Runs.bound {J : Job} {m m' : Gm} {o : List OV} (h : Runs J m m' o) : o.length + 2 * qsum m' m'.n ≤ 2 * qsum m m.n + J.extra := by
  induction h with
  | pass => simp [Job.extra]; omega
  | drop | none => simp
  | @over m m2 m3 i x o1 o2 _ _ _ _ r1 r2 h1 h2 =>
    have e : qsum m.ends m.ends.n = qsum m m.n := qsum_congr (m := m) (m' := m.ends) (fun _ => rfl) m.n
    simp only [Job.extra, List.length_append] at *
    omega
  | @same m m2 i x o _ _ _ _ _ _ h1 =>
    have e : qsum (m.upd i (m.inp i).send) (m.upd i (m.inp i).send).n = qsum m m.n := qsum_same (m := m) (i := i) (x := (m.inp i).send) rfl m.n
    simp only [Job.extra] at *
    omega
  | @first m m2 i x o _ _ _ _ _ h1 =>
    have e : qsum (Gm.upd { m with under := x.1.n } i (m.inp i).send) m.n = qsum m m.n := (qsum_same (m := { m with under := x.1.n }) (i := i) (x := (m.inp i).send) rfl m.n).trans (qsum_congr (m := m) (m' := { m with under := x.1.n }) (fun _ => rfl) m.n)
    have e2 : (Gm.upd { m with under := x.1.n } i (m.inp i).send).n = m.n := rfl
    rw [e2] at h1
    simp only [Job.extra] at *
    omega
  | @whole m m2 i o _ _ _ h1 =>
    have e : qsum m.ends m.ends.n = qsum m m.n := qsum_congr (m := m) (m' := m.ends) (fun _ => rfl) m.n
    simp only [Job.extra, List.length_cons] at *
    omega
  | @done m _ =>
    have := drain_qsum m
    rw [(m.drainTo_al _).2.1]
    simp only [Job.extra]
    omega
  | @again m m3 m5 j x rest o2 o3 hj hnx hq hk r1 r2 h1 h2 =>
    have e1 := drain_qsum m
    have e2 := popd_qsum (m := m.drainTo (m.list m.n)) (by rw [(m.drainTo_al _).2.1]; exact hj) hq
    rw [(m.drainTo_al _).2.1] at e2
    rw [freed_qsum, show (m3.freed j).n = m3.n from rfl] at h2
    rw [show ((m.drainTo (m.list m.n)).popd j rest).n = m.n from (m.drainTo_al _).2.1] at h1
    simp only [Job.extra, List.length_append] at *
    omega

/-- What the code shows of it. -/
def Job.to (D : Nat → Prop) : Job → Gm → Gm → List OV → Prop
  | .look i x, m, m', o => LookTo D i x m m' o
  | .whole i, m, m', o => WholeTo D i m m' o
  | .go, m, m', o => GoesTo D m m' o ∧ F76To D m m' o

theorem Runs.to (D : Nat → Prop) {J : Job} {m m' : Gm} {o : List OV} (h : Runs J m m' o) : m.al = true → qsum m m.n ≤ 1000 → J.to D m m' o := by
  induction h with
  | pass hi hp => exact fun _ _ => f44_pass D _ _ _ hi hp
  | drop hk hd => exact fun _ _ => f44_drop D _ _ _ hk hd
  | @over m m2 m3 i x o1 o2 hk hd hu0 hu r1 r2 h1 h2 =>
    intro hal hq
    have e : qsum m.ends m.ends.n = qsum m m.n := qsum_congr (m := m) (m' := m.ends) (fun _ => rfl) m.n
    have b1 := r1.bound
    have b2 := r2.bound
    simp only [Job.extra] at b1 b2
    exact f44_over D i x m m2 m3 o1 o2 hal hk hd hu0 hu (h1 hal (by omega)).1 (h2 (r1.fix.2.trans hal) (by omega)) (by omega)
  | @same m m2 i x o hi hk hd hu hu0 r1 h1 =>
    intro hal hq
    have e : qsum (m.upd i (m.inp i).send) (m.upd i (m.inp i).send).n = qsum m m.n := qsum_same (m := m) (i := i) (x := (m.inp i).send) rfl m.n
    have b1 := r1.bound
    simp only [Job.extra] at b1
    exact f44_same D i x m m2 o hi hk hd hu hu0 (h1 hal (by omega)) (by omega)
  | @first m m2 i x o hi hk hd hu0 r1 h1 =>
    intro hal hq
    have e : qsum (Gm.upd { m with under := x.1.n } i (m.inp i).send) m.n = qsum m m.n := (qsum_same (m := { m with under := x.1.n }) (i := i) (x := (m.inp i).send) rfl m.n).trans (qsum_congr (m := m) (m' := { m with under := x.1.n }) (fun _ => rfl) m.n)
    have e2 : (Gm.upd { m with under := x.1.n } i (m.inp i).send).n = m.n := rfl
    have b1 := r1.bound
    rw [e2] at b1 h1
    simp only [Job.extra] at b1
    exact f44_first D i x m m2 o hi hal hk hd hu0 (h1 hal (by omega)) (by omega)
  | none h0 => exact fun _ _ => f53_none D _ _ h0
  | @whole m m2 i o hu hm r1 h1 =>
    intro hal hq
    have e : qsum m.ends m.ends.n = qsum m m.n := qsum_congr (m := m) (m' := m.ends) (fun _ => rfl) m.n
    have b1 := r1.bound
    simp only [Job.extra] at b1
    exact f53_whole D i m m2 o hal hu hm (h1 hal (by omega)).1 (by omega)
  | @done m hnx =>
    intro hal hq
    have hF := f76_step D m _ _ (by omega) (.inl ⟨hnx, rfl, rfl⟩)
    exact ⟨f55_goes (m.drainTo_al _).2.1 (by have := drain_qsum m; omega) hF, hF⟩
  | @again m m3 m5 j x rest o2 o3 hj hnx hq0 hk r1 r2 h1 h2 =>
    intro hal hq
    have e1 := drain_qsum m
    have e2 := popd_qsum (m := m.drainTo (m.list m.n)) (by rw [(m.drainTo_al _).2.1]; exact hj) hq0
    rw [(m.drainTo_al _).2.1] at e2
    have b1 := r1.bound
    have b2 := r2.bound
    rw [freed_qsum, show (m3.freed j).n = m3.n from rfl] at b2 h2
    rw [show ((m.drainTo (m.list m.n)).popd j rest).n = m.n from (m.drainTo_al _).2.1] at b1 h1
    simp only [Job.extra] at b1 b2
    have a1 : ((m.drainTo (m.list m.n)).popd j rest).al = true := (m.drainTo_al _).1.trans hal
    have a2 : (m3.freed j).al = true := r1.fix.2.trans a1
    have hF := f76_step D m m5 _ (by omega) (.inr ⟨j, x, rest, m3, o2, o3, hj, hnx, hq0, hk, h1 a1 (by omega), (h2 a2 (by omega)).2, rfl⟩)
    have r := Runs.again hj hnx hq0 hk r1 r2
    have b := r.bound
    simp only [Job.extra] at b
    exact ⟨f55_goes r.fix.1 (by omega) hF, hF⟩

theorem Runs.shrink {J : Job} {m m' : Gm} {o : List OV} (h : Runs J m m' o) : qsum m' m'.n ≤ qsum m m.n := by
  induction h with
  | pass | drop | none => exact Nat.le_refl _
  | @over m m2 m3 i x o1 o2 _ _ _ _ r1 r2 h1 h2 => rw [ends_qsum] at h1; exact Nat.le_trans h2 h1
  | @same m m2 i x o _ _ _ _ _ _ h1 => rw [send_qsum] at h1; exact h1
  | @first m m2 i x o _ _ _ _ _ h1 => rw [first_qsum] at h1; exact h1
  | @whole m m2 i o _ _ _ h1 => rw [ends_qsum] at h1; exact h1
  | @done m _ =>
    have := drain_qsum m
    rw [(m.drainTo_al _).2.1]
    omega
  | @again m m3 m5 j x rest o2 o3 hj hnx hq hk r1 r2 h1 h2 =>
    have e1 := drain_qsum m
    have e2 := popd_qsum (m := m.drainTo (m.list m.n)) (by rw [(m.drainTo_al _).2.1]; exact hj) hq
    rw [freed_qsum] at h2
    rw [(m.drainTo_al _).2.1] at e2
    rw [show ((m.drainTo (m.list m.n)).popd j rest).n = m.n from (m.drainTo_al _).2.1] at h1
    have : (m3.freed j).n = m3.n := rfl
    rw [this] at h2
    omega

theorem Runs.go_under {m m' : Gm} {o : List OV} (h : Runs .go m m' o) : m'.under = m.under ∨ qsum m' m'.n < qsum m m.n := by
  cases h with
  | done h => exact .inl (m.drainTo_al _).2.2.1
  | @again _ m3 _ j x rest o2 o3 hj hnx hq hk r1 r2 =>
    right
    have e1 := drain_qsum m
    have e2 := popd_qsum (m := m.drainTo (m.list m.n)) (by rw [(m.drainTo_al _).2.1]; exact hj) hq
    have h1 := r1.shrink
    have h2 := r2.shrink
    rw [freed_qsum, show (m3.freed j).n = m3.n from rfl] at h2
    rw [(m.drainTo_al _).2.1] at e2
    rw [show ((m.drainTo (m.list m.n)).popd j rest).n = m.n from (m.drainTo_al _).2.1] at h1
    omega

theorem Runs.pos {J : Job} {m m' : Gm} {o : List OV} (h : Runs J m m' o) : 0 ≤ m.under → 0 ≤ m.done → 0 ≤ m'.under ∧ 0 ≤ m'.done := by
  induction h with
  | pass | drop | none => exact fun a b => ⟨a, b⟩
  | @over m m2 m3 i x o1 o2 _ _ _ _ r1 r2 h1 h2 =>
    intro a b
    obtain ⟨c, d⟩ := h1 (Int.le_refl _) (Int.le_trans b (Int.le_max_left _ _))
    exact h2 c d
  | same _ _ _ _ _ _ h1 => exact h1
  | @first m m2 i x o _ _ hd _ _ h1 => intro a b; exact h1 (show 0 ≤ x.1.n by omega) b
  | whole _ _ _ h1 => exact fun a b => h1 (Int.le_refl _) (Int.le_trans b (Int.le_max_left _ _))
  | @done m _ => rw [(m.drainTo_al _).2.2.1, (m.drainTo_al _).2.2.2]; exact fun a b => ⟨a, b⟩
  | @again m m3 m5 j x rest o2 o3 hj hnx hq hk r1 r2 h1 h2 =>
    intro a b
    obtain ⟨c, d⟩ := h1 (by rw [show ((m.drainTo (m.list m.n)).popd j rest).under = m.under from (m.drainTo_al _).2.2.1]; exact a) (by rw [show ((m.drainTo (m.list m.n)).popd j rest).done = m.done from (m.drainTo_al _).2.2.2]; exact b)
    exact h2 c d

/-- The gate always comes to something. -/
theorem runs_all : ∀ (q : Nat) (m : Gm), qsum m m.n = q → 0 ≤ m.under → 0 ≤ m.done → (∃ m' o, Runs .go m m' o) ∧ (∀ i, ∃ m' o, Runs (.whole i) m m' o) ∧ ∀ i x, i < m.n → ∃ m' o, Runs (.look i x) m m' o := by
  intro q
  induction q using Nat.strongRecOn with
  | ind q ih =>
    have hgo : ∀ m : Gm, qsum m m.n = q → 0 ≤ m.under → 0 ≤ m.done → ∃ m' o, Runs .go m m' o := by
      intro m hm p1 p2
      by_cases hn : drainNx m (m.list m.n) < 0
      · exact ⟨_, _, .done hn⟩
      · obtain ⟨j, hj, hlt, hw, hne⟩ := drainNx_mem (m := m) (k := m.n) (by omega)
        have hqe : ((m.drainTo (m.list m.n)).inp j).queue = (m.inp j).queue.dropWhile EV.plain := by rw [drain_inp, if_pos ⟨hlt, hw⟩]; rfl
        obtain ⟨x, rest, hx⟩ : ∃ x rest, ((m.drainTo (m.list m.n)).inp j).queue = x :: rest := by
          rw [hqe]
          cases hl : (m.inp j).queue.dropWhile EV.plain with
          | nil => exact absurd hl hne
          | cons x rest => exact ⟨x, rest, rfl⟩
        have hk : x.1.k = 3 := by
          have := dropWhile_head (hqe ▸ hx)
          simpa [EV.plain] using this
        have e1 := drain_qsum m
        have en : ((m.drainTo (m.list m.n)).popd j rest).n = m.n := (m.drainTo_al _).2.1
        have e2 := popd_qsum (m := m.drainTo (m.list m.n)) (by rw [(m.drainTo_al _).2.1]; exact hlt) hx
        rw [(m.drainTo_al _).2.1] at e2
        have l1 : qsum ((m.drainTo (m.list m.n)).popd j rest) ((m.drainTo (m.list m.n)).popd j rest).n < q := by rw [en]; omega
        have p3 : 0 ≤ ((m.drainTo (m.list m.n)).popd j rest).under := by rw [show ((m.drainTo (m.list m.n)).popd j rest).under = m.under from (m.drainTo_al _).2.2.1]; exact p1
        have p4 : 0 ≤ ((m.drainTo (m.list m.n)).popd j rest).done := by rw [show ((m.drainTo (m.list m.n)).popd j rest).done = m.done from (m.drainTo_al _).2.2.2]; exact p2
        obtain ⟨m3, o2, r1⟩ := (ih _ l1 _ rfl p3 p4).2.2 j x (by rw [en]; exact hlt)
        obtain ⟨p5, p6⟩ := r1.pos p3 p4
        have l2 : qsum (m3.freed j) (m3.freed j).n < q := by
          rw [freed_qsum]
          exact Nat.lt_of_le_of_lt r1.shrink l1
        obtain ⟨m5, o3, r2⟩ := (ih _ l2 _ rfl p5 p6).1
        exact ⟨_, _, .again hlt hj hx hk r1 r2⟩
    have hwh : ∀ (m : Gm) (i : Nat), qsum m m.n = q → 0 ≤ m.under → 0 ≤ m.done → ∃ m' o, Runs (.whole i) m m' o := by
      intro m i hm p1 p2
      by_cases h0 : m.under = 0 ∨ m.anyMiss = true
      · exact ⟨_, _, .none h0⟩
      · obtain ⟨m', o, r⟩ := hgo m.ends (by rw [ends_qsum]; exact hm) (Int.le_refl _) (Int.le_trans p2 (Int.le_max_left _ _))
        exact ⟨_, _, .whole (fun e => h0 (.inl e)) (Bool.eq_false_iff.2 fun h => h0 (.inr h)) r⟩
    have hlk0 : ∀ (m : Gm) (i : Nat) (x : EV), i < m.n → qsum m m.n = q → 0 ≤ m.under → 0 ≤ m.done → m.under = 0 ∨ x.1.k ≠ 3 ∨ x.1.n ≤ m.under → ∃ m' o, Runs (.look i x) m m' o := by
      intro m i x hi hm p1 p2 hc
      by_cases hk : x.1.k = 3
      · by_cases hd : x.1.n ≤ m.done ∨ (0 < m.under ∧ x.1.n < m.under)
        · exact ⟨_, _, .drop hk hd⟩
        · by_cases hu : m.under = 0
          · obtain ⟨m', o, r⟩ := hwh (Gm.upd { m with under := x.1.n } i (m.inp i).send) i ((first_qsum m x.1.n i m.n).trans hm) (show 0 ≤ x.1.n by omega) p2
            exact ⟨_, _, .first hi hk (by omega) hu r⟩
          · obtain ⟨m', o, r⟩ := hwh (m.upd i (m.inp i).send) i ((send_qsum m i m.n).trans hm) p1 p2
            exact ⟨_, _, .same hi hk (by omega) (by omega) (by omega) r⟩
      · exact ⟨_, _, .pass hi (by simpa [EV.plain] using hk)⟩
    intro m hm p1 p2
    refine ⟨hgo m hm p1 p2, fun i => hwh m i hm p1 p2, fun i x hi => ?_⟩
    by_cases hc : m.under = 0 ∨ x.1.k ≠ 3 ∨ x.1.n ≤ m.under
    · exact hlk0 m i x hi hm p1 p2 hc
    · simp only [not_or, Decidable.not_not] at hc
      obtain ⟨c1, c2, c3⟩ := hc
      by_cases hd : x.1.n ≤ m.done
      · exact ⟨_, _, .drop c2 (.inl hd)⟩
      have p4 : 0 ≤ m.ends.done := Int.le_trans p2 (Int.le_max_left _ _)
      obtain ⟨m2, o1, r1⟩ := hgo m.ends ((ends_qsum m m.n).trans hm) (Int.le_refl _) p4
      obtain ⟨p5, p6⟩ := r1.pos (Int.le_refl _) p4
      have hi2 : i < m2.n := by rw [r1.fix.1]; exact hi
      have hsh := r1.shrink
      rw [ends_qsum] at hsh
      have hsh' : qsum m2 m2.n ≤ q := Nat.le_trans hsh (Nat.le_of_eq hm)
      have h2 : ∃ m3 o2, Runs (.look i x) m2 m3 o2 := by
        rcases Nat.lt_or_eq_of_le hsh' with hlt | heq
        · exact (ih _ hlt _ rfl p5 p6).2.2 i x hi2
        · refine hlk0 m2 i x hi2 heq p5 p6 (.inl ?_)
          rcases r1.go_under with h | h
          · exact h
          · rw [ends_qsum] at h
            exact absurd (show qsum m2 m2.n < qsum m m.n from h) (by omega)
      obtain ⟨m3, o2, r2⟩ := h2
      exact ⟨_, _, .over c2 (by omega) (by omega) (by omega) r1 r2⟩

end Go.Proofs.Ytdnkfgnjeibjeaa

import Derived.Test.YtdnkfgnjeibjeaaC14
import Derived.Test.YtdnkfgnjeibjeaaMF
namespace Go.Proofs.Ytdnkfgnjeibjeaa
open Go.RowKit

theorem cmpVal_eq {a b : Val} (ha : validValue a = true) (hb : validValue b = true) : (cmpVal a b == 0) = eqVal a b := by
  obtain ⟨ak, an, sa⟩ := a
  obtain ⟨bk, bn, sb⟩ := b
  have key : ∀ v : Val, validValue v = true → (v.k = 0 ∧ v.n = 0 ∧ v.s.toList = []) ∨ (v.k = 1 ∧ v.s.toList = []) ∨ (v.k = 2 ∧ v.n = 0) := by
    intro v hv
    unfold validValue at hv
    split at hv
    · rename_i h; simp at h hv; exact .inl ⟨h, hv.1, hv.2⟩
    · split at hv
      · rename_i h; simp at h hv; exact .inr (.inl ⟨h, hv.2⟩)
      · split at hv
        · rename_i h; simp at h hv; exact .inr (.inr ⟨h, hv.1⟩)
        · cases hv
  have hA := key _ ha
  have hB := key _ hb
  dsimp only at hA hB
  have hs : ∀ x y : List UInt8, (Op.bytesLess x y = false ∧ (x == y) = true) ↔ x = y := by
    intro x y
    constructor
    · rintro ⟨_, h⟩; simpa using h
    · rintro rfl; exact ⟨bytesLess_self x, by simp⟩
  rcases hA with ⟨rfl, rfl, h1⟩ | ⟨rfl, h1⟩ | ⟨rfl, rfl⟩ <;> rcases hB with ⟨rfl, rfl, h2⟩ | ⟨rfl, h2⟩ | ⟨rfl, rfl⟩
  · simp [cmpVal, cls, eqVal, h1, h2]
  · simp [cmpVal, cls, eqVal]
  · simp [cmpVal, cls, eqVal]
  · simp [cmpVal, cls, eqVal]
  · simp only [cmpVal, cls, eqVal, h1, h2]
    rcases Int.lt_trichotomy an bn with h | h | h
    · have : ¬ an = bn := by omega
      simp [h, this]
    · subst h; simp
    · have h3 : ¬ an < bn := by omega
      have h4 : ¬ an = bn := by omega
      simp [h, h3, h4]
  · simp [cmpVal, cls, eqVal]
  · simp [cmpVal, cls, eqVal]
  · simp [cmpVal, cls, eqVal]
  · simp only [cmpVal, cls, eqVal]
    by_cases he : sa.toList = sb.toList
    · have hl : Op.bytesLess sa.toList sb.toList = false := by rw [he]; exact bytesLess_self _
      simp [he, bytesLess_self]
    · cases hl : Op.bytesLess sa.toList sb.toList <;> simp [he]

theorem cmpRow_eq {a b : List Val} (ha : ∀ v ∈ a, validValue v = true) (hb : ∀ v ∈ b, validValue v = true) : (cmpRow a b == 0 && a.length == b.length) = eqRow a b := by
  induction a generalizing b with
  | nil => cases b with | nil => rfl | cons y ys => simp [cmpRow, eqRow]
  | cons x xs ih =>
    cases b with
    | nil => simp [cmpRow, eqRow]
    | cons y ys =>
      have h1 := cmpVal_eq (ha x (List.mem_cons_self)) (hb y (List.mem_cons_self))
      have h2 := ih (fun v hv => ha v (List.mem_cons_of_mem _ hv)) (b := ys) (fun v hv => hb v (List.mem_cons_of_mem _ hv))
      simp only [cmpRow, eqRow, List.length_cons]
      rw [← h1, ← h2]
      cases hc : (cmpVal x y == 0)
      · have : (cmpVal x y != 0) = true := by simp [bne, hc]
        rw [if_pos this, hc]; simp
      · have : (cmpVal x y != 0) = false := by simp [bne, hc]
        rw [if_neg (by rw [this]; decide)]
        simp

theorem valid_row {e : Elem} (h : validElem e = true) : ∀ v ∈ e.row, validValue v = true := by
  have key : bareElem e = true → ∀ v ∈ e.row, validValue v = true := by
    intro hb v hv
    simp only [bareElem, Bool.and_eq_true, beq_iff_eq] at hb
    have : e.row = [] := List.eq_nil_of_length_eq_zero hb.1.2
    rw [this] at hv; cases hv
  unfold validElem at h
  split at h
  · simp only [Bool.and_eq_true, validChange, validRow] at h
    exact List.all_eq_true.1 h.2.1.2.2
  · split at h
    · rw [Bool.and_eq_true] at h; exact key h.1
    · split at h
      · rw [Bool.and_eq_true] at h; exact key h.1
      · cases h

theorem sameP_eq {x y : Elem} (hx : validElem x = true) (hy : validElem y = true) : sameP x y = sameElem x y := by
  simp only [sameP, sameElem]
  rw [← cmpRow_eq (valid_row hx) (valid_row hy)]
  simp only [Bool.and_assoc]

theorem samePs_eq {a b : List Elem} (ha : ∀ x ∈ a, validElem x = true) (hb : ∀ x ∈ b, validElem x = true) : samePs a b = sameElems a b := by
  induction a generalizing b with
  | nil => cases b <;> rfl
  | cons x xs ih =>
    cases b with
    | nil => rfl
    | cons y ys => rw [samePs, sameElems, sameP_eq (ha x (List.mem_cons_self)) (hb y (List.mem_cons_self)), ih (fun v hv => ha v (List.mem_cons_of_mem _ hv)) (fun v hv => hb v (List.mem_cons_of_mem _ hv))]

/-- Both ways to compare say the same. -/
theorem cons_eq (ll : List (List Elem)) (k : Int) (l : List (Int × Elem)) : consWith samePs ll k l = consWith sameElems ll k l := by
  by_cases h0 : cutErr ll k = 0
  · rcases outIdx_cases k l with ⟨_, ha⟩ | ⟨e, he, _, hbe, hc⟩
    · rw [consWith_none ha, consWith_none ha]
    · rw [consWith_some h0 he hbe hc, consWith_some h0 he hbe hc]
      cases hok : (l.take e).all (okOut ll.length)
      · rfl
      · rw [Bool.true_and, Bool.true_and]
        have hv : ∀ x ∈ ll, x.any badE = false := (cutErr_zero h0).2.2.2
        refine congrArg (fun f => (List.range ll.length).all f) (funext fun i => ?_)
        apply samePs_eq
        · intro x hx
          have h1 := (List.mem_filter.1 hx).1
          unfold listOf at h1
          obtain ⟨o, ho, rfl⟩ := List.mem_map.1 h1
          have := List.all_eq_true.1 hok o (List.mem_filter.1 ho).1
          simp only [okOut, Bool.and_eq_true] at this
          exact this.2
        · intro x hx
          have h1 := (List.mem_filter.1 hx).1
          have h2 : x ∈ ll.getD i [] := by
            unfold cutAt at h1
            exact (List.takeWhile_sublist _).subset h1
          rcases Nat.lt_or_ge i ll.length with hi | hi
          · rw [List.getD_eq_getElem?_getD, List.getElem?_eq_getElem hi] at h2
            have h3 := hv _ (List.getElem_mem hi)
            rw [List.any_eq_false] at h3
            have := h3 x h2
            simpa [badE] using this
          · rw [List.getD_eq_getElem?_getD, List.getElem?_eq_none hi] at h2
            cases h2
  · rw [consWith_err h0, consWith_err h0]

theorem sameElems_self (l : List Elem) : sameElems l l = true := by
  induction l with
  | nil => rfl
  | cons x xs ih => rw [sameElems, sameElem_self, ih]; rfl

end Go.Proofs.Ytdnkfgnjeibjeaa

import Derived.Test.YtdnkfgnjeibjeaaR1
namespace Go.Proofs.Ytdnkfgnjeibjeaa
open Go.RowKit Go.Shelf

theorem count_set {l : List Bool} {i : Nat} (h : l[i]? = some false) : ((l.set i true).filter (! ·)).length + 1 = (l.filter (! ·)).length := by
  induction l generalizing i with
  | nil => simp at h
  | cons b l ih =>
    cases i with
    | zero =>
      simp only [List.getElem?_cons_zero, Option.some.injEq] at h
      subst h
      simp
    | succ i =>
      simp only [List.getElem?_cons_succ] at h
      have := ih h
      cases b <;> simp [List.set_cons_succ] <;> omega

/-- What has been carried out holds what it waited for. -/
def Closed (md : Region.Mode) (ops : Array Oper) (listed : Array Bool) : Prop :=
  ∀ j o, ops[j]? = some o → listed.getD j false = true → ∀ e ∈ o.after, Region.binds md e = true → listed.getD e.on false = true

theorem getD_set_true {listed : Array Bool} {i j : Nat} (h : listed.getD j false = true) : (listed.setIfInBounds i true).getD j false = true := by
  by_cases e : i = j
  · subst e
    rcases Nat.lt_or_ge i listed.size with h' | h'
    · simp [h']
    · simp [Array.getElem?_eq_none h'] at h
  · simpa [Array.getElem?_setIfInBounds, e] using h

theorem Closed.step {md : Region.Mode} {ops : Array Oper} {listed : Array Bool} {i : Nat} {o : Oper} (h : Closed md ops listed) (ho : ops[i]? = some o) (hd : ∀ e ∈ o.after, Region.binds md e = true → listed.getD e.on false = true) : Closed md ops (listed.setIfInBounds i true) := by
  intro j oj hj hl e he hb
  by_cases c : i = j
  · subst c
    rw [ho] at hj
    injection hj with hj
    subst hj
    exact getD_set_true (hd e he hb)
  · refine getD_set_true (h j oj hj ?_ e he hb)
    simpa [Array.getElem?_setIfInBounds, c] using hl

/-- A region that draws its order: one invariant for whatever has been carried out. -/
theorem wpAnyIn_inv {F : Fence} {n : Nat} {P : Program} {md : Region.Mode} {ops : Array Oper} {Q : Exit → Act → World → Prop} (St : Array Bool → Act → World → Prop)
    (hstep : ∀ listed a w i o, St listed a w → Closed md ops listed → ops[i]? = some o → listed.getD i true = false → (∀ e ∈ o.after, Region.binds md e = true → listed.getD e.on false = true) →
      wpOpIn F n P ops Q i (fun a' w' => St (listed.setIfInBounds i true) a' w') a w)
    (hend : ∀ listed a w, St listed a w → Region.ready md ops listed = [] → Q .normal a w) :
    ∀ (fuel : Nat) (listed : Array Bool) (a : Act) (w : World), St listed a w → Closed md ops listed → (listed.toList.filter (! ·)).length ≤ fuel → wpAnyIn F n P md ops Q fuel listed a w := by
  intro fuel
  induction fuel with
  | zero =>
    intro listed a w hs _ hc
    have hr : Region.ready md ops listed = [] := by
      cases hr : Region.ready md ops listed with
      | nil => rfl
      | cons j js =>
        exfalso
        have hj : j ∈ Region.ready md ops listed := by rw [hr]; exact List.mem_cons_self
        have h0 := (mem_ready.1 hj).1
        have hx : listed.toList[j]? = some false := by
          rcases Nat.lt_or_ge j listed.size with h' | h'
          · simp [h'] at h0 ⊢; exact h0
          · simp [Array.getElem?_eq_none h'] at h0
        have := count_set hx
        omega
    exact ⟨hr, hend _ _ _ hs hr⟩
  | succ fuel ih =>
    intro listed a w hs hcl hc
    refine ⟨fun hr => hend _ _ _ hs hr, fun i hi => ?_⟩
    obtain ⟨h0, o, ho, hd⟩ := mem_ready.1 hi
    refine wpOpIn_mono (fun a' w' hs' => ih _ a' w' hs' (hcl.step ho hd) ?_) (hstep _ _ _ _ _ hs hcl ho h0 hd)
    have hx : listed.toList[i]? = some false := by
      rcases Nat.lt_or_ge i listed.size with h' | h'
      · simp [h'] at h0 ⊢; exact h0
      · simp [Array.getElem?_eq_none h'] at h0
    have := count_set hx
    rw [Array.toList_setIfInBounds]
    omega

/-- The frame while slots d, d + 1, .. are filled in whatever order. -/
def fillT (base : Array Value) (d k : Nat) (val : Nat → Value) (listed : Array Bool) : Array Value :=
  base.mapIdx fun s v => if d ≤ s ∧ s < d + k ∧ listed.getD (s - d) false = true then val (s - d) else v

theorem fillT_size (base : Array Value) (d k : Nat) (val : Nat → Value) (listed : Array Bool) : (fillT base d k val listed).size = base.size := by simp [fillT]

theorem fillT_old {base : Array Value} {d k : Nat} {val : Nat → Value} {listed : Array Bool} {s : Nat} (h : s < d ∨ d + k ≤ s) : (fillT base d k val listed)[s]? = base[s]? := by
  simp only [fillT, Array.getElem?_mapIdx]
  cases base[s]? with
  | none => rfl
  | some v => simp only [Option.map_some]; rw [if_neg (by omega)]

theorem fillT_new {base : Array Value} {d k : Nat} {val : Nat → Value} {listed : Array Bool} {i : Nat} (h : i < k) (hs : d + k ≤ base.size) (hl : listed.getD i false = true) : (fillT base d k val listed)[d + i]? = some (val i) := by
  simp only [fillT, Array.getElem?_mapIdx]
  have : base[d + i]? = some (base[d + i]'(by omega)) := Array.getElem?_eq_getElem (by omega)
  rw [this]
  simp only [Option.map_some]
  have e : d + i - d = i := by omega
  rw [if_pos ⟨by omega, by omega, by rw [e]; exact hl⟩, e]

theorem fillT_put {base : Array Value} {d k : Nat} {val : Nat → Value} {listed : Array Bool} {i : Nat} (h : i < k) (hk : k ≤ listed.size) (hs : d + k ≤ base.size) :
    (fillT base d k val listed).setIfInBounds (d + i) (val i) = fillT base d k val (listed.setIfInBounds i true) := by
  apply Array.ext_getElem?
  intro s
  rw [Array.getElem?_setIfInBounds]
  by_cases e : d + i = s
  · subst e
    rw [if_pos rfl, if_pos (by rw [fillT_size]; omega)]
    rw [fillT_new h hs (by simp; omega)]
  · rw [if_neg e]
    simp only [fillT, Array.getElem?_mapIdx]
    cases base[s]? with
    | none => rfl
    | some v =>
      simp only [Option.map_some]
      by_cases hh : d ≤ s ∧ s < d + k
      · have e2 : i ≠ s - d := by omega
        have e3 : (listed.setIfInBounds i true).getD (s - d) false = listed.getD (s - d) false := by
          simp [e2]
        rw [e3]
      · rw [if_neg (by omega), if_neg (by omega)]

/-- Another value in a slot that is not filled yet. -/
theorem fillT_congr {base : Array Value} {d k : Nat} {val val' : Nat → Value} {listed : Array Bool} (h : ∀ i, i < k → listed.getD i false = true → val i = val' i) : fillT base d k val listed = fillT base d k val' listed := by
  apply Array.ext_getElem?
  intro s
  simp only [fillT, Array.getElem?_mapIdx]
  cases base[s]? with
  | none => rfl
  | some v =>
    simp only [Option.map_some]
    by_cases hh : d ≤ s ∧ s < d + k ∧ listed.getD (s - d) false = true
    · rw [if_pos hh, if_pos hh, h (s - d) (by omega) hh.2.2]
    · rw [if_neg hh, if_neg hh]

end Go.Proofs.Ytdnkfgnjeibjeaa

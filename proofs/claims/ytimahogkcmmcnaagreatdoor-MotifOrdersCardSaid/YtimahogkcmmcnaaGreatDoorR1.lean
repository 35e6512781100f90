/-
  Regions that draw their order: some rules to walk them. No conditions beyond what each rule names: each holds of every program that has orders mixed.
-/
import Derived.Orders
import Derived.Still
import Derived.Deep.Draws
import Derived.Deep.Quiet
import Derived.WalkKit
import Derived.StillTail
set_option linter.unusedSimpArgs false
set_option linter.unusedVariables false
namespace Go.Proofs.YtimahogkcmmcnaaGreatDoor
open Go.RowKit
theorem count_set {l : List Bool} {i : Nat} (h : l[i]? = some false) : ((l.set i true).filter (! ·)).length + 1 = (l.filter (! ·)).length := by
  induction l generalizing i with
  | nil => simp at h
  | cons b l ih =>
    cases i with
    | zero =>
      simp only [List.getElem?_cons_zero, Option.some.injEq] at h
      subst h
      simp
    | succ i =>
      simp only [List.getElem?_cons_succ] at h
      have := ih h
      cases b <;> simp [List.set_cons_succ] <;> omega

/-- What has been carried out holds what it waited for. -/
def Closed (md : Region.Mode) (ops : Array Oper) (listed : Array Bool) : Prop :=
  ∀ j o, ops[j]? = some o → listed.getD j false = true → ∀ e ∈ o.after, Region.binds md e = true → listed.getD e.on false = true

theorem getD_set_true {listed : Array Bool} {i j : Nat} (h : listed.getD j false = true) : (listed.setIfInBounds i true).getD j false = true := by
  by_cases e : i = j
  · subst e
    rcases Nat.lt_or_ge i listed.size with h' | h'
    · simp [h']
    · simp [Array.getElem?_eq_none h'] at h
  · simpa [Array.getElem?_setIfInBounds, e] using h

theorem Closed.step {md : Region.Mode} {ops : Array Oper} {listed : Array Bool} {i : Nat} {o : Oper} (h : Closed md ops listed) (ho : ops[i]? = some o) (hd : ∀ e ∈ o.after, Region.binds md e = true → listed.getD e.on false = true) : Closed md ops (listed.setIfInBounds i true) := by
  intro j oj hj hl e he hb
  by_cases c : i = j
  · subst c
    rw [ho] at hj
    injection hj with hj
    subst hj
    exact getD_set_true (hd e he hb)
  · refine getD_set_true (h j oj hj ?_ e he hb)
    simpa [Array.getElem?_setIfInBounds, c] using hl

end Go.Proofs.YtimahogkcmmcnaaGreatDoor
namespace Go.Proofs.YtimahogkcmmcnaaGreatDoor
open Go.RowKit

/-- A region that draws its order: one invariant for whatever has been carried out. -/
theorem wpAny_inv {P : Program} {md : Region.Mode} {ops : Array Oper} {Q : Exit → Act → World → Prop} (St : Array Bool → Act → World → Prop)
    (hstep : ∀ listed a w i o, St listed a w → Closed md ops listed → ops[i]? = some o → listed.getD i true = false → (∀ e ∈ o.after, Region.binds md e = true → listed.getD e.on false = true) →
      wpOp P ops Q i (fun a' w' => St (listed.setIfInBounds i true) a' w') a w)
    (hend : ∀ listed a w, St listed a w → Region.ready md ops listed = [] → Q .normal a w) :
    ∀ (fuel : Nat) (listed : Array Bool) (a : Act) (w : World), St listed a w → Closed md ops listed → (listed.toList.filter (! ·)).length ≤ fuel → wpAny P md ops Q fuel listed a w := by
  intro fuel
  induction fuel with
  | zero =>
    intro listed a w hs _ hc
    have hr : Region.ready md ops listed = [] := by
      cases hr : Region.ready md ops listed with
      | nil => rfl
      | cons j js =>
        exfalso
        have hj : j ∈ Region.ready md ops listed := by rw [hr]; exact List.mem_cons_self
        have h0 := (mem_ready.1 hj).1
        have hx : listed.toList[j]? = some false := by
          rcases Nat.lt_or_ge j listed.size with h' | h'
          · simp [h'] at h0 ⊢; exact h0
          · simp [Array.getElem?_eq_none h'] at h0
        have := count_set hx
        omega
    exact ⟨hr, hend _ _ _ hs hr⟩
  | succ fuel ih =>
    intro listed a w hs hcl hc
    refine ⟨fun hr => hend _ _ _ hs hr, fun i hi => ?_⟩
    obtain ⟨h0, o, ho, hd⟩ := mem_ready.1 hi
    refine wpOp_mono (fun a' w' hs' => ih _ a' w' hs' (hcl.step ho hd) ?_) (hstep _ _ _ _ _ hs hcl ho h0 hd)
    have hx : listed.toList[i]? = some false := by
      rcases Nat.lt_or_ge i listed.size with h' | h'
      · simp [h'] at h0 ⊢; exact h0
      · simp [Array.getElem?_eq_none h'] at h0
    have := count_set hx
    rw [Array.toList_setIfInBounds]
    omega

end Go.Proofs.YtimahogkcmmcnaaGreatDoor

namespace Go.Proofs.YtimahogkcmmcnaaGreatDoor
open Go.RowKit

/-- A region with one operation n that may do anything: what stands ahead of it in the text n waits for, what stands behind it waits for n. -/
def midB (ops : Array Oper) (n : Nat) : Bool :=
  Region.noSelect ops && decide (n < ops.size) &&
  (List.range ops.size).all fun i =>
    match ops[i]? with
    | none => false
    | some o => o.guard.isNone && (o.after.all fun e => !Region.binds .any e || decide (e.on < i)) &&
      ((List.range ops.size).all fun j =>
        match ops[j]? with
        | none => false
        | some oj =>
          match oj.dst with
          | none => true
          | some d => (!(o.looksAt ops).contains d || (decide (j < i) && Region.waitsFor .any ops i j)) && (decide (i = j) || o.dst != some d)) &&
      (decide (n ≤ i) || (List.range (n + 1)).any fun j => decide (i < j) && Region.waitsFor .any ops j i) &&
      (decide (i ≤ n) || (List.range i).any fun j => decide (n ≤ j) && Region.waitsFor .any ops i j)

structure Mid (ops : Array Oper) (n : Nat) : Prop where
  sel : Region.noSelect ops = true
  lt : n < ops.size
  grd : ∀ {i : Nat} {o : Oper}, ops[i]? = some o → o.guard = none
  low : ∀ {i : Nat} {o : Oper}, ops[i]? = some o → ∀ e ∈ o.after, Region.binds .any e = true → e.on < i
  look : ∀ {i j : Nat} {o oj : Oper} {d : Tmp}, ops[i]? = some o → ops[j]? = some oj → oj.dst = some d → d ∈ o.looksAt ops → j < i ∧ Region.waitsFor .any ops i j = true
  dist : ∀ {i j : Nat} {o oj : Oper} {d : Tmp}, ops[i]? = some o → ops[j]? = some oj → i ≠ j → oj.dst = some d → o.dst ≠ some d
  sink : ∀ {i : Nat}, i < n → ∃ j, i < j ∧ j ≤ n ∧ Region.waitsFor .any ops j i = true
  hang : ∀ {i : Nat}, n < i → i < ops.size → ∃ j, n ≤ j ∧ j < i ∧ Region.waitsFor .any ops i j = true

theorem mid_of {ops : Array Oper} {n : Nat} (h : midB ops n = true) : Mid ops n := by
  unfold midB at h
  simp only [Bool.and_eq_true, decide_eq_true_eq, List.all_eq_true, List.mem_range] at h
  obtain ⟨⟨h1, h2⟩, h3⟩ := h
  have key : ∀ {i : Nat} {o : Oper}, ops[i]? = some o → ((((o.guard.isNone = true ∧ (o.after.all fun e => !Region.binds .any e || decide (e.on < i)) = true) ∧
      ∀ j, j < ops.size → (match ops[j]? with | none => false | some oj => match oj.dst with | none => true | some d => (!(o.looksAt ops).contains d || (decide (j < i) && Region.waitsFor .any ops i j)) && (decide (i = j) || o.dst != some d)) = true) ∧
      (decide (n ≤ i) || (List.range (n + 1)).any fun j => decide (i < j) && Region.waitsFor .any ops j i) = true) ∧
      (decide (i ≤ n) || (List.range i).any fun j => decide (n ≤ j) && Region.waitsFor .any ops i j) = true) := by
    intro i o ho
    have hi : i < ops.size := (Array.getElem?_eq_some_iff.1 ho).1
    have := h3 i hi
    rw [ho] at this
    simpa only [Bool.and_eq_true, List.all_eq_true, List.mem_range] using this
  have two : ∀ {i j : Nat} {o oj : Oper} {d : Tmp}, ops[i]? = some o → ops[j]? = some oj → oj.dst = some d → ((!(o.looksAt ops).contains d || (decide (j < i) && Region.waitsFor .any ops i j)) && (decide (i = j) || o.dst != some d)) = true := by
    intro i j o oj d ho hj hd
    have := (key ho).1.1.2 j (Array.getElem?_eq_some_iff.1 hj).1
    rw [hj] at this
    simpa only [hd] using this
  refine ⟨h1, h2, fun ho => ?_, fun ho e he hb => ?_, fun ho hj hd hl => ?_, fun ho hj hij hd => ?_, fun {i} hi => ?_, fun {i} hi hs => ?_⟩
  · have := (key ho).1.1.1.1
    simpa using this
  · have h4 := (key ho).1.1.1.2
    rw [Array.all_eq_true'] at h4
    have := h4 e he
    rw [hb] at this
    simpa using this
  · have := two ho hj hd
    simp only [Bool.and_eq_true, Bool.or_eq_true, decide_eq_true_eq] at this
    rcases this.1 with h | h
    · exfalso
      rw [List.contains_iff_mem.2 hl] at h
      cases h
    · exact h
  · have := two ho hj hd
    simp only [Bool.and_eq_true, Bool.or_eq_true, decide_eq_true_eq] at this
    rcases this.2 with h | h
    · exact absurd h hij
    · simpa using h
  · obtain ⟨o, ho⟩ : ∃ o, ops[i]? = some o := ⟨_, Array.getElem?_eq_getElem (by omega)⟩
    have := (key ho).1.2
    simp only [Bool.or_eq_true, decide_eq_true_eq, List.any_eq_true, List.mem_range, Bool.and_eq_true] at this
    rcases this with h | ⟨j, hj, h4, h5⟩
    · omega
    · exact ⟨j, h4, by omega, h5⟩
  · obtain ⟨o, ho⟩ : ∃ o, ops[i]? = some o := ⟨_, Array.getElem?_eq_getElem hs⟩
    have := (key ho).2
    simp only [Bool.or_eq_true, decide_eq_true_eq, List.any_eq_true, List.mem_range, Bool.and_eq_true] at this
    rcases this with h | ⟨j, hj, h4, h5⟩
    · omega
    · exact ⟨j, h4, hj, h5⟩

/-- The frame with the slots of the operations L filled. -/
structure FillSt (ops : Array Oper) (val : Nat → Value) (a : Act) (L : Nat → Prop) (a' : Act) : Prop where
  defers : a'.defers = a.defers
  size : a'.tmps.size = a.tmps.size
  old : ∀ s, (∀ j oj, ops[j]? = some oj → L j → oj.dst ≠ some s) → a'.tmps[s]? = a.tmps[s]?
  new : ∀ s j oj, ops[j]? = some oj → L j → oj.dst = some s → s < a.tmps.size → a'.tmps[s]? = some (val j)

section
variable {ops : Array Oper} {val : Nat → Value} {a a' a1 a2 : Act} {L L' : Nat → Prop} {n : Nat}

theorem FillSt.none (ops : Array Oper) (val : Nat → Value) (a : Act) : FillSt ops val a (fun _ => False) a := ⟨rfl, rfl, fun _ _ => rfl, fun _ _ _ _ h => h.elim⟩

theorem FillSt.congr (h : FillSt ops val a L a') (hl : ∀ j, L j ↔ L' j) : FillSt ops val a L' a' :=
  ⟨h.defers, h.size, fun s hs => h.old s fun j oj ho hj => hs j oj ho ((hl j).1 hj), fun s j oj ho hj => h.new s j oj ho ((hl j).2 hj)⟩

theorem FillSt.put (hm : Mid ops n) (h : FillSt ops val a L a') {i : Nat} {oi : Oper} (hi : ops[i]? = some oi) : FillSt ops val a (fun j => L j ∨ j = i) (a'.put oi.dst (val i)) := by
  cases hd : oi.dst with
  | none =>
    refine ⟨h.defers, h.size, fun s hs => h.old s fun j oj ho hj => hs j oj ho (.inl hj), fun s j oj ho hj hds hlt => ?_⟩
    rcases hj with hj | rfl
    · exact h.new s j oj ho hj hds hlt
    · rw [hi] at ho; injection ho with ho; subst ho; rw [hd] at hds; cases hds
  | some d =>
    refine ⟨h.defers, by simpa [Act.put] using h.size, fun s hs => ?_, fun s j oj ho hj hds hlt => ?_⟩
    · have hne : d ≠ s := fun e => hs i oi hi (.inr rfl) (e ▸ hd)
      simp only [Act.put, Array.getElem?_setIfInBounds_ne hne]
      exact h.old s fun j oj ho hj => hs j oj ho (.inl hj)
    · by_cases e : j = i
      · subst e
        rw [hi] at ho; injection ho with ho; subst ho
        rw [hd] at hds; injection hds with hds; subst hds
        have : d < a'.tmps.size := by rw [h.size]; exact hlt
        simp [Act.put, this]
      · have hj' := hj.resolve_right e
        have hne : d ≠ s := fun e' => hm.dist ho hi e hd (e' ▸ hds)
        simp only [Act.put, Array.getElem?_setIfInBounds_ne hne]
        exact h.new s j oj ho hj' hds hlt

theorem FillSt.get (h1 : FillSt ops val a L a1) (h2 : FillSt ops val a L' a2) {s : Nat} (hl : ∀ j oj, ops[j]? = some oj → oj.dst = some s → (L j ↔ L' j)) : a1.tmps[s]? = a2.tmps[s]? := by
  by_cases hx : ∃ j oj, ops[j]? = some oj ∧ oj.dst = some s ∧ L j
  · obtain ⟨j, oj, ho, hd, hj⟩ := hx
    by_cases hs : s < a.tmps.size
    · rw [h1.new s j oj ho hj hd hs, h2.new s j oj ho ((hl j oj ho hd).1 hj) hd hs]
    · rw [Array.getElem?_eq_none (by rw [h1.size]; omega), Array.getElem?_eq_none (by rw [h2.size]; omega)]
  · rw [h1.old s fun j oj ho hj hd => hx ⟨j, oj, ho, hd, hj⟩, h2.old s fun j oj ho hj hd => hx ⟨j, oj, ho, hd, (hl j oj ho hd).2 hj⟩]

theorem FillSt.eq (h1 : FillSt ops val a L a1) (h2 : FillSt ops val a L a2) : a1 = a2 := by
  obtain ⟨t1, d1⟩ := a1
  obtain ⟨t2, d2⟩ := a2
  have hd : d1 = d2 := h1.defers.trans h2.defers.symm
  have ht : t1 = t2 := Array.ext_getElem? fun s => h1.get h2 fun _ _ _ _ => Iff.rfl
  rw [hd, ht]

theorem FillSt.yields {P : Program} {w : World} {o : Oper} {v : Value} (h1 : FillSt ops val a L a1) (h2 : FillSt ops val a L' a2) (hg : o.guard = Option.none) (hsel : ∀ cs b, o.op ≠ .select cs b)
    (hl : ∀ d, d ∈ o.looksAt ops → ∀ j oj, ops[j]? = some oj → oj.dst = some d → (L j ↔ L' j)) (hy : YieldsAt P ops w o v a1) : YieldsAt P ops w o v a2 := by
  refine hy.of_same (execOp_congr o hsel fun x hx => ?_) (by simp [Region.wanted, hg])
  cases x with
  | tmp d =>
    have hd : d ∈ o.looksAt ops := List.mem_append_left _ (List.mem_filterMap.2 ⟨.tmp d, by simpa using hx, rfl⟩)
    have := h2.get h1 (s := d) fun j oj ho hdd => (hl d hd j oj ho hdd).symm
    simp [Act.eval, this]
  | _ => rfl

/-- The values of a list of operations, carried out in the order of the text. -/
theorem still_vals {P : Program} {w : World} {Q : Act → Prop} : ∀ (l : List Oper) (k : Nat) (a : Act), (∀ j, j < l.length → l[j]? = ops[k + j]?) → wpStill P ops w Q l a →
    ∃ (val : Nat → Value) (acts : Nat → Act), acts k = a ∧ (∀ j, k ≤ j → j < k + l.length → ∃ o, ops[j]? = some o ∧ YieldsAt P ops w o (val j) (acts j) ∧ acts (j + 1) = (acts j).put o.dst (val j)) ∧ Q (acts (k + l.length))
  | [], k, a, _, h => ⟨fun _ => undef, fun _ => a, rfl, fun j h1 h2 => by simp at h2; omega, h⟩
  | o :: l, k, a, hl, h => by
    have h0 : ops[k]? = some o := by simpa using (hl 0 (by simp)).symm
    have hst : stOp P ops w k (wpStill P ops w Q l) a := by unfold stOp; simp only [h0]; exact h
    obtain ⟨v, hy, hK⟩ := yieldsAt_of_stOp h0 hst
    obtain ⟨val, acts, e1, e2, e3⟩ := still_vals l (k + 1) _ (fun j hj => by have := hl (j + 1) (by simp; omega); simpa [Nat.add_assoc, Nat.add_comm 1 j] using this) hK
    refine ⟨fun j => if j = k then v else val j, fun j => if j = k then a else acts j, by simp, fun j h1 h2 => ?_, ?_⟩
    · by_cases e : j = k
      · subst e
        refine ⟨o, h0, by simpa using hy, ?_⟩
        have : ¬ j + 1 = j := by omega
        simp only [this, if_false, if_true]
        exact e1
      · obtain ⟨o', ho', hy', ha'⟩ := e2 j (by omega) (by simp at h2; omega)
        refine ⟨o', ho', by simpa [e] using hy', ?_⟩
        have : ¬ j + 1 = k := by omega
        simp only [this, e, if_false]
        exact ha'
    · have : ¬ k + (o :: l).length = k := by simp
      simp only [this, if_false]
      have e4 : k + (o :: l).length = k + 1 + l.length := by simp; omega
      rw [e4]
      exact e3

theorem acts_fill (hm : Mid ops n) {P : Program} {w : World} {acts : Nat → Act} {k m : Nat} (ha : acts k = a) (h : ∀ j, k ≤ j → j < m → ∃ o, ops[j]? = some o ∧ YieldsAt P ops w o (val j) (acts j) ∧ acts (j + 1) = (acts j).put o.dst (val j)) :
    ∀ d, k + d ≤ m → FillSt ops val a (fun j => k ≤ j ∧ j < k + d) (acts (k + d)) := by
  intro d
  induction d with
  | zero => intro _; rw [Nat.add_zero, ha]; exact (FillSt.none ops val a).congr fun j => by simp
  | succ d ih =>
    intro hd
    obtain ⟨o, ho, _, e⟩ := h (k + d) (by omega) (by omega)
    have := (ih (by omega)).put hm ho
    rw [← e] at this
    exact this.congr fun j => by constructor <;> intro hj <;> omega

theorem waits_listed {listed : Array Bool} {i j : Nat} {o : Oper} (ho : ops[i]? = some o) (hd : ∀ e ∈ o.after, Region.binds .any e = true → listed.getD e.on false = true) (hw : Region.waitsFor .any ops i j = true) : listed.getD j false = true := by
  obtain ⟨o', ho', e, he, hb, hon⟩ := Region.waitsFor_spec hw
  rw [ho] at ho'; injection ho' with ho'; subst ho'
  rw [← hon]
  exact hd e he hb

theorem set_getD {listed : Array Bool} {i j : Nat} (hi : i < listed.size) : (listed.setIfInBounds i true).getD j false = true ↔ listed.getD j false = true ∨ j = i := by
  by_cases e : i = j
  · subst e; simp [hi]
  · have e' : ¬ j = i := fun h => e h.symm
    simp [e, e']

/-- Ahead of the one operation, or behind it. -/
def MidSt (P : Program) (ops : Array Oper) (n : Nat) (w : World) (Q : Exit → Act → World → Prop) (a : Act) (val : Nat → Value) (listed : Array Bool) (a' : Act) (w' : World) : Prop :=
  listed.size = ops.size ∧ ((w' = w ∧ (∀ j, n ≤ j → listed.getD j false = false) ∧ FillSt ops val a (fun j => listed.getD j false = true) a') ∨
    (listed.getD n false = true ∧ ∃ (b : Act) (val2 : Nat → Value) (acts : Nat → Act), acts (n + 1) = b ∧ (∀ j, n + 1 ≤ j → j < ops.size → ∃ o, ops[j]? = some o ∧ YieldsAt P ops w' o (val2 j) (acts j) ∧ acts (j + 1) = (acts j).put o.dst (val2 j)) ∧
      Q .normal (acts ops.size) w' ∧ FillSt ops val2 b (fun j => n < j ∧ listed.getD j false = true) a'))

end

/-- A region that draws its order, with one operation that may do anything: it is walked in the order of the text. -/
theorem wp_region_mid {P : Program} {id : Nat} {Q : Exit → Act → World → Prop} {a : Act} {w : World} {l : List Oper} (n : Nat) (o : Oper) (hn : l[n]? = some o) (hm : P.follows .mixedOrders = true) (hB : midB l.toArray n = true)
    (h : wpStill P l.toArray w.drew (fun a1 => ∀ K : Act → World → Prop, (∀ a2 w2, wpStill P l.toArray w2 (fun a3 => Q .normal a3 w2) (l.drop (n + 1)) a2 → K a2 w2) → o.wp P a1 w.drew K Q) (l.take n) a) : (Code.region id l.toArray true).wp P Q a w := by
  have hmid := mid_of hB
  have hno : l.toArray[n]? = some o := by simpa using hn
  have hlt : n < l.length := by simpa using hmid.lt
  generalize hops : l.toArray = ops at *
  have hsz : ops.size = l.length := by rw [← hops]; simp
  have htl : (l.take n).length = n := by simp; omega
  have hel : ∀ j : Nat, l[j]? = ops[j]? := fun j => by rw [← hops]; simp
  obtain ⟨val, acts, e1, e2, e3⟩ := still_vals (ops := ops) (l.take n) 0 a (fun j hj => by
    rw [htl] at hj
    rw [List.getElem?_take_of_lt hj, Nat.zero_add]
    exact hel j) h
  rw [htl, Nat.zero_add] at e2 e3
  have hf := fun (d : Nat) (hd : d ≤ n) => acts_fill hmid e1 e2 d (by omega)
  simp only [Nat.zero_add, Nat.zero_le, true_and] at hf
  refine wp_region_any hm (wpAny_inv (MidSt P ops n w.drew Q a val) ?_ ?_ _ _ _ _ ?_ ?_ ?_)
  · rintro listed a' w' i oi ⟨hs, hst⟩ hcl hoi hun hd
    have hi : i < ops.size := (Array.getElem?_eq_some_iff.1 hoi).1
    have hsel := Region.noSelect_spec hmid.sel
    rcases hst with ⟨rfl, htail, hfill⟩ | ⟨hln, b, val2, acts2, b1, b2, b3, hfill⟩
    · rcases Nat.lt_trichotomy i n with hin | rfl | hin
      · obtain ⟨o', ho', hy, _⟩ := e2 i (Nat.zero_le _) hin
        rw [hoi] at ho'; injection ho' with ho'; subst ho'
        have hy' : YieldsAt P ops w.drew oi (val i) a' := (hf i (by omega)).yields hfill (hmid.grd hoi) (fun cs b => hsel i oi cs b hoi) (fun d hdl j oj hj hdj => by
          obtain ⟨h1, h2⟩ := hmid.look hoi hj hdj hdl
          exact ⟨fun _ => waits_listed hoi hd h2, fun _ => h1⟩) hy
        refine wpOp_of_stOp (K := fun a'' => a'' = a'.put oi.dst (val i)) ?_ (hy'.stOp hoi rfl)
        rintro a'' rfl
        refine ⟨by simpa using hs, .inl ⟨rfl, fun j hj => ?_, ?_⟩⟩
        · have : i ≠ j := by omega
          simpa [this] using htail j hj
        · exact (hfill.put hmid hoi).congr fun j => (set_getD (by omega)).symm
      · rw [hno] at hoi; injection hoi with hoi; subst hoi
        have hall : ∀ d j, i - j = d → j < i → listed.getD j false = true := by
          intro d
          induction d using Nat.strongRecOn with
          | _ d ih =>
            intro j hjd hj
            obtain ⟨m, h1, h2, h3⟩ := hmid.sink hj
            by_cases e : m = i
            · subst e; exact waits_listed hno hd h3
            · have h4 := ih (i - m) (by omega) m rfl (by omega)
              obtain ⟨om, hom⟩ : ∃ om, ops[m]? = some om := ⟨_, Array.getElem?_eq_getElem (by omega)⟩
              exact waits_listed hom (fun e he hb => hcl m om hom h4 e he hb) h3
        have hae : a' = acts i := hfill.eq ((hf i (Nat.le_refl _)).congr fun j => ⟨fun hj => hall _ j rfl hj, fun hj => by
          rcases Nat.lt_or_ge j i with h | h
          · exact h
          · rw [htail j h] at hj; cases hj⟩)
        have hw : wpOp P ops Q i (fun a2 w2 => MidSt P ops i w.drew Q a val (listed.setIfInBounds i true) a2 w2) (acts i) w.drew := by
          unfold wpOp
          simp only [hno]
          have hwt : Region.wanted o (yielded ops (acts i).tmps) = true := by simp [Region.wanted, hmid.grd hno]
          rw [if_pos hwt]
          refine .inl (e3 _ fun a2 w2 h2 => ⟨by simpa using hs, .inr ⟨(set_getD (by omega)).2 (.inr rfl), ?_⟩⟩)
          obtain ⟨val2, acts2, c1, c2, c3⟩ := still_vals (ops := ops) (l.drop (i + 1)) (i + 1) a2 (fun j _ => by rw [List.getElem?_drop]; exact hel _) h2
          have c4 : i + 1 + (l.drop (i + 1)).length = ops.size := by rw [hsz]; simp; omega
          rw [c4] at c2 c3
          refine ⟨a2, val2, acts2, c1, c2, c3, (FillSt.none ops val2 a2).congr fun j => ⟨fun h => h.elim, fun hj => ?_⟩⟩
          have h5 := htail j (by omega)
          have h6 := ((set_getD (by omega)).1 hj.2).resolve_right (by omega)
          rw [h5] at h6; cases h6
        rw [hae]
        exact hw
      · obtain ⟨j, h1, h2, h3⟩ := hmid.hang hin hi
        have := waits_listed hoi hd h3
        rw [htail j h1] at this; cases this
    · have hin : n < i := by
        rcases Nat.lt_trichotomy i n with h | rfl | h
        · exfalso
          have hall : ∀ d j, n - j = d → j < n → listed.getD j false = true := by
            intro d
            induction d using Nat.strongRecOn with
            | _ d ih =>
              intro j hjd hj
              obtain ⟨m, h1, h2, h3⟩ := hmid.sink hj
              have h4 : listed.getD m false = true := by
                by_cases e : m = n
                · subst e; exact hln
                · exact ih (n - m) (by omega) m rfl (by omega)
              obtain ⟨om, hom⟩ : ∃ om, ops[m]? = some om := ⟨_, Array.getElem?_eq_getElem (by omega)⟩
              exact waits_listed hom (fun e he hb => hcl m om hom h4 e he hb) h3
          have := hall _ i rfl h
          simp [show i < listed.size by omega] at hun this
          rw [hun] at this; cases this
        · exfalso
          simp [show i < listed.size by omega] at hun hln
          rw [hun] at hln; cases hln
        · exact h
      obtain ⟨o', ho', hy, _⟩ := b2 i (by omega) hi
      rw [hoi] at ho'; injection ho' with ho'; subst ho'
      have hg := acts_fill hmid b1 b2 (i - (n + 1)) (by omega)
      have e5 : n + 1 + (i - (n + 1)) = i := by omega
      rw [e5] at hg
      have hg' : FillSt ops val2 b (fun j => n + 1 ≤ j ∧ j < i) (acts2 i) := hg
      have hy' : YieldsAt P ops w' oi (val2 i) a' := hg'.yields hfill (hmid.grd hoi) (fun cs b => hsel i oi cs b hoi) (fun d hdl j oj hj hdj => by
        obtain ⟨h1, h2⟩ := hmid.look hoi hj hdj hdl
        exact ⟨fun h => ⟨by omega, waits_listed hoi hd h2⟩, fun h => ⟨by omega, h1⟩⟩) hy
      refine wpOp_of_stOp (K := fun a'' => a'' = a'.put oi.dst (val2 i)) ?_ (hy'.stOp hoi rfl)
      rintro a'' rfl
      refine ⟨by simpa using hs, .inr ⟨getD_set_true hln, b, val2, acts2, b1, b2, b3, ?_⟩⟩
      exact (hfill.put hmid hoi).congr fun j => by
        rw [set_getD (by omega)]
        constructor
        · rintro (⟨h1, h2⟩ | rfl)
          · exact ⟨h1, .inl h2⟩
          · exact ⟨hin, .inr rfl⟩
        · rintro ⟨h1, h2 | h2⟩
          · exact .inl ⟨h1, h2⟩
          · exact .inr h2
  · rintro listed a' w' ⟨hs, hst⟩ hr
    have hall : ∀ j, j < ops.size → listed.getD j false = true := by
      intro j
      induction j using Nat.strongRecOn with
      | _ j ih =>
        intro hj
        cases hl : listed.getD j false with
        | true => rfl
        | false =>
          exfalso
          obtain ⟨oj, hoj⟩ : ∃ oj, ops[j]? = some oj := ⟨_, Array.getElem?_eq_getElem hj⟩
          have : j ∈ Region.ready .any ops listed := mem_ready.2 ⟨by simpa [show j < listed.size by omega] using hl, oj, hoj, fun e he hb => by
            have h1 := hmid.low hoj e he hb
            exact ih _ h1 (by omega)⟩
          rw [hr] at this; cases this
    rcases hst with ⟨_, htail, _⟩ | ⟨_, b, val2, acts2, b1, b2, b3, hfill⟩
    · have := hall n hmid.lt
      rw [htail n (Nat.le_refl _)] at this; cases this
    · have hg := acts_fill hmid b1 b2 (ops.size - (n + 1)) (by have := hmid.lt; omega)
      have e5 : n + 1 + (ops.size - (n + 1)) = ops.size := by have := hmid.lt; omega
      rw [e5] at hg
      have hae : a' = acts2 ops.size := hfill.eq (hg.congr fun j => by
        constructor
        · rintro ⟨h1, h2⟩; exact ⟨by omega, hall j h2⟩
        · rintro ⟨h1, h2⟩
          refine ⟨by omega, ?_⟩
          rcases Nat.lt_or_ge j ops.size with h | h
          · exact h
          · simp [Array.getElem?_eq_none (show listed.size ≤ j by omega)] at h2)
      rw [hae]
      exact b3
  · refine ⟨by simp, .inl ⟨rfl, fun j _ => getD_replicate_false _ _, (FillSt.none ops val a).congr fun j => ⟨fun h => h.elim, fun h => ?_⟩⟩⟩
    rw [getD_replicate_false] at h; cases h
  · intro j oj _ hl
    rw [getD_replicate_false] at hl; cases hl
  · simp

end Go.Proofs.YtimahogkcmmcnaaGreatDoor

namespace Go.Proofs.YtimahogkcmmcnaaGreatDoor
open Go.RowKit

/-- A region whose first f operations may float (they read), and whose others stand in one forced order; at operation f + c no float is left. -/
def floatB (ops : Array Oper) (f c : Nat) : Bool :=
  Region.noSelect ops && decide (f ≤ ops.size) &&
  (List.range ops.size).all fun i =>
    match ops[i]? with
    | none => false
    | some o => o.guard.isNone && (o.after.all fun e => !Region.binds .any e || decide (e.on < i)) &&
      ((List.range ops.size).all fun j =>
        match ops[j]? with
        | none => false
        | some oj =>
          match oj.dst with
          | none => true
          | some d => (!(o.looksAt ops).contains d || (decide (j < i) && Region.waitsFor .any ops i j) || (decide (i < j) && Region.waitsFor .any ops j i)) && (decide (i = j) || o.dst != some d)) &&
      (decide (i ≤ f) || Region.waitsFor .any ops i (i - 1)) &&
      (decide (i ≠ f + c) || (List.range f).all fun j => Region.waitsFor .any ops i j)

structure Float (ops : Array Oper) (f c : Nat) : Prop where
  sel : Region.noSelect ops = true
  le : f ≤ ops.size
  grd : ∀ {i : Nat} {o : Oper}, ops[i]? = some o → o.guard = none
  low : ∀ {i : Nat} {o : Oper}, ops[i]? = some o → ∀ e ∈ o.after, Region.binds .any e = true → e.on < i
  look : ∀ {i j : Nat} {o oj : Oper} {d : Tmp}, ops[i]? = some o → ops[j]? = some oj → oj.dst = some d → d ∈ o.looksAt ops → (j < i ∧ Region.waitsFor .any ops i j = true) ∨ (i < j ∧ Region.waitsFor .any ops j i = true)
  dist : ∀ {i j : Nat} {o oj : Oper} {d : Tmp}, ops[i]? = some o → ops[j]? = some oj → i ≠ j → oj.dst = some d → o.dst ≠ some d
  chain : ∀ {i : Nat}, f < i → i < ops.size → Region.waitsFor .any ops i (i - 1) = true
  gone : ∀ {j : Nat}, f + c < ops.size → j < f → Region.waitsFor .any ops (f + c) j = true

theorem float_of {ops : Array Oper} {f c : Nat} (h : floatB ops f c = true) : Float ops f c := by
  unfold floatB at h
  simp only [Bool.and_eq_true, decide_eq_true_eq, List.all_eq_true, List.mem_range] at h
  obtain ⟨⟨h1, h2⟩, h3⟩ := h
  have key : ∀ {i : Nat} {o : Oper}, ops[i]? = some o → ((((o.guard.isNone = true ∧ (o.after.all fun e => !Region.binds .any e || decide (e.on < i)) = true) ∧
      ∀ j, j < ops.size → (match ops[j]? with | none => false | some oj => match oj.dst with | none => true | some d => (!(o.looksAt ops).contains d || (decide (j < i) && Region.waitsFor .any ops i j) || (decide (i < j) && Region.waitsFor .any ops j i)) && (decide (i = j) || o.dst != some d)) = true) ∧
      (decide (i ≤ f) || Region.waitsFor .any ops i (i - 1)) = true) ∧
      (decide (i ≠ f + c) || (List.range f).all fun j => Region.waitsFor .any ops i j) = true) := by
    intro i o ho
    have hi : i < ops.size := (Array.getElem?_eq_some_iff.1 ho).1
    have := h3 i hi
    rw [ho] at this
    simpa only [Bool.and_eq_true, List.all_eq_true, List.mem_range] using this
  have two : ∀ {i j : Nat} {o oj : Oper} {d : Tmp}, ops[i]? = some o → ops[j]? = some oj → oj.dst = some d → ((!(o.looksAt ops).contains d || (decide (j < i) && Region.waitsFor .any ops i j) || (decide (i < j) && Region.waitsFor .any ops j i)) && (decide (i = j) || o.dst != some d)) = true := by
    intro i j o oj d ho hj hd
    have := (key ho).1.1.2 j (Array.getElem?_eq_some_iff.1 hj).1
    rw [hj] at this
    simpa only [hd] using this
  refine ⟨h1, h2, fun ho => ?_, fun ho e he hb => ?_, fun ho hj hd hl => ?_, fun ho hj hij hd => ?_, fun {i} hi hs => ?_, fun {j} hs hj => ?_⟩
  · have := (key ho).1.1.1.1
    simpa using this
  · have h4 := (key ho).1.1.1.2
    rw [Array.all_eq_true'] at h4
    have := h4 e he
    rw [hb] at this
    simpa using this
  · have := two ho hj hd
    simp only [Bool.and_eq_true, Bool.or_eq_true, decide_eq_true_eq] at this
    rcases this.1 with (h | h) | h
    · exfalso
      rw [List.contains_iff_mem.2 hl] at h
      cases h
    · exact .inl h
    · exact .inr h
  · have := two ho hj hd
    simp only [Bool.and_eq_true, Bool.or_eq_true, decide_eq_true_eq] at this
    rcases this.2 with h | h
    · exact absurd h hij
    · simpa using h
  · obtain ⟨o, ho⟩ : ∃ o, ops[i]? = some o := ⟨_, Array.getElem?_eq_getElem hs⟩
    have := (key ho).1.2
    simp only [Bool.or_eq_true, decide_eq_true_eq] at this
    rcases this with h | h
    · omega
    · exact h
  · obtain ⟨o, ho⟩ : ∃ o, ops[f + c]? = some o := ⟨_, Array.getElem?_eq_getElem hs⟩
    have := (key ho).2
    simp only [Bool.or_eq_true, decide_eq_true_eq, List.all_eq_true, List.mem_range] at this
    rcases this with h | h
    · exact absurd rfl h
    · exact h j hj

theorem Float.dist' {ops : Array Oper} {f c : Nat} (h : Float ops f c) : ∀ {i j : Nat} {o oj : Oper} {d : Tmp}, ops[i]? = some o → ops[j]? = some oj → i ≠ j → oj.dst = some d → o.dst ≠ some d := fun a b c d => h.dist a b c d

section
variable {P : Program} {ops : Array Oper} {val val' : Nat → Value} {a a' a1 a2 : Act} {L L' : Nat → Prop}

theorem FillSt.put' (hdist : ∀ {i j : Nat} {o oj : Oper} {d : Tmp}, ops[i]? = some o → ops[j]? = some oj → i ≠ j → oj.dst = some d → o.dst ≠ some d) (h : FillSt ops val a L a') {i : Nat} {oi : Oper} (hi : ops[i]? = some oi) : FillSt ops val a (fun j => L j ∨ j = i) (a'.put oi.dst (val i)) := by
  cases hd : oi.dst with
  | none =>
    refine ⟨h.defers, h.size, fun s hs => h.old s fun j oj ho hj => hs j oj ho (.inl hj), fun s j oj ho hj hds hlt => ?_⟩
    rcases hj with hj | rfl
    · exact h.new s j oj ho hj hds hlt
    · rw [hi] at ho; injection ho with ho; subst ho; rw [hd] at hds; cases hds
  | some d =>
    refine ⟨h.defers, by simpa [Act.put] using h.size, fun s hs => ?_, fun s j oj ho hj hds hlt => ?_⟩
    · have hne : d ≠ s := fun e => hs i oi hi (.inr rfl) (e ▸ hd)
      simp only [Act.put, Array.getElem?_setIfInBounds_ne hne]
      exact h.old s fun j oj ho hj => hs j oj ho (.inl hj)
    · by_cases e : j = i
      · subst e
        rw [hi] at ho; injection ho with ho; subst ho
        rw [hd] at hds; injection hds with hds; subst hds
        have : d < a'.tmps.size := by rw [h.size]; exact hlt
        simp [Act.put, this]
      · have hj' := hj.resolve_right e
        have hne : d ≠ s := fun e' => hdist ho hi e hd (e' ▸ hds)
        simp only [Act.put, Array.getElem?_setIfInBounds_ne hne]
        exact h.new s j oj ho hj' hds hlt

theorem FillSt.revalue (h : FillSt ops val a L a') (hv : ∀ j, L j → val j = val' j) : FillSt ops val' a L a' :=
  ⟨h.defers, h.size, h.old, fun s j oj ho hj hd hs => by rw [← hv j hj]; exact h.new s j oj ho hj hd hs⟩

theorem FillSt.evals (h1 : FillSt ops val a L a1) (h2 : FillSt ops val a L' a2) {o : Oper} (hl : ∀ d, d ∈ o.looksAt ops → ∀ j oj, ops[j]? = some oj → oj.dst = some d → (L j ↔ L' j)) : ∀ x ∈ o.op.operands, a2.eval x = a1.eval x := by
  intro x hx
  cases x with
  | tmp d =>
    have hd : d ∈ o.looksAt ops := List.mem_append_left _ (List.mem_filterMap.2 ⟨.tmp d, by simpa using hx, rfl⟩)
    have := h2.get h1 (s := d) fun j oj ho hdd => (hl d hd j oj ho hdd).symm
    simp [Act.eval, this]
  | _ => rfl

/-- Nothing that goes out of a function. -/
abbrev NoOut : Exit → Act → World → Prop := fun _ _ _ => False

theorem wp_move {o : Oper} {b b' : Act} {w : World} {K K' : Act → World → Prop} {Q : Exit → Act → World → Prop} (he : execOp b'.eval o = execOp b.eval o) (h : o.wp P b w K NoOut) (hK : ∀ v w', K (b.put o.dst v) w' → K' (b'.put o.dst v) w') (hd : ∀ a w', K a w' → a.defers = b.defers) : o.wp P b' w K' Q := by
  unfold Oper.wp at *
  rw [he]
  generalize (execOp b.eval o).run P w = r at h
  cases r with
  | ok n w' =>
    cases n <;> simp only [Oper.upon] at h ⊢
    case value v => exact hK _ _ h
    case skip => exact hK _ _ h
    case defer d =>
      exfalso
      have := hd _ _ h
      cases hdst : o.dst <;> simp [Act.put, hdst] at this
    case enter f args =>
      refine h.mono fun e w'' he' => ?_
      cases e with
      | returned v => exact hK _ _ he'
      | panicked ch => exact he'.elim
      | outgrown => obtain ⟨_, _, hf⟩ := he'; exact hf.elim
    case row row args => exact h.mono fun v w'' hv => hK _ _ hv
  | halt x w' =>
    cases x <;> simp only [Oper.upon] at h
    exact h.elim

/-- The floats: each yields one value, in whatever world of C. -/
def wpFloat (P : Program) (ops : Array Oper) (C : World → Prop) (Q : Act → Prop) : List Oper → Act → Prop
  | [], a => Q a
  | o :: rest, a => ∃ v, (∀ w, C w → (execOp a.eval o).run P w = .ok (.value v) w) ∧ wpFloat P ops C Q rest (a.put o.dst v)

/-- The chain: as long as floats may come, the world stays in C. -/
def wpChain (P : Program) (C : World → Prop) (Q : Exit → Act → World → Prop) : Nat → List Oper → Act → World → Prop
  | _, [], a, w => Q .normal a w
  | c, o :: rest, a, w => o.wp P a w (fun a' w' => a'.defers = a.defers ∧ (0 < c → C w') ∧ wpChain P C Q (c - 1) rest a' w') NoOut

theorem float_vals {C : World → Prop} {Q : Act → Prop} : ∀ (l : List Oper) (k : Nat) (a : Act), (∀ j, j < l.length → l[j]? = ops[k + j]?) → wpFloat P ops C Q l a →
    ∃ (val : Nat → Value) (acts : Nat → Act), acts k = a ∧ (∀ j, k ≤ j → j < k + l.length → ∃ o, ops[j]? = some o ∧ (∀ w, C w → (execOp (acts j).eval o).run P w = .ok (.value (val j)) w) ∧ acts (j + 1) = (acts j).put o.dst (val j)) ∧ Q (acts (k + l.length))
  | [], k, a, _, h => ⟨fun _ => undef, fun _ => a, rfl, fun j h1 h2 => by simp at h2; omega, h⟩
  | o :: l, k, a, hl, h => by
    have h0 : ops[k]? = some o := by simpa using (hl 0 (by simp)).symm
    obtain ⟨v, hy, hK⟩ := h
    obtain ⟨val, acts, e1, e2, e3⟩ := float_vals l (k + 1) _ (fun j hj => by have := hl (j + 1) (by simp; omega); simpa [Nat.add_assoc, Nat.add_comm 1 j] using this) hK
    refine ⟨fun j => if j = k then v else val j, fun j => if j = k then a else acts j, by simp, fun j h1 h2 => ?_, ?_⟩
    · by_cases e : j = k
      · subst e
        refine ⟨o, h0, by simpa using hy, ?_⟩
        have : ¬ j + 1 = j := by omega
        simp only [this, if_false, if_true]
        exact e1
      · obtain ⟨o', ho', hy', ha'⟩ := e2 j (by omega) (by simp at h2; omega)
        refine ⟨o', ho', by simpa [e] using hy', ?_⟩
        have : ¬ j + 1 = k := by omega
        simp only [this, e, if_false]
        exact ha'
    · have : ¬ k + (o :: l).length = k := by simp
      simp only [this, if_false]
      have e4 : k + (o :: l).length = k + 1 + l.length := by simp; omega
      rw [e4]
      exact e3

theorem float_fill (hdist : ∀ {i j : Nat} {o oj : Oper} {d : Tmp}, ops[i]? = some o → ops[j]? = some oj → i ≠ j → oj.dst = some d → o.dst ≠ some d) {acts : Nat → Act} {m : Nat} {R : Nat → Oper → Prop} (ha : acts 0 = a) (h : ∀ j, j < m → ∃ o, ops[j]? = some o ∧ R j o ∧ acts (j + 1) = (acts j).put o.dst (val j)) :
    ∀ d, d ≤ m → FillSt ops val a (fun j => j < d) (acts d) := by
  intro d
  induction d with
  | zero => intro _; rw [ha]; exact (FillSt.none ops val a).congr fun j => by simp
  | succ d ih =>
    intro hd
    obtain ⟨o, ho, _, e⟩ := h d (by omega)
    have := (ih (by omega)).put' hdist ho
    rw [← e] at this
    exact this.congr fun j => by constructor <;> intro hj <;> omega

end

/-- A region that draws its order: reads that may float, and one chain. -/
theorem wp_region_float {P : Program} {id : Nat} {Q : Exit → Act → World → Prop} {a : Act} {w : World} {l : List Oper} (f c : Nat) (C : World → Prop) (hm : P.follows .mixedOrders = true) (hB : floatB l.toArray f c = true) (hC : C w.drew)
    (h : wpFloat P l.toArray C (fun b => wpChain P C Q c (l.drop f) b w.drew) (l.take f) a) : (Code.region id l.toArray true).wp P Q a w := by
  have hfl := float_of hB
  have hle : f ≤ l.length := by simpa using hfl.le
  generalize hops : l.toArray = ops at *
  have hsz : ops.size = l.length := by rw [← hops]; simp
  have htl : (l.take f).length = f := by simp; omega
  have hel : ∀ j : Nat, l[j]? = ops[j]? := fun j => by rw [← hops]; simp
  obtain ⟨val, acts, e1, e2, e3⟩ := float_vals (ops := ops) (l.take f) 0 a (fun j hj => by
    rw [htl] at hj
    rw [List.getElem?_take_of_lt hj, Nat.zero_add]
    exact hel j) h
  rw [htl, Nat.zero_add] at e3
  simp only [htl, Nat.zero_add, Nat.zero_le, true_imp_iff] at e2
  have hfill := fun (val' : Nat → Value) (hv : ∀ j, j < f → val j = val' j) (d : Nat) (hd : d ≤ f) => ((float_fill hfl.dist' e1 e2) d hd).revalue (val' := val') fun j hj => hv j (by omega)
  have hsel := Region.noSelect_spec hfl.sel
  -- what has been carried out: some floats, t of the chain
  let St : Array Bool → Act → World → Prop := fun listed a' w' => listed.size = ops.size ∧ ∃ (t : Nat) (b : Act) (val' : Nat → Value), f + t ≤ ops.size ∧ (∀ j, j < f → val j = val' j) ∧ (∀ j, f ≤ j → (listed.getD j false = true ↔ j < f + t)) ∧
    (t ≤ c → C w') ∧ wpChain P C Q (c - t) (l.drop (f + t)) b w' ∧ FillSt ops val' a (fun j => j < f + t) b ∧ FillSt ops val' a (fun j => listed.getD j false = true) a'
  refine wp_region_any hm (wpAny_inv St ?_ ?_ _ _ _ _ ?_ ?_ ?_)
  · rintro listed a' w' i oi ⟨hs, t, b, val', ht, hv, hch, hCw, hwp, hfb, hfa⟩ hcl hoi hun hd
    have hi : i < ops.size := (Array.getElem?_eq_some_iff.1 hoi).1
    have hun' : listed.getD i false = false := by
      simp [show i < listed.size by omega] at hun ⊢; exact hun
    rcases Nat.lt_or_ge i f with hif | hif
    · -- a float
      have htc : t ≤ c := by
        rcases Nat.lt_or_ge c t with h' | h'
        · exfalso
          have hfc : f + c < ops.size := by omega
          obtain ⟨oc, hoc⟩ : ∃ oc, ops[f + c]? = some oc := ⟨_, Array.getElem?_eq_getElem hfc⟩
          have h1 := (hch (f + c) (by omega)).2 (by omega)
          have h2 := waits_listed hoc (fun e he hb => hcl _ oc hoc h1 e he hb) (hfl.gone hfc hif)
          rw [hun'] at h2; cases h2
        · exact h'
      obtain ⟨o', ho', hy, _⟩ := e2 i hif
      rw [hoi] at ho'; injection ho' with ho'; subst ho'
      have hev := (hfill val' hv i (by omega)).evals hfa (o := oi) (fun d hdl j oj hj hdj => by
        rcases hfl.look hoi hj hdj hdl with ⟨h1, h2⟩ | ⟨h1, h2⟩
        · exact ⟨fun _ => waits_listed hoi hd h2, fun _ => h1⟩
        · refine ⟨fun h => by omega, fun h => ?_⟩
          have h3 := waits_listed hj (fun e he hb => hcl _ oj hj h e he hb) h2
          rw [hun'] at h3; cases h3)
      have hrun : (execOp a'.eval oi).run P w' = .ok (.value (val' i)) w' := by
        rw [execOp_congr oi (fun cs b => hsel i oi cs b hoi) hev, ← hv i hif]
        exact hy w' (hCw htc)
      unfold wpOp
      simp only [hoi]
      have hwt : Region.wanted oi (yielded ops a'.tmps) = true := by simp [Region.wanted, hfl.grd hoi]
      rw [if_pos hwt]
      refine .inl ?_
      unfold Oper.wp
      rw [hrun, Oper.upon_value]
      refine ⟨by simpa using hs, t, b, val', ht, hv, fun j hj => ?_, hCw, hwp, hfb, (hfa.put' hfl.dist' hoi).congr fun j => (set_getD (by omega)).symm⟩
      rw [set_getD (by omega)]
      have := hch j hj
      constructor
      · rintro (h1 | h1)
        · exact this.1 h1
        · omega
      · intro h1; exact .inl (this.2 h1)
    · -- the chain's next
      have hit : i = f + t := by
        have h1 := hch i hif
        rw [hun'] at h1
        have hge : f + t ≤ i := by
          rcases Nat.lt_or_ge i (f + t) with h' | h'
          · exact absurd (h1.2 h') (by simp)
          · exact h'
        rcases Nat.lt_or_ge (f + t) i with h' | h'
        · exfalso
          have h2 := waits_listed hoi hd (hfl.chain (by omega) hi)
          have h3 := (hch (i - 1) (by omega)).1 h2
          omega
        · omega
      subst hit
      have hdrop : l.drop (f + t) = oi :: l.drop (f + t + 1) := by
        have h1 : l[f + t]? = some oi := (hel _).trans hoi
        obtain ⟨h2, h3⟩ := List.getElem?_eq_some_iff.1 h1
        rw [List.drop_eq_getElem_cons h2, h3]
      rw [hdrop] at hwp
      have hev := hfb.evals hfa (o := oi) (fun d hdl j oj hj hdj => by
        rcases hfl.look hoi hj hdj hdl with ⟨h1, h2⟩ | ⟨h1, h2⟩
        · exact ⟨fun _ => waits_listed hoi hd h2, fun _ => h1⟩
        · refine ⟨fun h => by omega, fun h => ?_⟩
          have h3 := waits_listed hj (fun e he hb => hcl _ oj hj h e he hb) h2
          rw [hun'] at h3; cases h3)
      unfold wpOp
      simp only [hoi]
      have hwt : Region.wanted oi (yielded ops a'.tmps) = true := by simp [Region.wanted, hfl.grd hoi]
      rw [if_pos hwt]
      refine .inl (wp_move (execOp_congr oi (fun cs b => hsel _ oi cs b hoi) hev) hwp (fun v w'' hK => ?_) (fun _ _ hK => hK.1))
      obtain ⟨_, hC', hrest⟩ := hK
      let val2 : Nat → Value := fun j => if j = f + t then v else val' j
      have hv2 : val2 (f + t) = v := by simp [val2]
      have hv3 : ∀ j, j ≠ f + t → val' j = val2 j := fun j hj => by simp [val2, hj]
      have f1 := (hfb.revalue (val' := val2) fun j hj => hv3 j (by omega)).put' hfl.dist' hoi
      have f2 := (hfa.revalue (val' := val2) fun j hj => hv3 j (fun e => by rw [e, hun'] at hj; cases hj)).put' hfl.dist' hoi
      rw [hv2] at f1 f2
      refine ⟨by simpa using hs, t + 1, _, val2, by omega, fun j hj => (hv j hj).trans (hv3 j (by omega)), fun j hj => ?_, fun htc => hC' (by omega), ?_, f1.congr fun j => by omega, f2.congr fun j => (set_getD (by omega)).symm⟩
      · rw [set_getD (by omega)]
        have := hch j hj
        constructor
        · rintro (h1 | h1)
          · have := this.1 h1; omega
          · omega
        · intro h1
          rcases Nat.lt_or_ge j (f + t) with h' | h'
          · exact .inl (this.2 h')
          · exact .inr (by omega)
      · rw [show c - (t + 1) = c - t - 1 by omega, show f + (t + 1) = f + t + 1 by omega]
        exact hrest
  · rintro listed a' w' ⟨hs, t, b, val', ht, hv, hch, hCw, hwp, hfb, hfa⟩ hr
    have hall : ∀ j, j < ops.size → listed.getD j false = true := by
      intro j
      induction j using Nat.strongRecOn with
      | _ j ih =>
        intro hj
        cases hl : listed.getD j false with
        | true => rfl
        | false =>
          exfalso
          obtain ⟨oj, hoj⟩ : ∃ oj, ops[j]? = some oj := ⟨_, Array.getElem?_eq_getElem hj⟩
          have : j ∈ Region.ready .any ops listed := mem_ready.2 ⟨by simpa [show j < listed.size by omega] using hl, oj, hoj, fun e he hb => by
            have h1 := hfl.low hoj e he hb
            exact ih _ h1 (by omega)⟩
          rw [hr] at this; cases this
    have hte : f + t = ops.size := by
      rcases Nat.lt_or_ge (f + t) ops.size with h' | h'
      · have := (hch (f + t) (by omega)).1 (hall _ h'); omega
      · omega
    have hab : a' = b := hfa.eq (hfb.congr fun j => by
      constructor
      · intro h1; exact hall j (by omega)
      · intro h1
        rcases Nat.lt_or_ge j ops.size with h' | h'
        · omega
        · simp [Array.getElem?_eq_none (show listed.size ≤ j by omega)] at h1)
    have hnil : l.drop (f + t) = [] := List.drop_of_length_le (by omega)
    rw [hnil] at hwp
    rw [hab]
    exact hwp
  · refine ⟨by simp, 0, acts f, val, by omega, fun _ _ => rfl, fun j hj => ?_, fun _ => hC, by simpa using e3, hfill val (fun _ _ => rfl) f (Nat.le_refl _), (FillSt.none ops val a).congr fun j => ⟨fun h => h.elim, fun h => ?_⟩⟩
    · rw [getD_replicate_false]
      constructor
      · intro h; cases h
      · intro h; omega
    · rw [getD_replicate_false] at h; cases h
  · intro j oj _ hl
    rw [getD_replicate_false] at hl; cases hl
  · simp

theorem wpFloat_step {P : Program} {ops : Array Oper} {C : World → Prop} {Q : Act → Prop} {o : Oper} {rest : List Oper} {a : Act} (v : Value) (h : ∀ w, C w → (execOp a.eval o).run P w = .ok (.value v) w) (hn : wpFloat P ops C Q rest (a.put o.dst v)) : wpFloat P ops C Q (o :: rest) a := ⟨v, h, hn⟩

theorem wpFloat_ex {P : Program} {ops : Array Oper} {C : World → Prop} {Q : Act → Prop} {o : Oper} {rest : List Oper} {a : Act}
    (h : ∀ K : Act → Prop, (∀ a', wpFloat P ops C Q rest a' → K a') → ∃ v, (∀ w, C w → (execOp a.eval o).run P w = .ok (.value v) w) ∧ K (a.put o.dst v)) : wpFloat P ops C Q (o :: rest) a := h _ fun _ h => h

theorem wpFloat_nil {P : Program} {ops : Array Oper} {C : World → Prop} {Q : Act → Prop} {a : Act} (h : Q a) : wpFloat P ops C Q [] a := h

theorem wpChain_nil {P : Program} {C : World → Prop} {Q : Exit → Act → World → Prop} {c : Nat} {a : Act} {w : World} (h : Q .normal a w) : wpChain P C Q c [] a w := h

theorem wpChain_step {P : Program} {C : World → Prop} {Q : Exit → Act → World → Prop} {c : Nat} {o : Oper} {rest : List Oper} {a : Act} {w : World}
    (h : ∀ K : Act → World → Prop, (∀ a' w', a'.defers = a.defers → (0 < c → C w') → wpChain P C Q (c - 1) rest a' w' → K a' w') → o.wp P a w K NoOut) : wpChain P C Q c (o :: rest) a w :=
  h _ fun _ _ h1 h2 h3 => ⟨h1, h2, h3⟩

end Go.Proofs.YtimahogkcmmcnaaGreatDoor
namespace Go.Proofs.YtimahogkcmmcnaaGreatDoor
open Go.RowKit

section
variable {P : Program} {ops : Array Oper} {val val' : Nat → Value} {a a' a1 a2 : Act} {L L' : Nat → Prop}

/-- Operations that are quiet in the class C, in the order of the text, none guarded. -/
def wpQf (P : Program) (C : World → Prop) (Q : Act → Prop) : List Oper → Act → Prop
  | [], a => Q a
  | o :: rest, a => ∃ v, (∀ w, C w → o.quietAt P a C w v) ∧ wpQf P C Q rest (a.put o.dst v)

theorem qf_vals {C : World → Prop} {Q : Act → Prop} : ∀ (l : List Oper) (k : Nat) (a : Act), (∀ j, j < l.length → l[j]? = ops[k + j]?) → wpQf P C Q l a →
    ∃ (val : Nat → Value) (acts : Nat → Act), acts k = a ∧ (∀ j, k ≤ j → j < k + l.length → ∃ o, ops[j]? = some o ∧ (∀ w, C w → o.quietAt P (acts j) C w (val j)) ∧ acts (j + 1) = (acts j).put o.dst (val j)) ∧ Q (acts (k + l.length))
  | [], k, a, _, h => ⟨fun _ => undef, fun _ => a, rfl, fun j h1 h2 => by simp at h2; omega, h⟩
  | o :: l, k, a, hl, h => by
    have h0 : ops[k]? = some o := by simpa using (hl 0 (by simp)).symm
    obtain ⟨v, hy, hK⟩ := h
    obtain ⟨val, acts, e1, e2, e3⟩ := qf_vals l (k + 1) _ (fun j hj => by have := hl (j + 1) (by simp; omega); simpa [Nat.add_assoc, Nat.add_comm 1 j] using this) hK
    refine ⟨fun j => if j = k then v else val j, fun j => if j = k then a else acts j, by simp, fun j h1 h2 => ?_, ?_⟩
    · by_cases e : j = k
      · subst e
        refine ⟨o, h0, by simpa using hy, ?_⟩
        have : ¬ j + 1 = j := by omega
        simp only [this, if_false, if_true]
        exact e1
      · obtain ⟨o', ho', hy', ha'⟩ := e2 j (by omega) (by simp at h2; omega)
        refine ⟨o', ho', by simpa [e] using hy', ?_⟩
        have : ¬ j + 1 = k := by omega
        simp only [this, e, if_false]
        exact ha'
    · have : ¬ k + (o :: l).length = k := by simp
      simp only [this, if_false]
      have e4 : k + (o :: l).length = k + 1 + l.length := by simp; omega
      rw [e4]
      exact e3
end

/-- Each of the first f operations is waited for by a later one, the last of these by operation f. -/
def goneB (ops : Array Oper) (f : Nat) : Bool :=
  (List.range f).all fun j => (List.range (f + 1)).any fun k => decide (j < k) && Region.waitsFor .any ops k j

theorem gone_listed {ops : Array Oper} {f : Nat} {listed : Array Bool} (hG : goneB ops f = true) (hf : f < ops.size) (hcl : Closed .any ops listed) (h : listed.getD f false = true) : ∀ n j, f - j ≤ n → j ≤ f → listed.getD j false = true := by
  intro n
  induction n with
  | zero =>
    intro j hj hjf
    have : j = f := by omega
    rw [this]; exact h
  | succ n ih =>
    intro j hj hjf
    rcases Nat.eq_or_lt_of_le hjf with e | hlt
    · rw [e]; exact h
    · unfold goneB at hG
      rw [List.all_eq_true] at hG
      have := hG j (List.mem_range.2 hlt)
      rw [List.any_eq_true] at this
      obtain ⟨k, hk, hx⟩ := this
      simp only [Bool.and_eq_true, decide_eq_true_eq] at hx
      have hkf : k ≤ f := by have := List.mem_range.1 hk; omega
      have hkl := ih k (by omega) hkf
      obtain ⟨ok, hok⟩ : ∃ ok, ops[k]? = some ok := ⟨_, Array.getElem?_eq_getElem (by omega)⟩
      exact waits_listed hok (fun e he hb => hcl _ ok hok hkl e he hb) hx.2

/-- A region that draws its order: operations that are quiet, and behind all of them one chain. -/
theorem wp_region_qfloat {P : Program} {id : Nat} {Q : Exit → Act → World → Prop} {a : Act} {w : World} {l : List Oper} (f : Nat) (C : World → Prop) (hm : P.follows .mixedOrders = true) (hB : floatB l.toArray f l.length = true) (hG : goneB l.toArray f = true) (hf : f < l.length) (hC : C w.drew)
    (h : wpQf P C (fun b => ∀ w', C w' → wpChain P C Q 0 (l.drop f) b w') (l.take f) a) : (Code.region id l.toArray true).wp P Q a w := by
  have hfl := float_of hB
  generalize hops : l.toArray = ops at *
  have hsz : ops.size = l.length := by rw [← hops]; simp
  have htl : (l.take f).length = f := by simp; omega
  have hel : ∀ j : Nat, l[j]? = ops[j]? := fun j => by rw [← hops]; simp
  obtain ⟨val, acts, e1, e2, e3⟩ := qf_vals (ops := ops) (l.take f) 0 a (fun j hj => by
    rw [htl] at hj
    rw [List.getElem?_take_of_lt hj, Nat.zero_add]
    exact hel j) h
  rw [htl, Nat.zero_add] at e3
  simp only [htl, Nat.zero_add, Nat.zero_le, true_imp_iff] at e2
  have hfill := fun (val' : Nat → Value) (hv : ∀ j, j < f → val j = val' j) (d : Nat) (hd : d ≤ f) => ((float_fill hfl.dist' e1 e2) d hd).revalue (val' := val') fun j hj => hv j (by omega)
  have hsel := Region.noSelect_spec hfl.sel
  let St : Array Bool → Act → World → Prop := fun listed a' w' => listed.size = ops.size ∧ ∃ (t : Nat) (b : Act) (val' : Nat → Value), f + t ≤ ops.size ∧ (∀ j, j < f → val j = val' j) ∧ (∀ j, f ≤ j → (listed.getD j false = true ↔ j < f + t)) ∧
    (t = 0 → C w' ∧ b = acts f) ∧ (0 < t → wpChain P C Q 0 (l.drop (f + t)) b w') ∧ FillSt ops val' a (fun j => j < f + t) b ∧ FillSt ops val' a (fun j => listed.getD j false = true) a'
  refine wp_region_any hm (wpAny_inv St ?_ ?_ _ _ _ _ ?_ ?_ ?_)
  · rintro listed a' w' i oi ⟨hs, t, b, val', ht, hv, hch, hCw, hwp, hfb, hfa⟩ hcl hoi hun hd
    have hi : i < ops.size := (Array.getElem?_eq_some_iff.1 hoi).1
    have hun' : listed.getD i false = false := by
      simp [show i < listed.size by omega] at hun ⊢; exact hun
    rcases Nat.lt_or_ge i f with hif | hif
    · have htc : t = 0 := by
        rcases Nat.eq_zero_or_pos t with h' | h'
        · exact h'
        · exfalso
          have h1 := (hch f (by omega)).2 (by omega)
          have h2 := gone_listed hG (by omega) hcl h1 (f - i) i (Nat.le_refl _) (by omega)
          rw [hun'] at h2; cases h2
      obtain ⟨hC', hbf⟩ := hCw htc
      obtain ⟨o', ho', hy, _⟩ := e2 i hif
      rw [hoi] at ho'; injection ho' with ho'; subst ho'
      have hev := (hfill val' hv i (by omega)).evals hfa (o := oi) (fun d hdl j oj hj hdj => by
        rcases hfl.look hoi hj hdj hdl with ⟨h1, h2⟩ | ⟨h1, h2⟩
        · exact ⟨fun _ => waits_listed hoi hd h2, fun _ => h1⟩
        · refine ⟨fun h => by omega, fun h => ?_⟩
          have h3 := waits_listed hj (fun e he hb => hcl _ oj hj h e he hb) h2
          rw [hun'] at h3; cases h3)
      have hcg : execOp a'.eval oi = execOp (acts i).eval oi := execOp_congr oi (fun cs b => hsel i oi cs b hoi) hev
      have hyw := hy w' hC'
      have hnext : ∀ w'', C w'' → St (listed.setIfInBounds i true) (a'.put oi.dst (val i)) w'' := fun w'' hC'' => by
        refine ⟨by simpa using hs, t, b, val', ht, hv, fun j hj => ?_, fun _ => ⟨hC'', hbf⟩, fun h0 => by omega, hfb, ?_⟩
        · rw [set_getD (by omega)]
          have := hch j hj
          constructor
          · rintro (h1 | h1)
            · exact this.1 h1
            · omega
          · intro h1; exact .inl (this.2 h1)
        · rw [hv i hif]
          exact (hfa.put' hfl.dist' hoi).congr fun j => (set_getD (by omega)).symm
      unfold wpOp
      simp only [hoi]
      have hwt : Region.wanted oi (yielded ops a'.tmps) = true := by simp [Region.wanted, hfl.grd hoi]
      rw [if_pos hwt]
      refine .inl ?_
      unfold Oper.wp
      rw [hcg]
      unfold Oper.quietAt at hyw
      generalize (execOp (acts i).eval oi).run P w' = r at hyw
      cases r with
      | ok n w2 =>
        cases n <;> simp only [Oper.quietUpon] at hyw <;> simp only [Oper.upon]
        case value u =>
          obtain ⟨q1, q2⟩ := hyw
          rw [q1, q2]
          exact hnext _ hC'
        case skip =>
          obtain ⟨q1, q2⟩ := hyw
          rw [q1, ← q2]
          exact hnext _ hC'
        case enter g args =>
          obtain ⟨q1, hc⟩ := hyw
          rw [q1]
          exact hc.mono fun e w'' ⟨he, hw''⟩ => by subst he; exact hnext _ hw''
      | halt x w2 => simp only [Oper.quietUpon] at hyw
    · have hit : i = f + t := by
        have h1 := hch i hif
        rw [hun'] at h1
        have hge : f + t ≤ i := by
          rcases Nat.lt_or_ge i (f + t) with h' | h'
          · exact absurd (h1.2 h') (by simp)
          · exact h'
        rcases Nat.lt_or_ge (f + t) i with h' | h'
        · exfalso
          have h2 := waits_listed hoi hd (hfl.chain (by omega) hi)
          have h3 := (hch (i - 1) (by omega)).1 h2
          omega
        · omega
      subst hit
      have hdrop : l.drop (f + t) = oi :: l.drop (f + t + 1) := by
        have h1 : l[f + t]? = some oi := (hel _).trans hoi
        obtain ⟨h2, h3⟩ := List.getElem?_eq_some_iff.1 h1
        rw [List.drop_eq_getElem_cons h2, h3]
      have hwp' : wpChain P C Q 0 (oi :: l.drop (f + t + 1)) b w' := by
        rcases Nat.eq_zero_or_pos t with h' | h'
        · obtain ⟨hC', hbf⟩ := hCw h'
          have := e3 w' hC'
          rw [hbf, ← hdrop, h', Nat.add_zero]
          exact this
        · rw [← hdrop]; exact hwp h'
      have hev := hfb.evals hfa (o := oi) (fun d hdl j oj hj hdj => by
        rcases hfl.look hoi hj hdj hdl with ⟨h1, h2⟩ | ⟨h1, h2⟩
        · exact ⟨fun _ => waits_listed hoi hd h2, fun _ => h1⟩
        · refine ⟨fun h => by omega, fun h => ?_⟩
          have h3 := waits_listed hj (fun e he hb => hcl _ oj hj h e he hb) h2
          rw [hun'] at h3; cases h3)
      unfold wpOp
      simp only [hoi]
      have hwt : Region.wanted oi (yielded ops a'.tmps) = true := by simp [Region.wanted, hfl.grd hoi]
      rw [if_pos hwt]
      refine .inl (wp_move (execOp_congr oi (fun cs b => hsel _ oi cs b hoi) hev) hwp' (fun v w'' hK => ?_) (fun _ _ hK => hK.1))
      obtain ⟨_, _, hrest⟩ := hK
      let val2 : Nat → Value := fun j => if j = f + t then v else val' j
      have hv2 : val2 (f + t) = v := by simp [val2]
      have hv3 : ∀ j, j ≠ f + t → val' j = val2 j := fun j hj => by simp [val2, hj]
      have f1 := (hfb.revalue (val' := val2) fun j hj => hv3 j (by omega)).put' hfl.dist' hoi
      have f2 := (hfa.revalue (val' := val2) fun j hj => hv3 j (fun e => by rw [e, hun'] at hj; cases hj)).put' hfl.dist' hoi
      rw [hv2] at f1 f2
      refine ⟨by simpa using hs, t + 1, _, val2, by omega, fun j hj => (hv j hj).trans (hv3 j (by omega)), fun j hj => ?_, fun h0 => by omega, fun _ => ?_, f1.congr fun j => by omega, f2.congr fun j => (set_getD (by omega)).symm⟩
      · rw [set_getD (by omega)]
        have := hch j hj
        constructor
        · rintro (h1 | h1)
          · have := this.1 h1; omega
          · omega
        · intro h1
          rcases Nat.lt_or_ge j (f + t) with h' | h'
          · exact .inl (this.2 h')
          · exact .inr (by omega)
      · rw [show f + (t + 1) = f + t + 1 by omega]
        exact hrest
  · rintro listed a' w' ⟨hs, t, b, val', ht, hv, hch, hCw, hwp, hfb, hfa⟩ hr
    have hall : ∀ j, j < ops.size → listed.getD j false = true := by
      intro j
      induction j using Nat.strongRecOn with
      | _ j ih =>
        intro hj
        cases hl : listed.getD j false with
        | true => rfl
        | false =>
          exfalso
          obtain ⟨oj, hoj⟩ : ∃ oj, ops[j]? = some oj := ⟨_, Array.getElem?_eq_getElem hj⟩
          have : j ∈ Region.ready .any ops listed := mem_ready.2 ⟨by simpa [show j < listed.size by omega] using hl, oj, hoj, fun e he hb => by
            have h1 := hfl.low hoj e he hb
            exact ih _ h1 (by omega)⟩
          rw [hr] at this; cases this
    have hte : f + t = ops.size := by
      rcases Nat.lt_or_ge (f + t) ops.size with h' | h'
      · have := (hch (f + t) (by omega)).1 (hall _ h'); omega
      · omega
    have hab : a' = b := hfa.eq (hfb.congr fun j => by
      constructor
      · intro h1; exact hall j (by omega)
      · intro h1
        rcases Nat.lt_or_ge j ops.size with h' | h'
        · omega
        · simp [Array.getElem?_eq_none (show listed.size ≤ j by omega)] at h1)
    have hwp := hwp (by omega)
    have hnil : l.drop (f + t) = [] := List.drop_of_length_le (by omega)
    rw [hnil] at hwp
    rw [hab]
    exact hwp
  · refine ⟨by simp, 0, acts f, val, by omega, fun _ _ => rfl, fun j hj => ?_, fun _ => ⟨hC, rfl⟩, fun h0 => by omega, hfill val (fun _ _ => rfl) f (Nat.le_refl _), (FillSt.none ops val a).congr fun j => ⟨fun h => h.elim, fun h => ?_⟩⟩
    · rw [getD_replicate_false]
      constructor
      · intro h; cases h
      · intro h; omega
    · rw [getD_replicate_false] at h; cases h
  · intro j oj _ hl
    rw [getD_replicate_false] at hl; cases hl
  · simp

theorem wpQf_nil {P : Program} {C : World → Prop} {Q : Act → Prop} {a : Act} (h : Q a) : wpQf P C Q [] a := h

/-- One operation at a time, what follows behind a variable. -/
theorem wpQf_ex {P : Program} {C : World → Prop} {Q : Act → Prop} {o : Oper} {rest : List Oper} {a : Act}
    (h : ∀ K : Act → Prop, (∀ a', wpQf P C Q rest a' → K a') → ∃ v, (∀ w, C w → o.quietAt P a C w v) ∧ K (a.put o.dst v)) : wpQf P C Q (o :: rest) a := h _ fun _ h => h

/-- The quiet walk of the text, where no operation is guarded. -/
theorem wpQf_of_quiet {P : Program} {ops : Array Oper} {C : World → Prop} {Q : Act → Prop} : ∀ (l : List Oper) (a : Act), (∀ o ∈ l, o.guard = none) → wpQuiet P ops C Q l a → wpQf P C Q l a
  | [], _, _, h => h
  | o :: l, a, hg, h => by
    unfold wpQuiet at h
    have hw : Region.wanted o (yielded ops a.tmps) = true := by simp [Region.wanted, hg o (by simp)]
    rw [if_pos hw] at h
    obtain ⟨v, h1, h2⟩ := h
    exact ⟨v, h1, wpQf_of_quiet l _ (fun o' ho' => hg o' (by simp [ho'])) h2⟩
end Go.Proofs.YtimahogkcmmcnaaGreatDoor

import Derived.Test.YtdnkfgnjeibjeaaR3
import Derived.StillTail
namespace Go.Proofs.Ytdnkfgnjeibjeaa
open Go.RowKit Go.Shelf

/-- A region with one operation n that may do anything: what stands ahead of it in the text n waits for, what stands behind it waits for n. -/
def midB (ops : Array Oper) (n : Nat) : Bool :=
  Region.noSelect ops && decide (n < ops.size) &&
  (List.range ops.size).all fun i =>
    match ops[i]? with
    | none => false
    | some o => o.guard.isNone && (o.after.all fun e => !Region.binds .any e || decide (e.on < i)) &&
      ((List.range ops.size).all fun j =>
        match ops[j]? with
        | none => false
        | some oj =>
          match oj.dst with
          | none => true
          | some d => (!(o.looksAt ops).contains d || (decide (j < i) && Region.waitsFor .any ops i j)) && (decide (i = j) || o.dst != some d)) &&
      (decide (n ≤ i) || (List.range (n + 1)).any fun j => decide (i < j) && Region.waitsFor .any ops j i) &&
      (decide (i ≤ n) || (List.range i).any fun j => decide (n ≤ j) && Region.waitsFor .any ops i j)

structure Mid (ops : Array Oper) (n : Nat) : Prop where
  sel : Region.noSelect ops = true
  lt : n < ops.size
  grd : ∀ {i : Nat} {o : Oper}, ops[i]? = some o → o.guard = none
  low : ∀ {i : Nat} {o : Oper}, ops[i]? = some o → ∀ e ∈ o.after, Region.binds .any e = true → e.on < i
  look : ∀ {i j : Nat} {o oj : Oper} {d : Tmp}, ops[i]? = some o → ops[j]? = some oj → oj.dst = some d → d ∈ o.looksAt ops → j < i ∧ Region.waitsFor .any ops i j = true
  dist : ∀ {i j : Nat} {o oj : Oper} {d : Tmp}, ops[i]? = some o → ops[j]? = some oj → i ≠ j → oj.dst = some d → o.dst ≠ some d
  sink : ∀ {i : Nat}, i < n → ∃ j, i < j ∧ j ≤ n ∧ Region.waitsFor .any ops j i = true
  hang : ∀ {i : Nat}, n < i → i < ops.size → ∃ j, n ≤ j ∧ j < i ∧ Region.waitsFor .any ops i j = true

theorem mid_of {ops : Array Oper} {n : Nat} (h : midB ops n = true) : Mid ops n := by
  unfold midB at h
  simp only [Bool.and_eq_true, decide_eq_true_eq, List.all_eq_true, List.mem_range] at h
  obtain ⟨⟨h1, h2⟩, h3⟩ := h
  have key : ∀ {i : Nat} {o : Oper}, ops[i]? = some o → ((((o.guard.isNone = true ∧ (o.after.all fun e => !Region.binds .any e || decide (e.on < i)) = true) ∧
      ∀ j, j < ops.size → (match ops[j]? with | none => false | some oj => match oj.dst with | none => true | some d => (!(o.looksAt ops).contains d || (decide (j < i) && Region.waitsFor .any ops i j)) && (decide (i = j) || o.dst != some d)) = true) ∧
      (decide (n ≤ i) || (List.range (n + 1)).any fun j => decide (i < j) && Region.waitsFor .any ops j i) = true) ∧
      (decide (i ≤ n) || (List.range i).any fun j => decide (n ≤ j) && Region.waitsFor .any ops i j) = true) := by
    intro i o ho
    have hi : i < ops.size := (Array.getElem?_eq_some_iff.1 ho).1
    have := h3 i hi
    rw [ho] at this
    simpa only [Bool.and_eq_true, List.all_eq_true, List.mem_range] using this
  have two : ∀ {i j : Nat} {o oj : Oper} {d : Tmp}, ops[i]? = some o → ops[j]? = some oj → oj.dst = some d → ((!(o.looksAt ops).contains d || (decide (j < i) && Region.waitsFor .any ops i j)) && (decide (i = j) || o.dst != some d)) = true := by
    intro i j o oj d ho hj hd
    have := (key ho).1.1.2 j (Array.getElem?_eq_some_iff.1 hj).1
    rw [hj] at this
    simpa only [hd] using this
  refine ⟨h1, h2, fun ho => ?_, fun ho e he hb => ?_, fun ho hj hd hl => ?_, fun ho hj hij hd => ?_, fun {i} hi => ?_, fun {i} hi hs => ?_⟩
  · have := (key ho).1.1.1.1
    simpa using this
  · have h4 := (key ho).1.1.1.2
    rw [Array.all_eq_true'] at h4
    have := h4 e he
    rw [hb] at this
    simpa using this
  · have := two ho hj hd
    simp only [Bool.and_eq_true, Bool.or_eq_true, decide_eq_true_eq] at this
    rcases this.1 with h | h
    · exfalso
      rw [List.contains_iff_mem.2 hl] at h
      cases h
    · exact h
  · have := two ho hj hd
    simp only [Bool.and_eq_true, Bool.or_eq_true, decide_eq_true_eq] at this
    rcases this.2 with h | h
    · exact absurd h hij
    · simpa using h
  · obtain ⟨o, ho⟩ : ∃ o, ops[i]? = some o := ⟨_, Array.getElem?_eq_getElem (by omega)⟩
    have := (key ho).1.2
    simp only [Bool.or_eq_true, decide_eq_true_eq, List.any_eq_true, List.mem_range, Bool.and_eq_true] at this
    rcases this with h | ⟨j, hj, h4, h5⟩
    · omega
    · exact ⟨j, h4, by omega, h5⟩
  · obtain ⟨o, ho⟩ : ∃ o, ops[i]? = some o := ⟨_, Array.getElem?_eq_getElem hs⟩
    have := (key ho).2
    simp only [Bool.or_eq_true, decide_eq_true_eq, List.any_eq_true, List.mem_range, Bool.and_eq_true] at this
    rcases this with h | ⟨j, hj, h4, h5⟩
    · omega
    · exact ⟨j, h4, hj, h5⟩

/-- The frame with the slots of the operations L filled. -/
structure FillSt (ops : Array Oper) (val : Nat → Value) (a : Act) (L : Nat → Prop) (a' : Act) : Prop where
  defers : a'.defers = a.defers
  size : a'.tmps.size = a.tmps.size
  old : ∀ s, (∀ j oj, ops[j]? = some oj → L j → oj.dst ≠ some s) → a'.tmps[s]? = a.tmps[s]?
  new : ∀ s j oj, ops[j]? = some oj → L j → oj.dst = some s → s < a.tmps.size → a'.tmps[s]? = some (val j)

section
variable {ops : Array Oper} {val : Nat → Value} {a a' a1 a2 : Act} {L L' : Nat → Prop} {n : Nat}

theorem FillSt.none (ops : Array Oper) (val : Nat → Value) (a : Act) : FillSt ops val a (fun _ => False) a := ⟨rfl, rfl, fun _ _ => rfl, fun _ _ _ _ h => h.elim⟩

theorem FillSt.congr (h : FillSt ops val a L a') (hl : ∀ j, L j ↔ L' j) : FillSt ops val a L' a' :=
  ⟨h.defers, h.size, fun s hs => h.old s fun j oj ho hj => hs j oj ho ((hl j).1 hj), fun s j oj ho hj => h.new s j oj ho ((hl j).2 hj)⟩

theorem FillSt.put (hm : Mid ops n) (h : FillSt ops val a L a') {i : Nat} {oi : Oper} (hi : ops[i]? = some oi) : FillSt ops val a (fun j => L j ∨ j = i) (a'.put oi.dst (val i)) := by
  cases hd : oi.dst with
  | none =>
    refine ⟨h.defers, h.size, fun s hs => h.old s fun j oj ho hj => hs j oj ho (.inl hj), fun s j oj ho hj hds hlt => ?_⟩
    rcases hj with hj | rfl
    · exact h.new s j oj ho hj hds hlt
    · rw [hi] at ho; injection ho with ho; subst ho; rw [hd] at hds; cases hds
  | some d =>
    refine ⟨h.defers, by simpa [Act.put] using h.size, fun s hs => ?_, fun s j oj ho hj hds hlt => ?_⟩
    · have hne : d ≠ s := fun e => hs i oi hi (.inr rfl) (e ▸ hd)
      simp only [Act.put, Array.getElem?_setIfInBounds_ne hne]
      exact h.old s fun j oj ho hj => hs j oj ho (.inl hj)
    · by_cases e : j = i
      · subst e
        rw [hi] at ho; injection ho with ho; subst ho
        rw [hd] at hds; injection hds with hds; subst hds
        have : d < a'.tmps.size := by rw [h.size]; exact hlt
        simp [Act.put, this]
      · have hj' := hj.resolve_right e
        have hne : d ≠ s := fun e' => hm.dist ho hi e hd (e' ▸ hds)
        simp only [Act.put, Array.getElem?_setIfInBounds_ne hne]
        exact h.new s j oj ho hj' hds hlt

theorem FillSt.get (h1 : FillSt ops val a L a1) (h2 : FillSt ops val a L' a2) {s : Nat} (hl : ∀ j oj, ops[j]? = some oj → oj.dst = some s → (L j ↔ L' j)) : a1.tmps[s]? = a2.tmps[s]? := by
  by_cases hx : ∃ j oj, ops[j]? = some oj ∧ oj.dst = some s ∧ L j
  · obtain ⟨j, oj, ho, hd, hj⟩ := hx
    by_cases hs : s < a.tmps.size
    · rw [h1.new s j oj ho hj hd hs, h2.new s j oj ho ((hl j oj ho hd).1 hj) hd hs]
    · rw [Array.getElem?_eq_none (by rw [h1.size]; omega), Array.getElem?_eq_none (by rw [h2.size]; omega)]
  · rw [h1.old s fun j oj ho hj hd => hx ⟨j, oj, ho, hd, hj⟩, h2.old s fun j oj ho hj hd => hx ⟨j, oj, ho, hd, (hl j oj ho hd).2 hj⟩]

theorem FillSt.eq (h1 : FillSt ops val a L a1) (h2 : FillSt ops val a L a2) : a1 = a2 := by
  obtain ⟨t1, d1⟩ := a1
  obtain ⟨t2, d2⟩ := a2
  have hd : d1 = d2 := h1.defers.trans h2.defers.symm
  have ht : t1 = t2 := Array.ext_getElem? fun s => h1.get h2 fun _ _ _ _ => Iff.rfl
  rw [hd, ht]

theorem FillSt.yields {P : Program} {w : World} {o : Oper} {v : Value} (h1 : FillSt ops val a L a1) (h2 : FillSt ops val a L' a2) (hg : o.guard = Option.none) (hsel : ∀ cs b, o.op ≠ .select cs b)
    (hl : ∀ d, d ∈ o.looksAt ops → ∀ j oj, ops[j]? = some oj → oj.dst = some d → (L j ↔ L' j)) (hy : YieldsAt P ops w o v a1) : YieldsAt P ops w o v a2 := by
  refine hy.of_same (execOp_congr o hsel fun x hx => ?_) (by simp [Region.wanted, hg])
  cases x with
  | tmp d =>
    have hd : d ∈ o.looksAt ops := List.mem_append_left _ (List.mem_filterMap.2 ⟨.tmp d, by simpa using hx, rfl⟩)
    have := h2.get h1 (s := d) fun j oj ho hdd => (hl d hd j oj ho hdd).symm
    simp [Act.eval, this]
  | _ => rfl

/-- The values of a list of operations, carried out in the order of the text. -/
theorem still_vals {P : Program} {w : World} {Q : Act → Prop} : ∀ (l : List Oper) (k : Nat) (a : Act), (∀ j, j < l.length → l[j]? = ops[k + j]?) → wpStill P ops w Q l a →
    ∃ (val : Nat → Value) (acts : Nat → Act), acts k = a ∧ (∀ j, k ≤ j → j < k + l.length → ∃ o, ops[j]? = some o ∧ YieldsAt P ops w o (val j) (acts j) ∧ acts (j + 1) = (acts j).put o.dst (val j)) ∧ Q (acts (k + l.length))
  | [], k, a, _, h => ⟨fun _ => undef, fun _ => a, rfl, fun j h1 h2 => by simp at h2; omega, h⟩
  | o :: l, k, a, hl, h => by
    have h0 : ops[k]? = some o := by simpa using (hl 0 (by simp)).symm
    have hst : stOp P ops w k (wpStill P ops w Q l) a := by unfold stOp; simp only [h0]; exact h
    obtain ⟨v, hy, hK⟩ := yieldsAt_of_stOp h0 hst
    obtain ⟨val, acts, e1, e2, e3⟩ := still_vals l (k + 1) _ (fun j hj => by have := hl (j + 1) (by simp; omega); simpa [Nat.add_assoc, Nat.add_comm 1 j] using this) hK
    refine ⟨fun j => if j = k then v else val j, fun j => if j = k then a else acts j, by simp, fun j h1 h2 => ?_, ?_⟩
    · by_cases e : j = k
      · subst e
        refine ⟨o, h0, by simpa using hy, ?_⟩
        have : ¬ j + 1 = j := by omega
        simp only [this, if_false, if_true]
        exact e1
      · obtain ⟨o', ho', hy', ha'⟩ := e2 j (by omega) (by simp at h2; omega)
        refine ⟨o', ho', by simpa [e] using hy', ?_⟩
        have : ¬ j + 1 = k := by omega
        simp only [this, e, if_false]
        exact ha'
    · have : ¬ k + (o :: l).length = k := by simp
      simp only [this, if_false]
      have e4 : k + (o :: l).length = k + 1 + l.length := by simp; omega
      rw [e4]
      exact e3

theorem acts_fill (hm : Mid ops n) {P : Program} {w : World} {acts : Nat → Act} {k m : Nat} (ha : acts k = a) (h : ∀ j, k ≤ j → j < m → ∃ o, ops[j]? = some o ∧ YieldsAt P ops w o (val j) (acts j) ∧ acts (j + 1) = (acts j).put o.dst (val j)) :
    ∀ d, k + d ≤ m → FillSt ops val a (fun j => k ≤ j ∧ j < k + d) (acts (k + d)) := by
  intro d
  induction d with
  | zero => intro _; rw [Nat.add_zero, ha]; exact (FillSt.none ops val a).congr fun j => by simp
  | succ d ih =>
    intro hd
    obtain ⟨o, ho, _, e⟩ := h (k + d) (by omega) (by omega)
    have := (ih (by omega)).put hm ho
    rw [← e] at this
    exact this.congr fun j => by constructor <;> intro hj <;> omega

theorem waits_listed {listed : Array Bool} {i j : Nat} {o : Oper} (ho : ops[i]? = some o) (hd : ∀ e ∈ o.after, Region.binds .any e = true → listed.getD e.on false = true) (hw : Region.waitsFor .any ops i j = true) : listed.getD j false = true := by
  obtain ⟨o', ho', e, he, hb, hon⟩ := Region.waitsFor_spec hw
  rw [ho] at ho'; injection ho' with ho'; subst ho'
  rw [← hon]
  exact hd e he hb

theorem set_getD {listed : Array Bool} {i j : Nat} (hi : i < listed.size) : (listed.setIfInBounds i true).getD j false = true ↔ listed.getD j false = true ∨ j = i := by
  by_cases e : i = j
  · subst e; simp [hi]
  · have e' : ¬ j = i := fun h => e h.symm
    simp [e, e']

/-- Ahead of the one operation, or behind it. -/
def MidSt (P : Program) (ops : Array Oper) (n : Nat) (w : World) (Q : Exit → Act → World → Prop) (a : Act) (val : Nat → Value) (listed : Array Bool) (a' : Act) (w' : World) : Prop :=
  listed.size = ops.size ∧ ((w' = w ∧ (∀ j, n ≤ j → listed.getD j false = false) ∧ FillSt ops val a (fun j => listed.getD j false = true) a') ∨
    (listed.getD n false = true ∧ ∃ (b : Act) (val2 : Nat → Value) (acts : Nat → Act), acts (n + 1) = b ∧ (∀ j, n + 1 ≤ j → j < ops.size → ∃ o, ops[j]? = some o ∧ YieldsAt P ops w' o (val2 j) (acts j) ∧ acts (j + 1) = (acts j).put o.dst (val2 j)) ∧
      Q .normal (acts ops.size) w' ∧ FillSt ops val2 b (fun j => n < j ∧ listed.getD j false = true) a'))

end

/-- A region that draws its order, with one operation that may do anything: it is walked in the order of the text. -/
theorem wp_region_mid {P : Program} {id : Nat} {Q : Exit → Act → World → Prop} {a : Act} {w : World} {l : List Oper} (n : Nat) (o : Oper) (hn : l[n]? = some o) (hm : P.follows .mixedOrders = true) (hB : midB l.toArray n = true)
    (h : wpStill P l.toArray w.drew (fun a1 => ∀ K : Act → World → Prop, (∀ a2 w2, wpStill P l.toArray w2 (fun a3 => Q .normal a3 w2) (l.drop (n + 1)) a2 → K a2 w2) → o.wp P a1 w.drew K Q) (l.take n) a) : (Code.region id l.toArray true).wp P Q a w := by
  have hmid := mid_of hB
  have hno : l.toArray[n]? = some o := by simpa using hn
  have hlt : n < l.length := by simpa using hmid.lt
  generalize hops : l.toArray = ops at *
  have hsz : ops.size = l.length := by rw [← hops]; simp
  have htl : (l.take n).length = n := by simp; omega
  have hel : ∀ j : Nat, l[j]? = ops[j]? := fun j => by rw [← hops]; simp
  obtain ⟨val, acts, e1, e2, e3⟩ := still_vals (ops := ops) (l.take n) 0 a (fun j hj => by
    rw [htl] at hj
    rw [List.getElem?_take_of_lt hj, Nat.zero_add]
    exact hel j) h
  rw [htl, Nat.zero_add] at e2 e3
  have hf := fun (d : Nat) (hd : d ≤ n) => acts_fill hmid e1 e2 d (by omega)
  simp only [Nat.zero_add, Nat.zero_le, true_and] at hf
  refine wp_region_any hm (wpAny_inv (MidSt P ops n w.drew Q a val) ?_ ?_ _ _ _ _ ?_ ?_ ?_)
  · rintro listed a' w' i oi ⟨hs, hst⟩ hcl hoi hun hd
    have hi : i < ops.size := (Array.getElem?_eq_some_iff.1 hoi).1
    have hsel := Region.noSelect_spec hmid.sel
    rcases hst with ⟨rfl, htail, hfill⟩ | ⟨hln, b, val2, acts2, b1, b2, b3, hfill⟩
    · rcases Nat.lt_trichotomy i n with hin | rfl | hin
      · obtain ⟨o', ho', hy, _⟩ := e2 i (Nat.zero_le _) hin
        rw [hoi] at ho'; injection ho' with ho'; subst ho'
        have hy' : YieldsAt P ops w.drew oi (val i) a' := (hf i (by omega)).yields hfill (hmid.grd hoi) (fun cs b => hsel i oi cs b hoi) (fun d hdl j oj hj hdj => by
          obtain ⟨h1, h2⟩ := hmid.look hoi hj hdj hdl
          exact ⟨fun _ => waits_listed hoi hd h2, fun _ => h1⟩) hy
        refine wpOp_of_stOp (K := fun a'' => a'' = a'.put oi.dst (val i)) ?_ (hy'.stOp hoi rfl)
        rintro a'' rfl
        refine ⟨by simpa using hs, .inl ⟨rfl, fun j hj => ?_, ?_⟩⟩
        · have : i ≠ j := by omega
          simpa [this] using htail j hj
        · exact (hfill.put hmid hoi).congr fun j => (set_getD (by omega)).symm
      · rw [hno] at hoi; injection hoi with hoi; subst hoi
        have hall : ∀ d j, i - j = d → j < i → listed.getD j false = true := by
          intro d
          induction d using Nat.strongRecOn with
          | _ d ih =>
            intro j hjd hj
            obtain ⟨m, h1, h2, h3⟩ := hmid.sink hj
            by_cases e : m = i
            · subst e; exact waits_listed hno hd h3
            · have h4 := ih (i - m) (by omega) m rfl (by omega)
              obtain ⟨om, hom⟩ : ∃ om, ops[m]? = some om := ⟨_, Array.getElem?_eq_getElem (by omega)⟩
              exact waits_listed hom (fun e he hb => hcl m om hom h4 e he hb) h3
        have hae : a' = acts i := hfill.eq ((hf i (Nat.le_refl _)).congr fun j => ⟨fun hj => hall _ j rfl hj, fun hj => by
          rcases Nat.lt_or_ge j i with h | h
          · exact h
          · rw [htail j h] at hj; cases hj⟩)
        have hw : wpOp P ops Q i (fun a2 w2 => MidSt P ops i w.drew Q a val (listed.setIfInBounds i true) a2 w2) (acts i) w.drew := by
          unfold wpOp
          simp only [hno]
          have hwt : Region.wanted o (yielded ops (acts i).tmps) = true := by simp [Region.wanted, hmid.grd hno]
          rw [if_pos hwt]
          refine .inl (e3 _ fun a2 w2 h2 => ⟨by simpa using hs, .inr ⟨(set_getD (by omega)).2 (.inr rfl), ?_⟩⟩)
          obtain ⟨val2, acts2, c1, c2, c3⟩ := still_vals (ops := ops) (l.drop (i + 1)) (i + 1) a2 (fun j _ => by rw [List.getElem?_drop]; exact hel _) h2
          have c4 : i + 1 + (l.drop (i + 1)).length = ops.size := by rw [hsz]; simp; omega
          rw [c4] at c2 c3
          refine ⟨a2, val2, acts2, c1, c2, c3, (FillSt.none ops val2 a2).congr fun j => ⟨fun h => h.elim, fun hj => ?_⟩⟩
          have h5 := htail j (by omega)
          have h6 := ((set_getD (by omega)).1 hj.2).resolve_right (by omega)
          rw [h5] at h6; cases h6
        rw [hae]
        exact hw
      · obtain ⟨j, h1, h2, h3⟩ := hmid.hang hin hi
        have := waits_listed hoi hd h3
        rw [htail j h1] at this; cases this
    · have hin : n < i := by
        rcases Nat.lt_trichotomy i n with h | rfl | h
        · exfalso
          have hall : ∀ d j, n - j = d → j < n → listed.getD j false = true := by
            intro d
            induction d using Nat.strongRecOn with
            | _ d ih =>
              intro j hjd hj
              obtain ⟨m, h1, h2, h3⟩ := hmid.sink hj
              have h4 : listed.getD m false = true := by
                by_cases e : m = n
                · subst e; exact hln
                · exact ih (n - m) (by omega) m rfl (by omega)
              obtain ⟨om, hom⟩ : ∃ om, ops[m]? = some om := ⟨_, Array.getElem?_eq_getElem (by omega)⟩
              exact waits_listed hom (fun e he hb => hcl m om hom h4 e he hb) h3
          have := hall _ i rfl h
          simp [show i < listed.size by omega] at hun this
          rw [hun] at this; cases this
        · exfalso
          simp [show i < listed.size by omega] at hun hln
          rw [hun] at hln; cases hln
        · exact h
      obtain ⟨o', ho', hy, _⟩ := b2 i (by omega) hi
      rw [hoi] at ho'; injection ho' with ho'; subst ho'
      have hg := acts_fill hmid b1 b2 (i - (n + 1)) (by omega)
      have e5 : n + 1 + (i - (n + 1)) = i := by omega
      rw [e5] at hg
      have hg' : FillSt ops val2 b (fun j => n + 1 ≤ j ∧ j < i) (acts2 i) := hg
      have hy' : YieldsAt P ops w' oi (val2 i) a' := hg'.yields hfill (hmid.grd hoi) (fun cs b => hsel i oi cs b hoi) (fun d hdl j oj hj hdj => by
        obtain ⟨h1, h2⟩ := hmid.look hoi hj hdj hdl
        exact ⟨fun h => ⟨by omega, waits_listed hoi hd h2⟩, fun h => ⟨by omega, h1⟩⟩) hy
      refine wpOp_of_stOp (K := fun a'' => a'' = a'.put oi.dst (val2 i)) ?_ (hy'.stOp hoi rfl)
      rintro a'' rfl
      refine ⟨by simpa using hs, .inr ⟨getD_set_true hln, b, val2, acts2, b1, b2, b3, ?_⟩⟩
      exact (hfill.put hmid hoi).congr fun j => by
        rw [set_getD (by omega)]
        constructor
        · rintro (⟨h1, h2⟩ | rfl)
          · exact ⟨h1, .inl h2⟩
          · exact ⟨hin, .inr rfl⟩
        · rintro ⟨h1, h2 | h2⟩
          · exact .inl ⟨h1, h2⟩
          · exact .inr h2
  · rintro listed a' w' ⟨hs, hst⟩ hr
    have hall : ∀ j, j < ops.size → listed.getD j false = true := by
      intro j
      induction j using Nat.strongRecOn with
      | _ j ih =>
        intro hj
        cases hl : listed.getD j false with
        | true => rfl
        | false =>
          exfalso
          obtain ⟨oj, hoj⟩ : ∃ oj, ops[j]? = some oj := ⟨_, Array.getElem?_eq_getElem hj⟩
          have : j ∈ Region.ready .any ops listed := mem_ready.2 ⟨by simpa [show j < listed.size by omega] using hl, oj, hoj, fun e he hb => by
            have h1 := hmid.low hoj e he hb
            exact ih _ h1 (by omega)⟩
          rw [hr] at this; cases this
    rcases hst with ⟨_, htail, _⟩ | ⟨_, b, val2, acts2, b1, b2, b3, hfill⟩
    · have := hall n hmid.lt
      rw [htail n (Nat.le_refl _)] at this; cases this
    · have hg := acts_fill hmid b1 b2 (ops.size - (n + 1)) (by have := hmid.lt; omega)
      have e5 : n + 1 + (ops.size - (n + 1)) = ops.size := by have := hmid.lt; omega
      rw [e5] at hg
      have hae : a' = acts2 ops.size := hfill.eq (hg.congr fun j => by
        constructor
        · rintro ⟨h1, h2⟩; exact ⟨by omega, hall j h2⟩
        · rintro ⟨h1, h2⟩
          refine ⟨by omega, ?_⟩
          rcases Nat.lt_or_ge j ops.size with h | h
          · exact h
          · simp [Array.getElem?_eq_none (show listed.size ≤ j by omega)] at h2)
      rw [hae]
      exact b3
  · refine ⟨by simp, .inl ⟨rfl, fun j _ => getD_replicate_false _ _, (FillSt.none ops val a).congr fun j => ⟨fun h => h.elim, fun h => ?_⟩⟩⟩
    rw [getD_replicate_false] at h; cases h
  · intro j oj _ hl
    rw [getD_replicate_false] at hl; cases hl
  · simp

end Go.Proofs.Ytdnkfgnjeibjeaa

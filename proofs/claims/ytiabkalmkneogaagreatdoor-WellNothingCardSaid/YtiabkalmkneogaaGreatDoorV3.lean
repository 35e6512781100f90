/-
  An evaluator for closed calls, part 3: it proves that a call does what the evaluator computes, in whatever world. No conditions.
-/
import Derived.Test.YtiabkalmkneogaaGreatDoorV2
import Derived.Orders
set_option linter.unusedSimpArgs false
set_option linter.unusedVariables false

namespace Go.Proofs.YtiabkalmkneogaaGreatDoor.Ev
open Go.RowKit

/-- An operation that changes the abstract heap: its number, its operands' values, the heap before, its value, the heap behind. -/
structure Ent where
  i : Nat
  vs : List AV
  s : S
  v : AV
  t : S

/-- 0: changes nothing; 1: makes a new object; 2: whatever. -/
def kindOp : Op → Nat
  | .alloc _ | .box _ _ | .makeMap _ none => 1
  | .move _ | .assign _ | .pick _ _ _ | .build _ _ | .load _ _ | .nilCheck _ | .binOp _ _ _ _ _ | .unOp _ _ _ | .convert _ _ _ | .makeInterface _ _ | .makeFunc _ _ _
  | .slice _ _ _ _ _ | .fieldAddr _ _ _ | .field _ _ _ | .indexAddr _ _ _ | .index _ _ _ | .lookup _ _ _ _ | .typeAssert _ _ _ _ | .extract _ _ => 0
  | .call c => match c.callee with
    | .builtin .len | .builtin .min | .builtin .max => 0
    | _ => 2
  | _ => 2

/-- A region's operations in the text's order: their values, and what changes the heap. -/
def pass (g : G) (cf : CF) (all : Array Oper) : List Oper → Nat → Regs → S → Option (List AV × List Ent)
  | [], _, _, _ => some ([], [])
  | o :: rest, i, r, s => match wants all r o with
    | false => match pass g cf all rest (i + 1) (put r o.dst undef) s with
      | some (V, E) => some (undef :: V, E)
      | none => none
    | true => match vals g r o.op.operands.toList with
      | none => none
      | some vs => match stepE g cf s o.op vs with
        | none => none
        | some (v, t) => match kindOp o.op with
          | 0 => match pass g cf all rest (i + 1) (put r o.dst v) s with
            | some (V, E) => some (v :: V, E)
            | none => none
          | _ + 1 => match pass g cf all rest (i + 1) (put r o.dst v) t with
            | some (V, E) => some (v :: V, ⟨i, vs, s, v, t⟩ :: E)
            | none => none

def ancs : List Oper → List Nat → List Nat
  | [], acc => acc
  | o :: l, acc => ancs l (acc ++ [o.after.toList.foldr (fun e m => match Region.binds .any e with
    | true => m ||| (2 ^ e.on ||| (acc[e.on]?).getD 0)
    | false => m) 0])

/-- A region under way. -/
structure Reg where
  all : Array Oper
  A : List Nat
  r0 : Regs
  s0 : S
  V : List AV
  E : List Ent

namespace Reg
def anc (c : Reg) (i j : Nat) : Bool := Nat.testBit ((c.A[i]?).getD 0) j
def st (c : Reg) : Nat → Option S
  | 0 => some c.s0
  | k + 1 => match c.E[k]? with
    | some e => some e.t
    | none => none
def isDst (o : Oper) (t : Tmp) : Bool := match o.dst with
  | some d => Nat.beq d t
  | none => false
def writer (t : Tmp) : List Oper → Nat → Option Nat
  | [], _ => none
  | o :: l, j => match isDst o t with
    | true => some j
    | false => writer t l (j + 1)
def look (c : Reg) (i : Nat) (t : Tmp) : Option AV := match writer t c.all.toList 0 with
  | some j => match c.anc i j with
    | true => c.V[j]?
    | false => match c.anc j i with
      | true => match T.get c.r0 t with
        | some v => some v
        | none => some undef
      | false => none
  | none => match T.get c.r0 t with
    | some v => some v
    | none => some undef
def val (g : G) (c : Reg) (i : Nat) : Operand → Option AV
  | .tmp t => c.look i t
  | x => Ev.val g .e x
def vals (g : G) (c : Reg) (i : Nat) : List Operand → Option (List AV)
  | [] => some []
  | x :: l => match c.val g i x, c.vals g i l with
    | some v, some vs => some (v :: vs)
    | _, _ => none
def want (c : Reg) (i : Nat) (o : Oper) : Option Bool := match o.guard with
  | none => some true
  | some (j, w) => match c.all[j]? with
    | some oj => match oj.dst with
      | some _ => match c.anc i j with
        | true => match asB c.V[j]? with
          | some b => some (b == w)
          | none => some false
        | false => none
      | none => some false
    | none => some false
def tight (c : Reg) (p : Nat) : Bool := match c.E[p]? with
  | some ep => (c.E.take p).all fun e => c.anc ep.i e.i
  | none => true
def inRange (c : Reg) (i k : Nat) : Bool := (List.range c.E.length).all fun p => match c.E[p]? with
  | some e => (!(c.anc i e.i && c.tight p) || Nat.blt p k) && (!(c.anc e.i i) || Nat.ble k p)
  | none => true
def notIn (c : Reg) (i : Nat) : Bool := c.E.all fun e => !(Nat.beq e.i i)
def plainOk (g : G) (c : Reg) (i : Nat) (o : Op) (vs : List AV) (v : AV) : Bool := (List.range (c.E.length + 1)).all fun k => !(c.inRange i k) || match c.st k with
  | some s => match exec g s o vs with
    | some (.val v' _) => AV.beq v' v
    | _ => false
  | none => false
def effOk (c : Reg) (i : Nat) (k : Nat) (vs : List AV) (v : AV) : Bool := (List.range c.E.length).all fun p => match c.E[p]? with
  | some e => !(Nat.beq e.i i) || (AV.beqs vs e.vs && AV.beq v e.v && (Nat.beq k 1 || c.tight p))
  | none => true
def opOk (g : G) (nt : Nat) (c : Reg) (i : Nat) : Bool := match c.all[i]?, c.V[i]? with
  | some o, some v =>
    dstOk nt o.dst && (o.after.toList.all fun e => !(Region.binds .any e) || Nat.blt e.on i) &&
    (match o.dst with
      | some d => match writer d c.all.toList 0 with
        | some j => Nat.beq j i
        | none => false
      | none => true) &&
    match c.want i o with
    | none => false
    | some false => AV.beq v undef && c.notIn i
    | some true => match c.vals g i o.op.operands.toList with
      | none => false
      | some vs => match kindOp o.op with
        | 0 => c.notIn i && c.plainOk g i o.op vs v
        | k + 1 => (c.E.any fun e => Nat.beq e.i i) && c.effOk i (k + 1) vs v
  | _, _ => false
def inc : List Ent → Bool
  | [] => true
  | e :: l => (match l with
    | [] => true
    | f :: _ => Nat.blt e.i f.i) && inc l
def ok (g : G) (nt : Nat) (c : Reg) : Bool := inc c.E && (c.E.all fun e => Nat.blt e.i c.all.size) && (List.range c.all.size).all fun i => c.opOk g nt i
end Reg

def fin : List Oper → List AV → Regs → Regs
  | o :: l, v :: V, r => fin l V (put r o.dst v)
  | _, _, r => r

def lastS (s : S) : List Ent → S
  | [] => s
  | e :: l => lastS e.t l

/-- A region that draws its order. -/
def drawn (g : G) (cf : CF) (nt : Nat) (all : Array Oper) (a : A) : Option A :=
  match pass g cf all all.toList 0 a.r a.s with
  | none => none
  | some (V, E) => match Reg.ok g nt ⟨all, ancs all.toList [], a.r, a.s, V, E⟩ with
    | true => some { r := fin all.toList V a.r, s := lastS a.s E }
    | false => none

end Go.Proofs.YtiabkalmkneogaaGreatDoor.Ev

namespace Go.Proofs.YtiabkalmkneogaaGreatDoor.Ev
open Go.RowKit

mutual
theorem AV.beq_eq : ∀ (a b : AV), AV.beq a b = true → a = b
  | .bool x, b, h => by cases b <;> simp [AV.beq] at h; rw [h]
  | .int k x, b, h => by cases b <;> simp [AV.beq] at h; rw [h.1, h.2]
  | .str l, b, h => by cases b <;> simp [AV.beq] at h; rw [h]
  | .ptr a, b, h => by cases b <;> simp [AV.beq] at h; rw [h]
  | .slice a l c, b, h => by cases b <;> simp [AV.beq] at h; rw [h.1.1, h.1.2, h.2]
  | .map a, b, h => by cases b <;> simp [AV.beq] at h; rw [h]
  | .func f a c, b, h => by
    cases b <;> simp [AV.beq] at h
    rw [h.1.1, AV.beqs_eq a _ h.1.2, AV.beqs_eq c _ h.2]
  | .nilFunc, b, h => by cases b <;> simp [AV.beq] at h; rfl
  | .iface t v, b, h => by
    cases b <;> simp [AV.beq] at h
    rw [h.1, AV.beq_eq v _ h.2]
  | .nilIface, b, h => by cases b <;> simp [AV.beq] at h; rfl
  | .agg c, b, h => by
    cases b <;> simp [AV.beq] at h
    rw [AV.beqs_eq c _ h]
  | .tuple c, b, h => by
    cases b <;> simp [AV.beq] at h
    rw [AV.beqs_eq c _ h]
theorem AV.beqs_eq : ∀ (a b : List AV), AV.beqs a b = true → a = b
  | [], b, h => by cases b <;> simp [AV.beqs] at h; rfl
  | x :: l, b, h => by
    cases b <;> simp [AV.beqs] at h
    rw [AV.beq_eq x _ h.1, AV.beqs_eq l _ h.2]
end

/-- What a plain operation leaves. -/
theorem plain_st {g : G} {s : S} {o : Op} {vs : List AV} {r : R} (hk : kindOp o = 0) (h : exec g s o vs = some r) : ∃ v, r = .val v s := by
  have none_ : ∀ {x : Option R}, x = none → x = some r → ∃ v, r = .val v s := fun h1 h2 => by rw [h1] at h2; cases h2
  have valO_ : ∀ {x : Option AV}, valO s x = some r → ∃ v, r = .val v s := fun {x} h => by
    unfold valO at h
    split at h
    · injection h with h; exact ⟨_, h.symm⟩
    · cases h
  cases o <;> simp only [exec] at h
  case call c =>
    obtain ⟨callee, args, ats⟩ := c
    unfold exCall at h
    cases callee with
    | value f => simp [kindOp] at hk
    | invoke x m => exact none_ rfl h
    | builtin b =>
      cases b <;> simp [kindOp] at hk <;> simp only [builtin] at h
      all_goals
        repeat' (split at h)
        all_goals first
          | exact none_ rfl h
          | (injection h with h; exact ⟨_, h.symm⟩)
  all_goals first
    | (simp [kindOp] at hk; done)
    | exact none_ rfl h
    | (injection h with h; exact ⟨_, h.symm⟩)
    | (try simp only [exBuild, exFieldAddr, exField, exIndexAddr, exIndex, exLookup, exAssert, sliceOp] at h
       repeat' (split at h)
       all_goals first
         | exact none_ rfl h
         | exact valO_ h
         | (injection h with h; exact ⟨_, h.symm⟩)
         | (simp only [sliceOp] at h
            repeat' (split at h)
            all_goals first
              | exact none_ rfl h
              | (injection h with h; exact ⟨_, h.symm⟩)))
    | (cases ‹Option Operand› <;> simp [kindOp] at hk)

/-- What an operation that makes an object does. -/
theorem alloc_shape {g : G} {s : S} {o : Op} {vs : List AV} {r : R} (hk : kindOp o = 1) (h : exec g s o vs = some r) :
    ∃ (ob : AO) (mk : Nat → AV), r = .val (mk s.n) (Ev.new s ob) ∧ ∀ s', exec g s' o vs = some (.val (mk s'.n) (Ev.new s' ob)) := by
  cases o <;> simp only [kindOp] at hk <;> first | (cases hk; done) | skip
  case alloc t =>
    simp only [exec] at h ⊢
    cases hz : g.zero t with
    | none => rw [hz] at h; cases h
    | some z =>
      rw [hz] at h
      injection h with h
      exact ⟨_, fun n => .ptr (some (n, 0)), h.symm, fun s' => rfl⟩
  case box t x =>
    simp only [exec] at h ⊢
    cases vs with
    | nil => cases h
    | cons v vs =>
      cases vs with
      | nil => injection h with h; exact ⟨_, fun n => .ptr (some (n, 0)), h.symm, fun s' => rfl⟩
      | cons _ _ => cases h
  case makeMap t r' =>
    cases r' with
    | some _ => cases hk
    | none =>
      simp only [exec] at h ⊢
      injection h with h
      exact ⟨.map [] 0, fun n => .map (some n), h.symm, fun s' => rfl⟩
  case call c =>
    obtain ⟨callee, args, ats⟩ := c
    cases callee with
    | builtin b => cases b <;> cases hk
    | _ => cases hk

/-- What must have been carried out ahead. -/
inductive Anc (all : Array Oper) : Nat → Nat → Prop
  | one {i : Nat} {o : Oper} {e : Edge} (ho : all[i]? = some o) (he : e ∈ o.after) (hb : Region.binds .any e = true) : Anc all i e.on
  | more {i j : Nat} {o : Oper} {e : Edge} (ho : all[i]? = some o) (he : e ∈ o.after) (hb : Region.binds .any e = true) (h : Anc all e.on j) : Anc all i j

theorem foldr_bits {all : Array Oper} {acc : List Nat} (hacc : ∀ i j, Nat.testBit ((acc[i]?).getD 0) j = true → Anc all i j) {i : Nat} {o : Oper} (ho : all[i]? = some o) : ∀ (l : List Edge), (∀ e ∈ l, e ∈ o.after) → ∀ j,
    Nat.testBit (l.foldr (fun e m => match Region.binds .any e with
    | true => m ||| (2 ^ e.on ||| (acc[e.on]?).getD 0)
    | false => m) 0) j = true → Anc all i j
  | [], _, j, h => by simp at h
  | e :: l, hl, j, h => by
    rw [List.foldr_cons] at h
    split at h
    · rename_i hb
      rw [Nat.testBit_or, Nat.testBit_or, Bool.or_eq_true, Bool.or_eq_true] at h
      rcases h with h | h | h
      · exact foldr_bits hacc ho l (fun e he => hl e (List.mem_cons_of_mem _ he)) j h
      · rw [Nat.testBit_two_pow] at h
        have : e.on = j := by simpa using h
        subst this
        exact .one ho (hl e List.mem_cons_self) hb
      · exact .more ho (hl e List.mem_cons_self) hb (hacc _ _ h)
    · exact foldr_bits hacc ho l (fun e he => hl e (List.mem_cons_of_mem _ he)) j h

theorem ancs_spec {all : Array Oper} : ∀ (l : List Oper) (acc : List Nat), all.toList.drop acc.length = l → (∀ i j, Nat.testBit ((acc[i]?).getD 0) j = true → Anc all i j) →
    ∀ i j, Nat.testBit (((ancs l acc)[i]?).getD 0) j = true → Anc all i j
  | [], acc, _, hacc => by simpa [ancs] using hacc
  | o :: l, acc, hl, hacc => by
    simp only [ancs]
    have hlt : acc.length < all.toList.length := by
      rcases Nat.lt_or_ge acc.length all.toList.length with h | h
      · exact h
      · rw [List.drop_eq_nil_of_le h] at hl; cases hl
    have hl' := hl
    rw [List.drop_eq_getElem_cons hlt] at hl'
    injection hl' with ho hrest
    have hoo : all[acc.length]? = some o := by rw [← ho]; simp
    refine ancs_spec l _ (by simpa using hrest) fun i j h => ?_
    rcases Nat.lt_or_ge i acc.length with hi | hi
    · rw [List.getElem?_append_left hi] at h
      exact hacc i j h
    · rw [List.getElem?_append_right hi] at h
      cases hq : i - acc.length with
      | zero =>
        have : i = acc.length := by omega
        subst this
        rw [hq] at h
        simp only [List.getElem?_cons_zero, Option.getD_some] at h
        exact foldr_bits hacc hoo _ (fun e he => by simpa using he) j h
      | succ q => rw [hq] at h; simp at h

/-- What has been carried out. -/
def dn (L : Array Bool) (i : Nat) : Prop := L.getD i false = true

def Clsd (all : Array Oper) (L : Array Bool) : Prop :=
  ∀ j o, all[j]? = some o → dn L j → ∀ e ∈ o.after, Region.binds .any e = true → dn L e.on

theorem Anc.ready {all : Array Oper} {L : Array Bool} (hc : Clsd all L) {i j : Nat} (h : Anc all i j) (hi : ∀ o e, all[i]? = some o → e ∈ o.after → Region.binds .any e = true → dn L e.on) : dn L j := by
  induction h with
  | one ho he hb => exact hi _ _ ho he hb
  | more ho he hb _ ih => exact ih fun o e ho' he' hb' => hc _ _ ho' (hi _ _ ho he hb) e he' hb'

theorem Anc.closed {all : Array Oper} {L : Array Bool} (hc : Clsd all L) {i j : Nat} (h : Anc all i j) (hi : dn L i) : dn L j :=
  h.ready hc fun o e ho he hb => hc i o ho hi e he hb

theorem dn_set {L : Array Bool} {i j : Nat} (hi : L.getD i true = false) : dn (L.setIfInBounds i true) j ↔ dn L j ∨ j = i := by
  have hlt : i < L.size := by
    rcases Nat.lt_or_ge i L.size with h' | h'
    · exact h'
    · simp [Array.getElem?_eq_none h'] at hi
  unfold dn
  by_cases e : j = i
  · subst e; simp [hlt]
  · have e' : i ≠ j := fun h => e h.symm
    simp [Array.getElem?_setIfInBounds_ne e', e]

theorem not_dn {L : Array Bool} {i : Nat} (hi : L.getD i true = false) : ¬ dn L i := by
  have hlt : i < L.size := by
    rcases Nat.lt_or_ge i L.size with h' | h'
    · exact h'
    · simp [Array.getElem?_eq_none h'] at hi
  unfold dn
  simp [hlt] at hi ⊢
  exact hi

namespace Reg
variable {g : G} {cf : CF} {nt : Nat} {c : Reg}

theorem writer_some {t : Tmp} : ∀ {l : List Oper} {k j : Nat}, writer t l k = some j → ∃ q o, j = k + q ∧ l[q]? = some o ∧ o.dst = some t
  | [], k, j, h => by simp [writer] at h
  | o :: l, k, j, h => by
    simp only [writer] at h
    split at h
    · rename_i hd
      injection h with h
      refine ⟨0, o, by omega, rfl, ?_⟩
      unfold isDst at hd
      split at hd
      · rename_i d hdd
        rw [hdd, Nat.eq_of_beq_eq_true hd]
      · cases hd
    · obtain ⟨q, o', h1, h2, h3⟩ := writer_some h
      exact ⟨q + 1, o', by omega, by simpa using h2, h3⟩

theorem writer_none {t : Tmp} : ∀ {l : List Oper} {k : Nat}, writer t l k = none → ∀ o ∈ l, o.dst ≠ some t
  | [], k, h, o, ho => by cases ho
  | o :: l, k, h, o', ho => by
    simp only [writer] at h
    split at h
    · cases h
    · rename_i hd
      rcases List.mem_cons.1 ho with rfl | ho
      · intro e
        unfold isDst at hd
        rw [e] at hd
        simp at hd
      · exact writer_none h o' ho

/-- What 'opOk' says. -/
theorem opOk_spec {i : Nat} (h : c.opOk g nt i = true) {o : Oper} (ho : c.all[i]? = some o) : ∃ v, c.V[i]? = some v ∧ dstOk nt o.dst = true ∧ (∀ e ∈ o.after, Region.binds .any e = true → e.on < i) ∧
    (∀ d, o.dst = some d → writer d c.all.toList 0 = some i) ∧
    ((c.want i o = some false ∧ v = undef ∧ c.notIn i = true) ∨ (c.want i o = some true ∧ ∃ vs, c.vals g i o.op.operands.toList = some vs ∧
      ((kindOp o.op = 0 ∧ c.notIn i = true ∧ c.plainOk g i o.op vs v = true) ∨ ∃ k, kindOp o.op = k + 1 ∧ (∃ e ∈ c.E, e.i = i) ∧ c.effOk i (k + 1) vs v = true))) := by
  unfold opOk at h
  rw [ho] at h
  split at h
  · rename_i o' v he hv
    injection he with he
    subst he
    simp only [Bool.and_eq_true] at h
    obtain ⟨⟨⟨h1, h2⟩, h3⟩, h4⟩ := h
    refine ⟨v, hv, h1, fun e he hb => ?_, fun d hd => ?_, ?_⟩
    · have := List.all_eq_true.1 h2 e (by simpa using he)
      rw [hb] at this
      simp only [Bool.not_true, Bool.false_or] at this
      exact Nat.le_of_ble_eq_true this
    · rw [hd] at h3
      dsimp only at h3
      split at h3
      · rename_i j hj
        rw [hj, Nat.eq_of_beq_eq_true h3]
      · cases h3
    · split at h4
      · cases h4
      · rename_i hw
        simp only [Bool.and_eq_true] at h4
        exact .inl ⟨hw, AV.beq_eq _ _ h4.1, h4.2⟩
      · rename_i hw
        split at h4
        · cases h4
        · rename_i vs hvs
          refine .inr ⟨hw, vs, hvs, ?_⟩
          split at h4
          · rename_i hk
            simp only [Bool.and_eq_true] at h4
            exact .inl ⟨hk, h4.1, h4.2⟩
          · rename_i k hk
            simp only [Bool.and_eq_true] at h4
            obtain ⟨e, he, hei⟩ := List.any_eq_true.1 h4.1
            exact .inr ⟨k, hk, ⟨e, he, Nat.eq_of_beq_eq_true hei⟩, h4.2⟩
  · cases h

theorem notIn_spec {i : Nat} (h : c.notIn i = true) : ∀ e ∈ c.E, e.i ≠ i := by
  intro e he hei
  have := List.all_eq_true.1 h e he
  rw [hei] at this
  simp at this

theorem effOk_spec {i k p : Nat} {vs : List AV} {v : AV} {e : Ent} (h : c.effOk i k vs v = true) (he : c.E[p]? = some e) (hi : e.i = i) : vs = e.vs ∧ v = e.v ∧ (k = 1 ∨ c.tight p = true) := by
  have hlt : p < c.E.length := (List.getElem?_eq_some_iff.1 he).1
  have := List.all_eq_true.1 h p (List.mem_range.2 hlt)
  rw [he] at this
  dsimp only at this
  rw [hi] at this
  simp only [Nat.beq_refl, Bool.not_true, Bool.false_or, Bool.and_eq_true, Bool.or_eq_true] at this
  exact ⟨AV.beqs_eq _ _ this.1.1, AV.beq_eq _ _ this.1.2, this.2.imp Nat.eq_of_beq_eq_true id⟩

theorem tight_spec {p : Nat} (h : c.tight p = true) {ep : Ent} (hp : c.E[p]? = some ep) {q : Nat} {e : Ent} (hq : q < p) (he : c.E[q]? = some e) : c.anc ep.i e.i = true := by
  unfold tight at h
  rw [hp] at h
  exact List.all_eq_true.1 h e (List.mem_of_getElem? (i := q) (by rw [List.getElem?_take]; simpa [hq] using he))

theorem inRange_of {i k : Nat} (h1 : ∀ p e, c.E[p]? = some e → c.anc i e.i = true → c.tight p = true → p < k) (h2 : ∀ p e, c.E[p]? = some e → c.anc e.i i = true → k ≤ p) : c.inRange i k = true := by
  unfold inRange
  rw [List.all_eq_true]
  intro p _
  split
  · rename_i e he
    simp only [Bool.and_eq_true, Bool.or_eq_true, Bool.not_eq_true', Bool.and_eq_false_iff]
    refine ⟨?_, ?_⟩
    · cases ha : c.anc i e.i with
      | false => exact .inl (.inl rfl)
      | true =>
        cases ht : c.tight p with
        | false => exact .inl (.inr rfl)
        | true => exact .inr (Nat.ble_eq_true_of_le (h1 p e he ha ht))
    · cases ha : c.anc e.i i with
      | false => exact .inl rfl
      | true => exact .inr (Nat.ble_eq_true_of_le (h2 p e he ha))
  · rfl

theorem plainOk_spec {i k : Nat} {o : Op} {vs : List AV} {v : AV} {s : S} (h : c.plainOk g i o vs v = true) (hk : k ≤ c.E.length) (hr : c.inRange i k = true) (hs : c.st k = some s) : ∃ t, exec g s o vs = some (.val v t) := by
  have := List.all_eq_true.1 h k (List.mem_range.2 (by omega))
  rw [hr, hs] at this
  simp only [Bool.not_true, Bool.false_or] at this
  split at this
  · rename_i v' t he
    rw [← AV.beq_eq _ _ this]
    exact ⟨t, he⟩
  · cases this

theorem inc_spec : ∀ {E : List Ent}, inc E = true → ∀ {p q : Nat} {e f : Ent}, p < q → E[p]? = some e → E[q]? = some f → e.i < f.i
  | [], _, p, q, e, f, _, h1, _ => by simp at h1
  | x :: l, h, p, q, e, f, hpq, h1, h2 => by
    simp only [inc, Bool.and_eq_true] at h
    cases q with
    | zero => omega
    | succ q =>
      simp only [List.getElem?_cons_succ] at h2
      cases p with
      | succ p => exact inc_spec (p := p) (q := q) h.2 (by omega) (by simpa using h1) h2
      | zero =>
        simp only [List.getElem?_cons_zero, Option.some.injEq] at h1
        subst h1
        cases l with
        | nil => simp at h2
        | cons y l' =>
          have hxy : x.i < y.i := Nat.le_of_ble_eq_true h.1
          cases q with
          | zero => simp only [List.getElem?_cons_zero, Option.some.injEq] at h2; subst h2; exact hxy
          | succ q => exact Nat.lt_trans hxy (inc_spec h.2 (Nat.succ_pos q) rfl h2)
end Reg

/-- What 'pass' computes is a chain. -/
def Chain (g : G) (cf : CF) (all : Array Oper) : S → List Ent → Prop
  | _, [] => True
  | s, e :: l => e.s = s ∧ (∃ o, all[e.i]? = some o ∧ stepE g cf e.s o.op e.vs = some (e.v, e.t)) ∧ Chain g cf all e.t l

theorem pass_chain {g : G} {cf : CF} {all : Array Oper} : ∀ {rest : List Oper} {i : Nat}, all.toList.drop i = rest → ∀ {r : Regs} {s : S} {V : List AV} {E : List Ent}, pass g cf all rest i r s = some (V, E) → Chain g cf all s E
  | [], i, _, r, s, V, E, h => by
    simp only [pass, Option.some.injEq, Prod.mk.injEq] at h
    obtain ⟨_, rfl⟩ := h
    trivial
  | o :: rest, i, hi, r, s, V, E, h => by
    have hlt : i < all.toList.length := by
      rcases Nat.lt_or_ge i all.toList.length with h | h
      · exact h
      · rw [List.drop_eq_nil_of_le h] at hi; cases hi
    have hi' := hi
    rw [List.drop_eq_getElem_cons hlt] at hi'
    injection hi' with ho hrest
    have hoo : all[i]? = some o := by rw [← ho]; simp
    simp only [pass] at h
    split at h
    · split at h
      · rename_i hp
        simp only [Option.some.injEq, Prod.mk.injEq] at h
        obtain ⟨_, rfl⟩ := h
        exact pass_chain hrest hp
      · cases h
    · split at h
      · cases h
      · rename_i vs hvs
        split at h
        · cases h
        · rename_i v t hst
          split at h
          · split at h
            · rename_i hp
              simp only [Option.some.injEq, Prod.mk.injEq] at h
              obtain ⟨_, rfl⟩ := h
              exact pass_chain hrest hp
            · cases h
          · split at h
            · rename_i hp
              simp only [Option.some.injEq, Prod.mk.injEq] at h
              obtain ⟨_, rfl⟩ := h
              exact ⟨rfl, ⟨o, hoo, hst⟩, pass_chain hrest hp⟩
            · cases h

theorem chain_at {g : G} {cf : CF} {all : Array Oper} : ∀ {s : S} {E : List Ent}, Chain g cf all s E → ∀ {p : Nat} {e : Ent}, E[p]? = some e →
    (match p with | 0 => some s | k + 1 => (E[k]?).map (·.t)) = some e.s ∧ ∃ o, all[e.i]? = some o ∧ stepE g cf e.s o.op e.vs = some (e.v, e.t)
  | s, [], _, p, e, h => by simp at h
  | s, x :: l, ⟨h1, h2, h3⟩, p, e, h => by
    cases p with
    | zero =>
      simp only [List.getElem?_cons_zero, Option.some.injEq] at h
      subst h
      exact ⟨by rw [h1], h2⟩
    | succ p =>
      simp only [List.getElem?_cons_succ] at h
      obtain ⟨h4, h5⟩ := chain_at h3 h
      refine ⟨?_, h5⟩
      cases p with
      | zero => simpa using h4
      | succ p => simpa using h4

end Go.Proofs.YtiabkalmkneogaaGreatDoor.Ev

namespace Go.Proofs.YtiabkalmkneogaaGreatDoor.Ev
open Go.RowKit

/-- A region under way: what 'L' lists has been carried out; of what changes the abstract heap the first k; beyond these only new objects that nothing has met. -/
structure Inv (g : G) (c : Reg) (N : Nat) (β0 : Ren) (w0 : World) (act0 : Act) (L : Array Bool) (k : Nat) (s : S) (β : Ren) (a : Act) (w : World) : Prop where
  kle : k ≤ c.E.length
  st : c.st k = some s
  pre : ∀ q e, q < k → c.E[q]? = some e → dn L e.i
  rel : Rel β s w
  le : β0.le β
  size : w0.heap.size ≤ w.heap.size
  keep : ∀ q, q < w0.heap.size → (∀ b o i, c.s0.h.get b = some o → β0 b = some i → i.blk ≠ q) → w.heap[q]? = w0.heap[q]?
  old : ∀ b o i, s.h.get b = some o → β b = some i → i.blk < w0.heap.size → ∃ d p j, c.s0.h.get d = some p ∧ β0 d = some j ∧ j.blk = i.blk
  dom : ∀ b i, β b = some i → β0 b = some i ∨ (c.s0.n ≤ b ∧ b < N)
  free : ∀ b i, s.n ≤ b → b < N → β b = some i → ∃ p e, k ≤ p ∧ c.E[p]? = some e ∧ dn L e.i ∧ b = e.s.n
  pend : ∀ p e, k ≤ p → c.E[p]? = some e → dn L e.i → ∃ i o, β e.s.n = some i ∧ OR β i w o ∧ e.t = Ev.new e.s o ∧ w0.heap.size ≤ i.blk ∧ (∀ b q j, s.h.get b = some q → β b = some j → j.blk ≠ i.blk)
  apart : ∀ p q e f i j, k ≤ p → k ≤ q → p ≠ q → c.E[p]? = some e → c.E[q]? = some f → dn L e.i → dn L f.i → β e.s.n = some i → β f.s.n = some j → i.blk ≠ j.blk
  reg : ∀ i o v t, c.all[i]? = some o → c.V[i]? = some v → dn L i → o.dst = some t → VR β v (a.tmps.getD t Go.undef)
  reg0 : ∀ t, (∀ i o, c.all[i]? = some o → dn L i → o.dst ≠ some t) → (∀ v, T.get c.r0 t = some v → VR β v (a.tmps.getD t Go.undef)) ∧ (T.get c.r0 t = none → a.tmps.getD t Go.undef = Go.undef)
  defers : a.defers = act0.defers
  tsize : a.tmps.size = act0.tmps.size
  env : Same w0 w

/-- What the evaluator knows of a region. -/
structure Facts (P : Program) (g : G) (cf : CF) (nt : Nat) (c : Reg) (N : Nat) : Prop where
  ok : ∀ i, i < c.all.size → c.opOk g nt i = true
  inc : Reg.inc c.E = true
  bnd : ∀ (p : Nat) (e : Ent), c.E[p]? = some e → e.i < c.all.size
  chain : ∀ (p : Nat) (e : Ent), c.E[p]? = some e → c.st p = some e.s ∧ ∃ o, c.all[e.i]? = some o ∧ stepE g cf e.s o.op e.vs = some (e.v, e.t)
  anc : ∀ i j, c.anc i j = true → Anc c.all i j
  last : ∃ s, c.st c.E.length = some s ∧ s.n = N

section
variable {P : Program} {g : G} {cf : CF} {nt : Nat} {c : Reg} {N : Nat} {β0 : Ren} {w0 : World} {act0 : Act}

theorem st_mono (hcf : CS P g cf) (hF : Facts P g cf nt c N) {k l : Nat} (hkl : k ≤ l) : ∀ {s t : S}, c.st k = some s → c.st l = some t → s.n ≤ t.n := by
  induction l with
  | zero =>
    intro s t h1 h2
    have : k = 0 := by omega
    subst this
    rw [h1] at h2
    injection h2 with h2
    subst h2
    exact Nat.le_refl _
  | succ l ih =>
    intro s t h1 h2
    rcases Nat.eq_or_lt_of_le hkl with e | e
    · subst e
      rw [h1] at h2
      injection h2 with h2
      subst h2
      exact Nat.le_refl _
    · have h2' := h2
      simp only [Reg.st] at h2'
      cases he : c.E[l]? with
      | none => rw [he] at h2'; cases h2'
      | some x =>
        rw [he] at h2'
        injection h2' with h2'
        subst h2'
        obtain ⟨h3, o, _, h4⟩ := hF.chain l x he
        exact Nat.le_trans (ih (by omega) h1 h3) (stepE_n hcf h4)

theorem st_next (hF : Facts P g cf nt c N) {p : Nat} {e : Ent} (he : c.E[p]? = some e) : c.st (p + 1) = some e.t := by simp [Reg.st, he]

theorem st_le (hcf : CS P g cf) (hF : Facts P g cf nt c N) {k : Nat} (hk : k ≤ c.E.length) {s : S} (h : c.st k = some s) : s.n ≤ N := by
  obtain ⟨t, ht, rfl⟩ := hF.last
  exact st_mono hcf hF hk h ht

theorem ent_inj (hF : Facts P g cf nt c N) {p q : Nat} {e f : Ent} (he : c.E[p]? = some e) (hf : c.E[q]? = some f) (h : e.i = f.i) : p = q := by
  rcases Nat.lt_trichotomy p q with h1 | h1 | h1
  · have := Reg.inc_spec hF.inc h1 he hf; omega
  · exact h1
  · have := Reg.inc_spec hF.inc h1 hf he; omega

/-- A new object that nothing has met is at its turn. -/
theorem Inv.join (hcf : CS P g cf) (hF : Facts P g cf nt c N) {L : Array Bool} {k : Nat} {s : S} {β : Ren} {a : Act} {w : World} (h : Inv g c N β0 w0 act0 L k s β a w) {e : Ent} (he : c.E[k]? = some e) (hd : dn L e.i) :
    Inv g c N β0 w0 act0 L (k + 1) e.t β a w := by
  obtain ⟨i, o, hi, ho, het, hblk, hsep⟩ := h.pend k e (Nat.le_refl _) he hd
  obtain ⟨hst, _⟩ := hF.chain k e he
  rw [h.st] at hst
  injection hst with hst
  subst hst
  have hk1 : k < c.E.length := (List.getElem?_eq_some_iff.1 he).1
  have cases_ : ∀ b q, e.t.h.get b = some q → (b = e.s.n ∧ q = o) ∨ e.s.h.get b = some q := by
    intro b q hb
    rw [het] at hb
    unfold Ev.new at hb
    dsimp only at hb
    rw [T.get_set] at hb
    split at hb
    · rename_i e'; injection hb with hb; exact .inl ⟨e', hb.symm⟩
    · exact .inr hb
  have hn : e.t.n = e.s.n + 1 := by rw [het]; rfl
  refine ⟨hk1, st_next hF he, fun q f hq hf => ?_, ⟨fun b q hb => ?_, fun b d q p x y hb hd' hx hy exy => ?_⟩, h.le, h.size, h.keep, fun b q x hb hx hlt => ?_, h.dom, fun b x h1 h2 h3 => ?_, fun p f hp hf hdf => ?_,
    fun p q f f' x y hp hq => h.apart p q f f' x y (by omega) (by omega), h.reg, h.reg0, h.defers, h.tsize, h.env⟩
  · rcases Nat.lt_or_ge q k with h1 | h1
    · exact h.pre q f h1 hf
    · have : q = k := by omega
      subst this
      rw [he] at hf
      injection hf with hf
      subst hf
      exact hd
  · rcases cases_ b q hb with ⟨rfl, rfl⟩ | hb
    · exact ⟨by omega, i, hi, ho⟩
    · obtain ⟨hlt, x, hx, hox⟩ := h.rel.obj b q hb
      exact ⟨by omega, x, hx, hox⟩
  · rcases cases_ b q hb with ⟨rfl, rfl⟩ | hb2 <;> rcases cases_ d p hd' with ⟨rfl, rfl⟩ | hd2
    · rfl
    · rw [hi] at hx
      injection hx with hx
      subst hx
      exact absurd exy.symm (hsep d p y hd2 hy)
    · rw [hi] at hy
      injection hy with hy
      subst hy
      exact absurd exy (hsep b q x hb2 hx)
    · exact h.rel.inj b d q p x y hb2 hd2 hx hy exy
  · rcases cases_ b q hb with ⟨rfl, rfl⟩ | hb
    · rw [hi] at hx
      injection hx with hx
      subst hx
      omega
    · exact h.old b q x hb hx hlt
  · obtain ⟨p, f, hp, hf, hdf, hb⟩ := h.free b x (by omega) h2 h3
    refine ⟨p, f, ?_, hf, hdf, hb⟩
    rcases Nat.eq_or_lt_of_le hp with e' | e'
    · subst e'
      rw [he] at hf
      injection hf with hf
      subst hf
      omega
    · exact e'
  · obtain ⟨x, q, hx, hox, hft, hbx, hsx⟩ := h.pend p f (by omega) hf hdf
    refine ⟨x, q, hx, hox, hft, hbx, fun b r y hb hy => ?_⟩
    rcases cases_ b r hb with ⟨rfl, rfl⟩ | hb
    · rw [hi] at hy
      injection hy with hy
      subst hy
      exact h.apart k p e f i x (Nat.le_refl _) (by omega) (by omega) he hf hd hdf hi hx
    · exact hsx b r y hb hy

theorem Inv.advance (hcf : CS P g cf) (hF : Facts P g cf nt c N) : ∀ (m : Nat) {L : Array Bool} {k : Nat} {s : S} {β : Ren} {a : Act} {w : World}, c.E.length - k ≤ m → Inv g c N β0 w0 act0 L k s β a w →
    ∃ k' s', Inv g c N β0 w0 act0 L k' s' β a w ∧ ∀ e, c.E[k']? = some e → ¬ dn L e.i
  | 0, L, k, s, β, a, w, hm, h => ⟨k, s, h, fun e he => by
      have := (List.getElem?_eq_some_iff.1 he).1
      omega⟩
  | m + 1, L, k, s, β, a, w, hm, h => by
    cases he : c.E[k]? with
    | none => exact ⟨k, s, h, fun e h' => by rw [he] at h'; cases h'⟩
    | some e =>
      by_cases hd : dn L e.i
      · have hlt := (List.getElem?_eq_some_iff.1 he).1
        exact Inv.advance hcf hF m (by omega) (h.join hcf hF he hd)
      · exact ⟨k, s, h, fun e' h' => by rw [he] at h'; injection h' with h'; subst h'; exact hd⟩

/-- One more operation has been carried out. -/
theorem Inv.move (hcf : CS P g cf) (hF : Facts P g cf nt c N) (hnt : nt ≤ act0.tmps.size) {L : Array Bool} {k k' : Nat} {s s' : S} {β γ : Ren} {a : Act} {w w' : World} (h : Inv g c N β0 w0 act0 L k s β a w) {i : Nat} (hi : L.getD i true = false)
    {o : Oper} (ho : c.all[i]? = some o) {v : AV} (hv : c.V[i]? = some v) {x : Value} (hx : VR γ v x)
    (hk : k' = k ∨ (k' = k + 1 ∧ ∃ e, c.E[k]? = some e ∧ e.i = i)) (hk' : k' ≤ c.E.length) (hs' : c.st k' = some s') (hrel : Rel γ s' w') (hle : β.le γ) (hsz : w.heap.size ≤ w'.heap.size)
    (hkeep : ∀ q, q < w.heap.size → (∀ b o i, s.h.get b = some o → β b = some i → i.blk ≠ q) → w'.heap[q]? = w.heap[q]?)
    (hold : ∀ b o i, s'.h.get b = some o → γ b = some i → i.blk < w.heap.size → ∃ d p j, s.h.get d = some p ∧ β d = some j ∧ j.blk = i.blk)
    (hdom : ∀ b j, γ b = some j → β b = some j ∨ (s.n ≤ b ∧ b < s'.n) ∨ ∃ p e, k' ≤ p ∧ c.E[p]? = some e ∧ e.i = i ∧ b = e.s.n)
    (hnew : ∀ p e, k' ≤ p → c.E[p]? = some e → e.i = i → ∃ j q, γ e.s.n = some j ∧ OR γ j w' q ∧ e.t = Ev.new e.s q ∧ w.heap.size ≤ j.blk ∧ (∀ b r y, s'.h.get b = some r → γ b = some y → y.blk ≠ j.blk)) (henv : Same w w') :
    Inv g c N β0 w0 act0 (L.setIfInBounds i true) k' s' γ (a.put o.dst x) w' := by
  have hnd := not_dn hi
  have hkk : k ≤ k' := by omega
  have hn : s.n ≤ s'.n := st_mono hcf hF hkk h.st hs'
  have hN : s'.n ≤ N := st_le hcf hF hk' hs'
  have hlt : i < c.all.size := (Array.getElem?_eq_some_iff.1 ho).1
  obtain ⟨v', hv', hdst, _, hwr, _⟩ := Reg.opOk_spec (hF.ok i hlt) ho
  rw [hv] at hv'
  injection hv' with hv'
  subst hv'
  have hs0 : c.s0.n ≤ s.n := st_mono hcf hF (Nat.zero_le k) (show c.st 0 = some c.s0 from rfl) h.st
  -- what was pending stands
  have pold : ∀ p e, k' ≤ p → c.E[p]? = some e → dn L e.i → ∃ j q, β e.s.n = some j ∧ OR γ j w' q ∧ e.t = Ev.new e.s q ∧ w0.heap.size ≤ j.blk ∧ j.blk < w.heap.size ∧ (∀ b r y, s'.h.get b = some r → γ b = some y → y.blk ≠ j.blk) := by
    intro p e hp he hd
    obtain ⟨j, q, hj, hor, het, hbl, hsep⟩ := h.pend p e (by omega) he hd
    have hjlt := hor.lt
    refine ⟨j, q, hj, (hor.keep (hkeep _ hjlt fun b r y hb hy => hsep b r y hb hy)).mono hle, het, hbl, hjlt, fun b r y hb hy exy => ?_⟩
    obtain ⟨d, r', z, hd', hz, ez⟩ := hold b r y hb hy (by omega)
    exact hsep d r' z hd' hz (by omega)
  have tm : ∀ t, o.dst ≠ some t → (a.put o.dst x).tmps.getD t Go.undef = a.tmps.getD t Go.undef := by
    intro t ht
    cases hd : o.dst with
    | none => rfl
    | some d =>
      have : d ≠ t := fun e => ht (by rw [hd, e])
      simp [Act.put, Array.getElem?_setIfInBounds_ne this]
  refine ⟨hk', hs', fun q e hq he => ?_, hrel, h.le.trans hle, Nat.le_trans h.size hsz, fun q hq hno => ?_, fun b r y hb hy hlt' => ?_, fun b y hb => ?_, fun b y h1 h2 h3 => ?_, fun p e hp he hd => ?_, fun p q e f y z hp hq hpq he hf hde hdf hy hz => ?_,
    fun j oj vj t hoj hvj hdj ht => ?_, fun t ht => ?_, ?_, ?_, h.env.trans henv⟩
  · rw [dn_set hi]
    rcases Nat.lt_or_ge q k with h1 | h1
    · exact .inl (h.pre q e h1 he)
    · rcases hk with hk | ⟨hk, e', he', hei⟩
      · omega
      · have : q = k := by omega
        subst this
        rw [he'] at he
        injection he with he
        subst he
        exact .inr hei
  · have h1 := h.keep q hq hno
    rw [← h1]
    refine hkeep q (Nat.lt_of_lt_of_le hq h.size) fun b r y hb hy e => ?_
    obtain ⟨d, p, j, hd, hj, ej⟩ := h.old b r y hb hy (by omega)
    exact hno d p j hd hj (by omega)
  · obtain ⟨d, p, j, hd, hj, ej⟩ := hold b r y hb hy (Nat.lt_of_lt_of_le hlt' h.size)
    obtain ⟨d', p', j', hd', hj', ej'⟩ := h.old d p j hd hj (by omega)
    exact ⟨d', p', j', hd', hj', by omega⟩
  · rcases hdom b y hb with h1 | h1 | ⟨p, e, hp, he, hei, hbe⟩
    · rcases h.dom b y h1 with h2 | h2
      · exact .inl h2
      · exact .inr h2
    · exact .inr ⟨by omega, by omega⟩
    · obtain ⟨hst, _⟩ := hF.chain p e he
      have h1 : s.n ≤ e.s.n := st_mono hcf hF (by omega) h.st hst
      have h2 : e.t.n ≤ N := st_le hcf hF (by have := (List.getElem?_eq_some_iff.1 he).1; omega) (st_next hF he)
      obtain ⟨_, q, _, _, het, _, _⟩ := hnew p e hp he hei
      have h3 : e.t.n = e.s.n + 1 := by rw [het]; rfl
      exact .inr ⟨by omega, by omega⟩
  · rcases hdom b y h3 with h4 | h4 | ⟨p, e, hp, he, hei, hbe⟩
    · obtain ⟨p, e, hp, he, hd, hb⟩ := h.free b y (by omega) h2 h4
      refine ⟨p, e, ?_, he, (dn_set hi).2 (.inl hd), hb⟩
      rcases hk with hk | ⟨hk, e', he', hei⟩
      · omega
      · rcases Nat.eq_or_lt_of_le hp with e2 | e2
        · subst e2
          rw [he'] at he
          injection he with he
          subst he
          rw [hei] at hd
          exact absurd hd hnd
        · omega
    · omega
    · exact ⟨p, e, hp, he, (dn_set hi).2 (.inr hei), hbe⟩
  · rcases (dn_set hi).1 hd with hd | hd
    · obtain ⟨j, q, hj, hor, het, hbl, _, hsep⟩ := pold p e hp he hd
      exact ⟨j, q, hle _ _ hj, hor, het, hbl, hsep⟩
    · obtain ⟨j, q, hj, hor, het, hbl, hsep⟩ := hnew p e hp he hd
      exact ⟨j, q, hj, hor, het, Nat.le_trans h.size hbl, hsep⟩
  · rcases (dn_set hi).1 hde with h1 | h1 <;> rcases (dn_set hi).1 hdf with h2 | h2
    · obtain ⟨j, _, hj, _, _, _, _, _⟩ := pold p e hp he h1
      obtain ⟨j', _, hj', _, _, _, _, _⟩ := pold q f hq hf h2
      have e1 := hle _ _ hj
      have e2 := hle _ _ hj'
      rw [hy] at e1
      rw [hz] at e2
      injection e1 with e1
      injection e2 with e2
      subst e1; subst e2
      exact h.apart p q e f _ _ (by omega) (by omega) hpq he hf h1 h2 hj hj'
    · obtain ⟨j, _, hj, _, _, _, hjl, _⟩ := pold p e hp he h1
      obtain ⟨j', _, hj', _, _, hbl', _⟩ := hnew q f hq hf h2
      have e1 := hle _ _ hj
      rw [hy] at e1
      rw [hz] at hj'
      injection e1 with e1
      injection hj' with hj'
      subst e1; subst hj'
      omega
    · obtain ⟨j, _, hj, _, _, hbl, _⟩ := hnew p e hp he h1
      obtain ⟨j', _, hj', _, _, _, hjl', _⟩ := pold q f hq hf h2
      have e2 := hle _ _ hj'
      rw [hz] at e2
      rw [hy] at hj
      injection e2 with e2
      injection hj with hj
      subst e2; subst hj
      omega
    · exact absurd (ent_inj hF he hf (by omega)) hpq
  · rcases (dn_set hi).1 hdj with h1 | h1
    · have hjlt : j < c.all.size := (Array.getElem?_eq_some_iff.1 hoj).1
      obtain ⟨_, _, _, _, hwj, _⟩ := Reg.opOk_spec (hF.ok j hjlt) hoj
      have hne : o.dst ≠ some t := fun e => by
        have e1 := hwr t e
        have e2 := hwj t ht
        rw [e1] at e2
        injection e2 with e2
        subst e2
        exact hnd h1
      rw [tm t hne]
      exact (h.reg j oj vj t hoj hvj h1 ht).mono hle _ _
    · subst h1
      rw [ho] at hoj
      injection hoj with hoj
      subst hoj
      rw [hv] at hvj
      injection hvj with hvj
      subst hvj
      have hlt2 : t < a.tmps.size := by
        rw [ht] at hdst
        have : t < nt := Nat.le_of_ble_eq_true hdst
        have := h.tsize
        omega
      rw [ht]
      simpa [Act.put, hlt2] using hx
  · have hne : o.dst ≠ some t := ht i o ho ((dn_set hi).2 (.inr rfl))
    rw [tm t hne]
    obtain ⟨h1, h2⟩ := h.reg0 t fun j oj hoj hdj => ht j oj hoj ((dn_set hi).2 (.inl hdj))
    exact ⟨fun v hv => (h1 v hv).mono hle _ _, h2⟩
  · rw [put_defers]; exact h.defers
  · rw [put_size]; exact h.tsize
end
end Go.Proofs.YtiabkalmkneogaaGreatDoor.Ev

namespace Go.Proofs.YtiabkalmkneogaaGreatDoor.Ev
open Go.RowKit

theorem count_set {l : List Bool} {i : Nat} (h : l[i]? = some false) : ((l.set i true).filter (! ·)).length + 1 = (l.filter (! ·)).length := by
  induction l generalizing i with
  | nil => simp at h
  | cons b l ih =>
    cases i with
    | zero =>
      simp only [List.getElem?_cons_zero, Option.some.injEq] at h
      subst h
      simp
    | succ i =>
      simp only [List.getElem?_cons_succ] at h
      have := ih h
      cases b <;> simp [List.set_cons_succ] <;> omega

/-- A region that draws its order: one invariant for whatever has been carried out. -/
theorem wpAny_inv {P : Program} {ops : Array Oper} {Q : Exit → Act → World → Prop} (St : Array Bool → Act → World → Prop)
    (hstep : ∀ L a w i o, St L a w → ops[i]? = some o → L.getD i true = false → (∀ e ∈ o.after, Region.binds .any e = true → dn L e.on) →
      wpOp P ops Q i (fun a' w' => St (L.setIfInBounds i true) a' w') a w)
    (hend : ∀ L a w, St L a w → Region.ready .any ops L = [] → Q .normal a w) :
    ∀ (fuel : Nat) (L : Array Bool) (a : Act) (w : World), St L a w → (L.toList.filter (! ·)).length ≤ fuel → wpAny P .any ops Q fuel L a w := by
  intro fuel
  induction fuel with
  | zero =>
    intro L a w hs hc
    have hr : Region.ready .any ops L = [] := by
      cases hr : Region.ready .any ops L with
      | nil => rfl
      | cons j js =>
        exfalso
        have hj : j ∈ Region.ready .any ops L := by rw [hr]; exact List.mem_cons_self
        have h0 := (mem_ready.1 hj).1
        have hx : L.toList[j]? = some false := by
          rcases Nat.lt_or_ge j L.size with h' | h'
          · simp [h'] at h0 ⊢; exact h0
          · simp [Array.getElem?_eq_none h'] at h0
        have := count_set hx
        omega
    exact ⟨hr, hend _ _ _ hs hr⟩
  | succ fuel ih =>
    intro L a w hs hc
    refine ⟨fun hr => hend _ _ _ hs hr, fun i hi => ?_⟩
    obtain ⟨h0, o, ho, hd⟩ := mem_ready.1 hi
    refine wpOp_mono (fun a' w' hs' => ih _ a' w' hs' ?_) (hstep _ _ _ _ _ hs ho h0 hd)
    have hx : L.toList[i]? = some false := by
      rcases Nat.lt_or_ge i L.size with h' | h'
      · simp [h'] at h0 ⊢; exact h0
      · simp [Array.getElem?_eq_none h'] at h0
    have := count_set hx
    rw [Array.toList_setIfInBounds]
    omega

theorem fin_rel {β : Ren} {tmps : Array Value} {t : Tmp} : ∀ {l : List Oper} {V : List AV} {r : Regs}, (∀ (j : Nat) (o : Oper) (v : AV), l[j]? = some o → V[j]? = some v → o.dst = some t → VR β v (tmps.getD t Go.undef)) → (∀ (j : Nat) (o : Oper), l[j]? = some o → ∃ v, V[j]? = some v) →
    ((∀ o ∈ l, o.dst ≠ some t) → (∀ v, T.get r t = some v → VR β v (tmps.getD t Go.undef)) ∧ (T.get r t = none → tmps.getD t Go.undef = Go.undef)) →
    (∀ v, T.get (fin l V r) t = some v → VR β v (tmps.getD t Go.undef)) ∧ (T.get (fin l V r) t = none → tmps.getD t Go.undef = Go.undef)
  | [], V, r, _, _, h3 => by simpa [fin] using h3 (by simp)
  | o :: l, [], r, _, h2, _ => by obtain ⟨v, hv⟩ := h2 0 o rfl; simp at hv
  | o :: l, v :: V, r, h1, h2, h3 => by
    simp only [fin]
    refine fin_rel (fun j o' v' ho hv hd => h1 (j + 1) o' v' (by simpa using ho) (by simpa using hv) hd) (fun j o' ho => by simpa using h2 (j + 1) o' (by simpa using ho)) fun hno => ?_
    by_cases hd : o.dst = some t
    · rw [hd]
      simp only [put, T.get_set, if_true]
      refine ⟨fun u hu => ?_, fun h => by cases h⟩
      injection hu with hu
      subst hu
      exact h1 0 o v rfl rfl hd
    · have hg : T.get (put r o.dst v) t = T.get r t := by
        cases hdd : o.dst with
        | none => rfl
        | some d =>
          have : t ≠ d := fun e => hd (by rw [hdd, e])
          simp only [put, T.get_set, this, if_false]
      rw [hg]
      exact h3 fun o' ho' => by
        rcases List.mem_cons.1 ho' with rfl | ho'
        · exact hd
        · exact hno o' ho'

theorem lastS_get : ∀ (s : S) (E : List Ent), (match E.length with | 0 => some s | k + 1 => (E[k]?).map (·.t)) = some (lastS s E)
  | s, [] => rfl
  | s, e :: l => by
    have ih := lastS_get e.t l
    simp only [List.length_cons, lastS]
    cases hl : l.length with
    | zero =>
      rw [hl] at ih
      simpa using ih
    | succ k =>
      rw [hl] at ih
      simpa using ih

section
variable {P : Program} {g : G} {cf : CF} {nt : Nat} {c : Reg} {N : Nat} {β0 : Ren} {w0 : World} {act0 : Act}

theorem st_eq (c : Reg) (k : Nat) : c.st k = (match k with | 0 => some c.s0 | k + 1 => (c.E[k]?).map (·.t)) := by
  cases k with
  | zero => rfl
  | succ k =>
    simp only [Reg.st]
    cases c.E[k]? <;> rfl

theorem look_rel (hF : Facts P g cf nt c N) {L : Array Bool} {k : Nat} {s : S} {β : Ren} {a : Act} {w : World} (h : Inv g c N β0 w0 act0 L k s β a w) (hc : Clsd c.all L) {i : Nat} (hi : ¬ dn L i)
    (hr : ∀ o e, c.all[i]? = some o → e ∈ o.after → Region.binds .any e = true → dn L e.on) {t : Tmp} {v : AV} (hl : c.look i t = some v) : VR β v (a.tmps.getD t Go.undef) := by
  have fromR0 : (∀ i o, c.all[i]? = some o → dn L i → o.dst ≠ some t) → (match T.get c.r0 t with | some v => some v | none => some undef) = some v → VR β v (a.tmps.getD t Go.undef) := by
    intro hno hv
    obtain ⟨h1, h2⟩ := h.reg0 t hno
    cases hg : T.get c.r0 t with
    | none =>
      rw [hg] at hv
      injection hv with hv
      subst hv
      rw [h2 hg]
      exact VR.undef
    | some u =>
      rw [hg] at hv
      injection hv with hv
      subst hv
      exact h1 u hg
  unfold Reg.look at hl
  split at hl
  · rename_i j hj
    obtain ⟨q, o', hq, ho', hd'⟩ := Reg.writer_some hj
    have hjq : j = q := by omega
    subst hjq
    have hoj : c.all[j]? = some o' := by simpa using ho'
    split at hl
    · rename_i ha
      exact h.reg j o' v t hoj hl ((hF.anc i j ha).ready hc hr) hd'
    · split at hl
      · rename_i ha
        have hnj : ¬ dn L j := fun hd => hi ((hF.anc j i ha).closed hc hd)
        refine fromR0 (fun i' o'' ho'' hd'' e => ?_) hl
        have hlt : i' < c.all.size := (Array.getElem?_eq_some_iff.1 ho'').1
        obtain ⟨_, _, _, _, hwr, _⟩ := Reg.opOk_spec (hF.ok i' hlt) ho''
        have := hwr t e
        rw [hj] at this
        injection this with this
        subst this
        exact hnj hd''
      · cases hl
  · rename_i hj
    exact fromR0 (fun i' o'' ho'' _ e => Reg.writer_none hj o'' (by
      have := Array.mem_of_getElem? ho''
      simpa using this) e) hl

theorem rvals_rel (hF : Facts P g cf nt c N) {L : Array Bool} {k : Nat} {s : S} {β : Ren} {a : Act} {w : World} (h : Inv g c N β0 w0 act0 L k s β a w) (hc : Clsd c.all L) {i : Nat} (hi : ¬ dn L i)
    (hr : ∀ o e, c.all[i]? = some o → e ∈ o.after → Region.binds .any e = true → dn L e.on) (hgl : GloOK g β) : ∀ {l : List Operand} {vs : List AV}, c.vals g i l = some vs → VRs β vs (l.map a.eval)
  | [], vs, hv => by simp only [Reg.vals, Option.some.injEq] at hv; subst hv; exact VRs.nil
  | x :: l, vs, hv => by
    simp only [Reg.vals] at hv
    split at hv
    · rename_i v vs' h1 h2
      injection hv with hv
      subst hv
      refine VRs.cons ?_ (rvals_rel hF h hc hi hr hgl h2)
      cases x with
      | tmp t => exact look_rel hF h hc hi hr h1
      | const v' => exact ofV_rel β v' v h1
      | global x =>
        simp only [Reg.val, Ev.val] at h1
        split at h1
        · rename_i b hb
          injection h1 with h1
          subst h1
          obtain ⟨i, hi, e⟩ := hgl x b hb
          exact ⟨i, hi, by rw [e]; rfl⟩
        · cases h1
      | func f =>
        simp only [Reg.val, Ev.val, Option.some.injEq] at h1
        subst h1
        exact ⟨[], [], VRs.nil, VRs.nil, rfl⟩
    · cases hv

theorem want_rel (hF : Facts P g cf nt c N) {L : Array Bool} {k : Nat} {s : S} {β : Ren} {a : Act} {w : World} (h : Inv g c N β0 w0 act0 L k s β a w) (hc : Clsd c.all L) {i : Nat}
    (hr : ∀ o e, c.all[i]? = some o → e ∈ o.after → Region.binds .any e = true → dn L e.on) {o : Oper} {b : Bool} (hw : c.want i o = some b) : Region.wanted o (Go.yielded c.all a.tmps) = b := by
  unfold Reg.want at hw
  unfold Region.wanted
  split at hw
  · rename_i hg
    injection hw with hw
    rw [hg]
    exact hw
  · rename_i j want hg
    rw [hg]
    dsimp only
    split at hw
    · rename_i oj hoj
      split at hw
      · rename_i d hd
        split at hw
        · rename_i ha
          have hlt : j < c.all.size := (Array.getElem?_eq_some_iff.1 hoj).1
          obtain ⟨v, hv, _⟩ := Reg.opOk_spec (hF.ok j hlt) hoj
          have hdj := (hF.anc i j ha).ready hc hr
          have hy := yielded_at (β := β) (tmps := a.tmps) (f := c.V[j]?) hoj hd (fun u hu => h.reg j oj u d hoj hu hdj hd) (fun hn => by rw [hv] at hn; cases hn)
          rw [hy]
          split at hw
          · rename_i b' hb
            injection hw with hw
            rw [hb]
            subst hw
            cases b' <;> cases want <;> rfl
          · rename_i hb
            injection hw with hw
            rw [hb]
            subst hw
            rfl
        · cases hw
      · rename_i hd
        injection hw with hw
        subst hw
        simp [Go.yielded, hoj, hd]
    · rename_i hoj
      injection hw with hw
      subst hw
      simp [Go.yielded, hoj]

theorem drawn_sound (hg : GOK P g) (hcf : CS P g cf) {all : Array Oper} {a a1 : A} (h : drawn g cf nt all a = some a1) : a.s.n ≤ a1.s.n ∧ ∀ {β : Ren} {w : World} {act : Act},
    RR β a.r act.tmps → Rel β a.s w → GloOK g β → Free β a.s a1.s → nt ≤ act.tmps.size → ∀ {Q : Exit → Act → World → Prop},
    (∀ γ w' act', RR γ a1.r act'.tmps → Rel γ a1.s w' → Step β a.s w γ a1.s w' → act'.defers = act.defers → act'.tmps.size = act.tmps.size → Q .normal act' w') →
    wpAny P .any all Q all.size (Array.replicate all.size false) act w := by
  unfold drawn at h
  split at h
  · cases h
  · rename_i V E hp
    split at h
    · rename_i hok
      injection h with h
      subst h
      generalize hcc : (⟨all, ancs all.toList [], a.r, a.s, V, E⟩ : Reg) = c at hok
      have e1 : c.all = all := by rw [← hcc]
      have e2 : c.E = E := by rw [← hcc]
      have e3 : c.V = V := by rw [← hcc]
      have e4 : c.s0 = a.s := by rw [← hcc]
      have e5 : c.r0 = a.r := by rw [← hcc]
      have e6 : c.A = ancs all.toList [] := by rw [← hcc]
      have hlast : c.st c.E.length = some (lastS a.s E) := by
        rw [st_eq, e2, e4]
        exact lastS_get a.s E
      have hF : Facts P g cf nt c (lastS a.s E).n := by
        unfold Reg.ok at hok
        simp only [Bool.and_eq_true] at hok
        refine ⟨fun i hi => List.all_eq_true.1 hok.2 i (List.mem_range.2 hi), hok.1.1, fun p e he => Nat.le_of_ble_eq_true (List.all_eq_true.1 hok.1.2 e (List.mem_of_getElem? he)), fun p e he => ?_, fun i j ha => ?_, ⟨_, hlast, rfl⟩⟩
        · have hch := pass_chain (i := 0) (by simp) hp
          rw [st_eq, e4, e1]
          rw [e2] at he ⊢
          exact chain_at hch he
        · unfold Reg.anc at ha
          rw [e6] at ha
          rw [e1]
          exact ancs_spec all.toList [] (by simp) (fun i j h => by simp at h) i j ha
      refine ⟨st_mono hcf hF (Nat.zero_le _) (show c.st 0 = some a.s by rw [← e4]; rfl) hlast, fun {β w act} hr hs hgl hf hnt Q hQ => ?_⟩
      subst e1
      refine wpAny_inv (fun L a' w' => L.size = c.all.size ∧ Clsd c.all L ∧ ∃ k s γ, Inv g c (lastS a.s E).n β w act L k s γ a' w' ∧ ∀ e, c.E[k]? = some e → ¬ dn L e.i) ?_ ?_ _ _ _ _ ?_ (by simp)
      · -- a step
        rintro L a' w' i o ⟨hsz, hcl, k, s, γ, hI, hmax⟩ ho hi hrd
        have hlt : i < c.all.size := (Array.getElem?_eq_some_iff.1 ho).1
        have hnd := not_dn hi
        have hr' : ∀ o e, c.all[i]? = some o → e ∈ o.after → Region.binds .any e = true → dn L e.on := by
          intro o' e ho' he hb
          rw [ho] at ho'
          injection ho' with ho'
          subst ho'
          exact hrd e he hb
        have hcl' : Clsd c.all (L.setIfInBounds i true) := by
          intro j oj hoj hd e he hb
          rw [dn_set hi] at hd ⊢
          rcases hd with hd | rfl
          · exact .inl (hcl j oj hoj hd e he hb)
          · exact .inl (hr' oj e hoj he hb)
        have hgl' : GloOK g γ := hgl.mono hI.le
        -- any next state will do
        have done : ∀ {a2 : Act} {w2 : World} {k2 : Nat} {s2 : S} {δ : Ren}, Inv g c (lastS a.s E).n β w act (L.setIfInBounds i true) k2 s2 δ a2 w2 →
            (L.setIfInBounds i true).size = c.all.size ∧ Clsd c.all (L.setIfInBounds i true) ∧ ∃ k s γ, Inv g c (lastS a.s E).n β w act (L.setIfInBounds i true) k s γ a2 w2 ∧ ∀ e, c.E[k]? = some e → ¬ dn (L.setIfInBounds i true) e.i := by
          intro a2 w2 k2 s2 δ h2
          obtain ⟨k3, s3, h3, h4⟩ := Inv.advance hcf hF _ (Nat.le_refl _) h2
          exact ⟨by simp [hsz], hcl', k3, s3, δ, h3, h4⟩
        obtain ⟨v, hv, hdst, _, hwr, hcase⟩ := Reg.opOk_spec (hF.ok i hlt) ho
        unfold wpOp
        rw [ho]
        dsimp only
        rcases hcase with ⟨hw, hvu, hno⟩ | ⟨hw, vs, hvs, hkind⟩
        · -- not wanted
          rw [want_rel hF hI hcl hr' hw]
          simp only [Bool.false_eq_true, if_false]
          subst hvu
          refine done (hI.move hcf hF hnt hi ho hv VR.undef (.inl rfl) hI.kle hI.st hI.rel (.refl γ) (Nat.le_refl _) (fun _ _ _ => rfl) (fun b o' j hb hj _ => ⟨b, o', j, hb, hj, rfl⟩) (fun b j hb => .inl hb) (fun p e _ he hei => absurd hei (Reg.notIn_spec hno e (List.mem_of_getElem? he))) (.refl w'))
        · rw [want_rel hF hI hcl hr' hw]
          simp only [if_true]
          have hvr := rvals_rel hF hI hcl hnd hr' hgl' hvs
          rcases hkind with ⟨hk0, hno, hpl⟩ | ⟨q, hkq, ⟨e, heE, hei⟩, heff⟩
          · -- plain
            have hin : c.inRange i k = true := by
              refine Reg.inRange_of (fun p e he ha ht => ?_) (fun p e he ha => ?_)
              · rcases Nat.lt_or_ge p k with h1 | h1
                · exact h1
                · exfalso
                  have hdp : dn L e.i := (hF.anc _ _ ha).ready hcl hr'
                  have hkl : k < c.E.length := Nat.lt_of_le_of_lt h1 (List.getElem?_eq_some_iff.1 he).1
                  have hek : c.E[k]? = some c.E[k] := List.getElem?_eq_getElem hkl
                  rcases Nat.eq_or_lt_of_le h1 with h2 | h2
                  · subst h2
                    rw [he] at hek
                    injection hek with hek
                    exact hmax e he hdp
                  · exact hmax _ hek ((hF.anc _ _ (Reg.tight_spec ht he h2 hek)).closed hcl hdp)
              · rcases Nat.lt_or_ge p k with h1 | h1
                · exact absurd ((hF.anc _ _ ha).closed hcl (hI.pre p e h1 he)) hnd
                · exact h1
            obtain ⟨t, hex⟩ := Reg.plainOk_spec hpl hI.kle hin hI.st
            obtain ⟨v', hvt⟩ := plain_st hk0 hex
            injection hvt with hv1 hv2
            subst hv2
            refine .inl ?_
            have hst : stepE g cf t o.op vs = some (v, t) := by simp [stepE, hex]
            refine stepE_sound hg hcf hst hvr hI.rel hgl' (fun b h1 h2 => by omega) fun δ x w2 hx hrel hstep => done (hI.move hcf hF hnt hi ho hv hx (.inl rfl) hI.kle hI.st hrel hstep.le hstep.size hstep.keep hstep.old (fun b j hb => ?_) (fun p e _ he hei => ?_) hstep.env)
            · rcases hstep.dom b j hb with h1 | h1
              · exact .inl h1
              · omega
            · exact absurd hei (Reg.notIn_spec hno e (List.mem_of_getElem? he))
          · -- what changes the heap
            obtain ⟨p, hpE⟩ := List.getElem?_of_mem heE
            obtain ⟨hvs1, hv1, htight⟩ := Reg.effOk_spec heff hpE hei
            subst hvs1; subst hv1
            have hkp : k ≤ p := by
              rcases Nat.lt_or_ge p k with h1 | h1
              · exact absurd (hei ▸ hI.pre p e h1 hpE) hnd
              · exact h1
            have hpl : p < c.E.length := (List.getElem?_eq_some_iff.1 hpE).1
            obtain ⟨hstp, o', ho', hstE⟩ := hF.chain p e hpE
            rw [hei, ho] at ho'
            injection ho' with ho'
            subst ho'
            by_cases hkeq : k = p
            · -- its turn
              subst hkeq
              have hse : s = e.s := by
                have := hI.st
                rw [hstp] at this
                injection this with this
                exact this.symm
              subst hse
              have hfree : Free γ e.s e.t := by
                intro b h1 h2
                cases hb : γ b with
                | none => rfl
                | some j =>
                  exfalso
                  have hle := st_le hcf hF (k := k + 1) hpl (st_next hF hpE)
                  obtain ⟨p', e', hp', he', hd', hbe⟩ := hI.free b j h1 (Nat.lt_of_lt_of_le h2 hle) hb
                  rcases Nat.eq_or_lt_of_le hp' with h3 | h3
                  · subst h3
                    rw [hpE] at he'
                    injection he' with he'
                    subst he'
                    exact hnd (hei ▸ hd')
                  · have h4 := st_mono hcf hF (k := k + 1) (l := p') h3 (st_next hF hpE) (hF.chain p' e' he').1
                    omega
              refine .inl (stepE_sound hg hcf hstE hvr hI.rel hgl' hfree fun δ x w2 hx hrel hstep => done (hI.move (k' := k + 1) hcf hF hnt hi ho hv hx (.inr ⟨rfl, e, hpE, hei⟩) hpl (st_next hF hpE) hrel hstep.le hstep.size hstep.keep hstep.old (fun b j hb => ?_) (fun p' e' hp' he' hei' => ?_) hstep.env))
              · rcases hstep.dom b j hb with h1 | h1
                · exact .inl h1
                · exact .inr (.inl h1)
              · have := ent_inj hF he' hpE (by omega)
                omega
            · -- a new object ahead of its turn
              have hq1 : q + 1 = 1 := by
                rcases htight with h1 | h1
                · exact h1
                · exfalso
                  have hkl : k < c.E.length := by omega
                  have hek : c.E[k]? = some c.E[k] := List.getElem?_eq_getElem hkl
                  have ha := hF.anc _ _ (Reg.tight_spec h1 hpE (by omega : k < p) hek)
                  rw [hei] at ha
                  exact hmax _ hek (ha.ready hcl hr')
              have hk1 : kindOp o.op = 1 := by omega
              have hexE : ∃ r, exec g e.s o.op e.vs = some r ∧ ∃ (ob : AO) (mk : Nat → AV), r = .val (mk e.s.n) (Ev.new e.s ob) ∧ e.v = mk e.s.n ∧ e.t = Ev.new e.s ob ∧ ∀ s', exec g s' o.op e.vs = some (.val (mk s'.n) (Ev.new s' ob)) := by
                cases hx : exec g e.s o.op e.vs with
                | none => simp [stepE, hx] at hstE
                | some r =>
                  obtain ⟨ob, mk, hr1, hall⟩ := alloc_shape hk1 hx
                  refine ⟨r, rfl, ob, mk, hr1, ?_, ?_, hall⟩
                  · subst hr1
                    simp [stepE, hx] at hstE
                    exact hstE.1.symm
                  · subst hr1
                    simp [stepE, hx] at hstE
                    exact hstE.2.symm
              obtain ⟨_, _, ob, mk, _, hve, hte, hall⟩ := hexE
              have hsn : s.n ≤ e.s.n := st_mono hcf hF hkp hI.st hstp
              have hrel' : Rel γ { h := s.h, n := e.s.n } w' := ⟨fun b q hb => by
                obtain ⟨h1, h2⟩ := hI.rel.obj b q hb
                exact ⟨Nat.lt_of_lt_of_le h1 hsn, h2⟩, hI.rel.inj⟩
              have htn : e.t.n = e.s.n + 1 := by rw [hte]; rfl
              have hleN := st_le hcf hF (k := p + 1) hpl (st_next hF hpE)
              have hfree : Free γ { h := s.h, n := e.s.n } (Ev.new { h := s.h, n := e.s.n } ob) := by
                intro b h1 h2
                have hbn : b = e.s.n := by unfold Ev.new at h2; dsimp only at h1 h2; omega
                subst hbn
                cases hb : γ e.s.n with
                | none => rfl
                | some j =>
                  exfalso
                  obtain ⟨p', e', hp', he', hd', hbe⟩ := hI.free e.s.n j hsn (by omega) hb
                  obtain ⟨_, q', _, _, het', _, _⟩ := hI.pend p' e' hp' he' hd'
                  have htn' : e'.t.n = e'.s.n + 1 := by rw [het']; rfl
                  rcases Nat.lt_trichotomy p p' with h3 | h3 | h3
                  · have h4 := st_mono hcf hF (k := p + 1) (l := p') h3 (st_next hF hpE) (hF.chain p' e' he').1
                    omega
                  · subst h3
                    rw [hpE] at he'
                    injection he' with he'
                    subst he'
                    exact hnd (hei ▸ hd')
                  · have h4 := st_mono hcf hF (k := p' + 1) (l := p) h3 (st_next hF he') hstp
                    omega
              have hstA : stepE g cf { h := s.h, n := e.s.n } o.op e.vs = some (e.v, Ev.new { h := s.h, n := e.s.n } ob) := by simp [stepE, hall, hve]
              refine .inl (stepE_sound hg hcf hstA hvr hrel' hgl' hfree fun δ x w2 hx hrel hstep => ?_)
              have hnewget : (Ev.new { h := s.h, n := e.s.n } ob).h.get e.s.n = some ob := by
                unfold Ev.new
                dsimp only
                rw [T.get_set, if_pos rfl]
              have holdget : ∀ b q, s.h.get b = some q → (Ev.new { h := s.h, n := e.s.n } ob).h.get b = some q := by
                intro b q hb
                have hlt' := (hI.rel.obj b q hb).1
                unfold Ev.new
                dsimp only
                rw [T.get_set, if_neg (by omega)]
                exact hb
              obtain ⟨_, j, hj, hor⟩ := hrel.obj _ _ hnewget
              have hsep : ∀ b r y, s.h.get b = some r → δ b = some y → y.blk ≠ j.blk := by
                intro b r y hb hy exy
                have hlt' := (hI.rel.obj b r hb).1
                have := hrel.inj b e.s.n r ob y j (holdget b r hb) hnewget hy hj exy
                omega
              have hjblk : w'.heap.size ≤ j.blk := by
                rcases Nat.lt_or_ge j.blk w'.heap.size with h1 | h1
                · exfalso
                  obtain ⟨d, r, y, hd, hy, ey⟩ := hstep.old _ _ _ hnewget hj h1
                  exact hsep d r y hd (hstep.le _ _ hy) ey
                · exact h1
              refine done (hI.move (k' := k) (s' := s) hcf hF hnt hi ho hv hx (.inl rfl) hI.kle hI.st ⟨fun b r hb => ?_, fun b d r r' y z hb hd => hrel.inj b d r r' y z (holdget b r hb) (holdget d r' hd)⟩ hstep.le hstep.size hstep.keep
                (fun b r y hb hy hlt' => hstep.old b r y (holdget b r hb) hy hlt') (fun b y hb => ?_) (fun p' e' hp' he' hei' => ?_) hstep.env)
              · exact ⟨(hI.rel.obj b r hb).1, (hrel.obj b r (holdget b r hb)).2⟩
              · rcases hstep.dom b y hb with h1 | h1
                · exact .inl h1
                · refine .inr (.inr ⟨p, e, hkp, hpE, hei, ?_⟩)
                  unfold Ev.new at h1
                  dsimp only at h1
                  omega
              · have := ent_inj hF he' hpE (by omega)
                subst this
                rw [hpE] at he'
                injection he' with he'
                subst he'
                exact ⟨j, ob, hj, hor, hte, hjblk, hsep⟩
      · -- the end
        rintro L a' w' ⟨hsz, hcl, k, s, γ, hI, hmax⟩ hready
        have hall : ∀ n i, i < n → i < c.all.size → dn L i := by
          intro n
          induction n with
          | zero => intro i hi; omega
          | succ n ih =>
            intro i hi hlt
            rcases Nat.lt_or_ge i n with h1 | h1
            · exact ih i h1 hlt
            · have hin : i = n := by omega
              subst hin
              by_cases hd : dn L i
              · exact hd
              · exfalso
                have ho : c.all[i]? = some c.all[i] := by simp [hlt]
                obtain ⟨_, _, _, hedge, _⟩ := Reg.opOk_spec (hF.ok i hlt) ho
                have hmem : i ∈ Region.ready .any c.all L := mem_ready.2 ⟨by
                  have hlt' : i < L.size := by omega
                  unfold dn at hd
                  simp [hlt'] at hd ⊢
                  exact hd, _, ho, fun e he hb => ih e.on (hedge e he hb) (by have := hedge e he hb; omega)⟩
                rw [hready] at hmem
                cases hmem
        have hkE : k = c.E.length := by
          rcases Nat.eq_or_lt_of_le hI.kle with h1 | h1
          · exact h1
          · exfalso
            have hek : c.E[k]? = some c.E[k] := List.getElem?_eq_getElem h1
            exact hmax _ hek (hall _ _ (Nat.lt_succ_self _) (hF.bnd k _ hek))
        subst hkE
        have hss : s = lastS a.s E := by
          have := hI.st
          rw [hlast] at this
          injection this with this
          exact this.symm
        subst hss
        refine hQ γ w' a' (fun t => ?_) hI.rel ⟨hI.le, ?_, hI.size, fun q hq hno => hI.keep q hq fun b o i hb => hno b o i (by rw [← e4]; exact hb), fun b o i hb hi hlt => ?_, fun b i hb => ?_, hI.env⟩ hI.defers hI.tsize
        · refine fin_rel (fun j o v ho hv hd => ?_) (fun j o ho => ?_) fun hno => ?_
          · have ho' : c.all[j]? = some o := by simpa using ho
            exact hI.reg j o v t ho' (by rw [e3]; exact hv) (hall _ _ (Nat.lt_succ_self _) (Array.getElem?_eq_some_iff.1 ho').1) hd
          · have ho' : c.all[j]? = some o := by simpa using ho
            obtain ⟨v, hv, _⟩ := Reg.opOk_spec (hF.ok j (Array.getElem?_eq_some_iff.1 ho').1) ho'
            exact ⟨v, by rw [← e3]; exact hv⟩
          · rw [← e5]
            exact hI.reg0 t fun i o ho _ => hno o (by have := Array.mem_of_getElem? ho; simpa using this)
        · exact st_mono hcf hF (Nat.zero_le _) (show c.st 0 = some a.s by rw [← e4]; rfl) hlast
        · obtain ⟨d, p, j, hd, hj, ej⟩ := hI.old b o i hb hi hlt
          exact ⟨d, p, j, by rw [← e4]; exact hd, hj, ej⟩
        · rcases hI.dom b i hb with h1 | h1
          · exact .inl h1
          · rw [e4] at h1
            exact .inr h1
      · -- the beginning
        have nodn : ∀ i, ¬ dn (Array.replicate c.all.size false) i := by
          intro i hi
          unfold dn at hi
          simp [Array.getElem?_replicate] at hi
          split at hi <;> simp at hi
        refine ⟨by simp, fun j oj _ hd => absurd hd (nodn j), 0, a.s, β, ⟨Nat.zero_le _, by rw [← e4]; rfl, fun q e hq => by omega, hs, .refl β, Nat.le_refl _, fun _ _ _ => rfl, fun b o i hb hi _ => ⟨b, o, i, by rw [e4]; exact hb, hi, rfl⟩, fun b i hb => .inl hb,
          fun b i h1 h2 h3 => ?_, fun p e _ _ hd => absurd hd (nodn _), fun p q e f i j _ _ _ _ _ hd => absurd hd (nodn _), fun i o v t _ _ hd => absurd hd (nodn _), fun t _ => by rw [e5]; exact hr t, rfl, rfl, .refl w⟩, fun e _ => nodn _⟩
        rw [hf b h1 h2] at h3
        cases h3
    · cases h
end
end Go.Proofs.YtiabkalmkneogaaGreatDoor.Ev

namespace Go.Proofs.YtiabkalmkneogaaGreatDoor.Ev
open Go.RowKit

/-- Code. -/
def code (g : G) (cf : CF) (nt : Nat) : Nat → Code → A → Option (X × A)
  | 0, _, _ => none
  | f + 1, c, a => match c with
    | .skip => some (.normal, a)
    | .label _ => some (.normal, a)
    | .region _ l dr => match dr with
      | true => match drawn g cf nt l a with
        | some a => some (.normal, a)
        | none => none
      | false => match ops g cf nt l l.toList a with
        | some a => some (.normal, a)
        | none => none
    | .seq x y => match code g cf nt f x a with
      | some (.normal, a) => code g cf nt f y a
      | o => o
    | .cond c x y => match val g a.r c with
      | some (.bool true) => code g cf nt f x a
      | some (.bool false) => code g cf nt f y a
      | _ => none
    | .block id b => match code g cf nt f b a with
      | some (.exit i, a) => if i = id then some (.normal, a) else some (.exit i, a)
      | o => o
    | .loop b => match code g cf nt f b a with
      | some (.normal, a) => code g cf nt f (.loop b) a
      | o => o
    | .scope b => code g cf nt f b a
    | .exit i => some (.exit i, a)
    | .ret => some (.ret, a)
    | _ => none

/-- A call: 'fuel' is for loops, the number for how deep calls go. -/
def call (g : G) (fuel : Nat) : Nat → CF
  | 0 => fun _ _ _ => none
  | d + 1 => fun fn args s => match g.fns.get fn with
    | none => none
    | some F => match F.body with
      | none => none
      | some b => match code g (call g fuel d) F.ntmps fuel b { r := T.ofList args 0 .e, s := s } with
        | some (.normal, a) => match results g a.r a.s F.results.toList with
          | some l => some (tup l, a.s)
          | none => none
        | some (.ret, a) => match results g a.r a.s F.results.toList with
          | some l => some (tup l, a.s)
          | none => none
        | _ => none

def ofProg (P : Program) : G := { P := P, fns := T.ofList P.funcs.toList 0 .e, tys := T.ofList P.types.toList 0 .e, glo := .e }
def s0 : S := { h := .e, n := 0 }

def X.toExit : X → Exit
  | .normal => .normal
  | .exit i => .exit i
  | .ret => .ret

/-- A loop's rounds, from the round's beginning. -/
def LW (P : Program) (Q : Exit → Act → World → Prop) (c : Code) (a : Act) (w : World) : Prop :=
  ∀ (b : Frame) (k : List Item) (cs : List Frame), ∃ e a' w', Q e a' w' ∧ Arrives P (lone (b.at a (.code c :: .inLoop c :: k)) cs w) b k cs e a' w'

theorem LW.round {P : Program} {Q : Exit → Act → World → Prop} {c : Code} {a : Act} {w : World} (h : c.wp P (Exit.then (LW P Q c) Q) a w) : LW P Q c a w := by
  intro b k cs
  obtain ⟨e, a₁, w₁, hq, harr⟩ := h b (.inLoop c :: k) cs
  cases e with
  | normal =>
    obtain ⟨e₂, a₂, w₂, hq₂, harr₂⟩ := hq b k cs
    exact ⟨e₂, a₂, w₂, hq₂, .of_steps (Steps.trans harr (.one step_inLoop)) harr₂⟩
  | exit id => exact ⟨_, a₁, w₁, hq, .pass (x := .inLoop c) rfl (fun _ _ => .inl (by simp)) harr⟩
  | goto l => exact ⟨_, a₁, w₁, hq, .pass (x := .inLoop c) rfl (fun _ _ => .inl (by simp)) harr⟩
  | ret => exact ⟨_, a₁, w₁, hq, .pass (x := .inLoop c) rfl (fun _ _ => .inl (by simp)) harr⟩
  | panic ch => exact ⟨_, a₁, w₁, hq, .pass (x := .inLoop c) rfl (fun _ _ => .inl (by simp)) harr⟩
  | outgrown => exact ⟨_, a₁, w₁, hq, .pass (x := .inLoop c) rfl (fun _ _ => .inl (by simp)) harr⟩

theorem LW.loop {P : Program} {Q : Exit → Act → World → Prop} {c : Code} {a : Act} {w : World} (h : LW P Q c a w) : (Code.loop c).wp P Q a w := by
  intro b k cs
  obtain ⟨e, a', w', hq, harr⟩ := h b k cs
  exact ⟨e, a', w', hq, .of_steps (.one step_loop) harr⟩

section
variable {P : Program} {g : G} {cf : CF} {nt : Nat}

theorem Free.le {β : Ren} {s t u : S} (h : Free β s u) (k : t.n ≤ u.n) : Free β s t := fun b h1 h2 => h b h1 (Nat.lt_of_lt_of_le h2 k)

theorem Free.next {β γ : Ren} {s t u : S} {w v : World} (h : Free β s u) (k : Step β s w γ t v) : Free γ t u := by
  intro b h1 h2
  cases hb : γ b with
  | none => rfl
  | some i =>
    rcases k.dom b i hb with h3 | h3
    · rw [h b (Nat.le_trans k.n h1) h2] at h3; cases h3
    · omega

/-- What code's evaluation is worth. -/
def Good (P : Program) (g : G) (nt : Nat) (c : Code) (a : A) (x : X) (a1 : A) : Prop :=
  a.s.n ≤ a1.s.n ∧ ∀ {β : Ren} {w : World} {act : Act}, RR β a.r act.tmps → Rel β a.s w → GloOK g β → Free β a.s a1.s → nt ≤ act.tmps.size → ∀ {Q : Exit → Act → World → Prop},
    (∀ γ w' act', RR γ a1.r act'.tmps → Rel γ a1.s w' → Step β a.s w γ a1.s w' → act'.defers = act.defers → act'.tmps.size = act.tmps.size → Q x.toExit act' w') → c.wp P Q act w

/-- .. and a loop's, from a round's beginning. -/
def GoodL (P : Program) (g : G) (nt : Nat) (c : Code) (a : A) (x : X) (a1 : A) : Prop :=
  a.s.n ≤ a1.s.n ∧ ∀ {β : Ren} {w : World} {act : Act}, RR β a.r act.tmps → Rel β a.s w → GloOK g β → Free β a.s a1.s → nt ≤ act.tmps.size → ∀ {Q : Exit → Act → World → Prop},
    (∀ γ w' act', RR γ a1.r act'.tmps → Rel γ a1.s w' → Step β a.s w γ a1.s w' → act'.defers = act.defers → act'.tmps.size = act.tmps.size → Q x.toExit act' w') → LW P Q c act w

theorem code_sound (hg : GOK P g) (hcf : CS P g cf) : ∀ (f : Nat) (c : Code) (a : A) (x : X) (a1 : A), code g cf nt f c a = some (x, a1) →
    Good P g nt c a x a1 ∧ ∀ b, c = .loop b → GoodL P g nt b a x a1
  | 0, c, a, x, a1, h => by simp [code] at h
  | f + 1, c, a, x, a1, h => by
    have ih := fun c a x a1 h => (code_sound hg hcf f c a x a1 h).1
    cases c with
    | skip =>
      simp only [code, Option.some.injEq, Prod.mk.injEq] at h
      obtain ⟨rfl, rfl⟩ := h
      exact ⟨⟨Nat.le_refl _, fun hr hs _ _ _ Q hQ => wp_skip (hQ _ _ _ hr hs .refl rfl rfl)⟩, fun b h => by cases h⟩
    | label l =>
      simp only [code, Option.some.injEq, Prod.mk.injEq] at h
      obtain ⟨rfl, rfl⟩ := h
      exact ⟨⟨Nat.le_refl _, fun hr hs _ _ _ Q hQ => wp_label (hQ _ _ _ hr hs .refl rfl rfl)⟩, fun b h => by cases h⟩
    | exit i =>
      simp only [code, Option.some.injEq, Prod.mk.injEq] at h
      obtain ⟨rfl, rfl⟩ := h
      exact ⟨⟨Nat.le_refl _, fun hr hs _ _ _ Q hQ => wp_exit (hQ _ _ _ hr hs .refl rfl rfl)⟩, fun b h => by cases h⟩
    | ret =>
      simp only [code, Option.some.injEq, Prod.mk.injEq] at h
      obtain ⟨rfl, rfl⟩ := h
      exact ⟨⟨Nat.le_refl _, fun hr hs _ _ _ Q hQ => wp_ret (hQ _ _ _ hr hs .refl rfl rfl)⟩, fun b h => by cases h⟩
    | region id l dr =>
      refine ⟨?_, fun b h => by cases h⟩
      cases dr with
      | true =>
        simp only [code] at h
        split at h
        · rename_i a2 hd
          simp only [Option.some.injEq, Prod.mk.injEq] at h
          obtain ⟨rfl, rfl⟩ := h
          obtain ⟨hn, hd⟩ := drawn_sound hg hcf hd
          exact ⟨hn, fun {β w act} hr hs hgl hf hnt Q hQ => wp_region_any hg.mixed (hd hr (hs.drew _) hgl hf hnt fun γ w' act' h1 h2 h3 h4 h5 => hQ γ w' act' h1 h2 ((Step.drew _).trans h3) h4 h5)⟩
        · cases h
      | false =>
        simp only [code] at h
        split at h
        · rename_i a2 hd
          simp only [Option.some.injEq, Prod.mk.injEq] at h
          obtain ⟨rfl, rfl⟩ := h
          obtain ⟨hn, hd⟩ := ops_sound hg hcf (k := 0) (by simp) hd
          exact ⟨hn, fun {β w act} hr hs hgl hf hnt Q hQ => wp_region (by simpa using hd hr hs hgl hf hnt hQ)⟩
        · cases h
    | seq y z =>
      refine ⟨?_, fun b h => by cases h⟩
      simp only [code] at h
      split at h
      · rename_i a2 h1
        obtain ⟨n1, g1⟩ := ih _ _ _ _ h1
        obtain ⟨n2, g2⟩ := ih _ _ _ _ h
        refine ⟨Nat.le_trans n1 n2, fun {β w act} hr hs hgl hf hnt Q hQ => wp_seq (g1 hr hs hgl (hf.le n2) hnt fun γ w' act' q1 q2 q3 q4 q5 => ?_)⟩
        exact g2 q1 q2 (hgl.mono q3.le) (hf.next q3) (by rw [q5]; exact hnt) fun δ w'' act'' p1 p2 p3 p4 p5 => hQ δ w'' act'' p1 p2 (q3.trans p3) (p4.trans q4) (p5.trans q5)
      · rename_i o hno
        obtain ⟨n1, g1⟩ := ih _ _ _ _ h
        refine ⟨n1, fun {β w act} hr hs hgl hf hnt Q hQ => wp_seq (g1 hr hs hgl hf hnt fun γ w' act' q1 q2 q3 q4 q5 => ?_)⟩
        have := hQ γ w' act' q1 q2 q3 q4 q5
        cases x with
        | normal => exact absurd h (hno _)
        | exit i => exact this
        | ret => exact this
    | cond c y z =>
      refine ⟨?_, fun b h => by cases h⟩
      simp only [code] at h
      split at h
      · rename_i hc
        obtain ⟨n1, g1⟩ := ih _ _ _ _ h
        exact ⟨n1, fun {β w act} hr hs hgl hf hnt Q hQ => wp_cond_true (by simpa [VR] using val_rel hgl hr hc) (g1 hr hs hgl hf hnt hQ)⟩
      · rename_i hc
        obtain ⟨n1, g1⟩ := ih _ _ _ _ h
        exact ⟨n1, fun {β w act} hr hs hgl hf hnt Q hQ => wp_cond_false (by simpa [VR] using val_rel hgl hr hc) (g1 hr hs hgl hf hnt hQ)⟩
      · cases h
    | block id b =>
      refine ⟨?_, fun b h => by cases h⟩
      simp only [code] at h
      split at h
      · rename_i i a2 h1
        obtain ⟨n1, g1⟩ := ih _ _ _ _ h1
        split at h
        · rename_i e
          simp only [Option.some.injEq, Prod.mk.injEq] at h
          obtain ⟨rfl, rfl⟩ := h
          refine ⟨n1, fun {β w act} hr hs hgl hf hnt Q hQ => wp_block (g1 hr hs hgl hf hnt fun γ w' act' q1 q2 q3 q4 q5 => ?_)⟩
          have := hQ γ w' act' q1 q2 q3 q4 q5
          simp only [X.toExit, Exit.inBlock, e, if_true] at this ⊢
          exact this
        · rename_i e
          simp only [Option.some.injEq, Prod.mk.injEq] at h
          obtain ⟨rfl, rfl⟩ := h
          refine ⟨n1, fun {β w act} hr hs hgl hf hnt Q hQ => wp_block (g1 hr hs hgl hf hnt fun γ w' act' q1 q2 q3 q4 q5 => ?_)⟩
          have := hQ γ w' act' q1 q2 q3 q4 q5
          simp only [X.toExit, Exit.inBlock, e, if_false] at this ⊢
          exact this
      · rename_i o hno
        obtain ⟨n1, g1⟩ := ih _ _ _ _ h
        refine ⟨n1, fun {β w act} hr hs hgl hf hnt Q hQ => wp_block (g1 hr hs hgl hf hnt fun γ w' act' q1 q2 q3 q4 q5 => ?_)⟩
        have := hQ γ w' act' q1 q2 q3 q4 q5
        cases x with
        | normal => exact this
        | exit i => exact absurd h (hno _ _)
        | ret => exact this
    | loop b =>
      have key : GoodL P g nt b a x a1 := by
        simp only [code] at h
        split at h
        · rename_i a2 h1
          obtain ⟨n1, g1⟩ := ih _ _ _ _ h1
          obtain ⟨n2, g2⟩ := (code_sound hg hcf f _ _ _ _ h).2 b rfl
          refine ⟨Nat.le_trans n1 n2, fun {β w act} hr hs hgl hf hnt Q hQ => LW.round (g1 hr hs hgl (hf.le n2) hnt fun γ w' act' q1 q2 q3 q4 q5 => ?_)⟩
          exact g2 q1 q2 (hgl.mono q3.le) (hf.next q3) (by rw [q5]; exact hnt) fun δ w'' act'' p1 p2 p3 p4 p5 => hQ δ w'' act'' p1 p2 (q3.trans p3) (p4.trans q4) (p5.trans q5)
        · rename_i o hno
          obtain ⟨n1, g1⟩ := ih _ _ _ _ h
          refine ⟨n1, fun {β w act} hr hs hgl hf hnt Q hQ => LW.round (g1 hr hs hgl hf hnt fun γ w' act' q1 q2 q3 q4 q5 => ?_)⟩
          have := hQ γ w' act' q1 q2 q3 q4 q5
          cases x with
          | normal => exact absurd h (hno _)
          | exit i => exact this
          | ret => exact this
      exact ⟨⟨key.1, fun hr hs hgl hf hnt Q hQ => (key.2 hr hs hgl hf hnt hQ).loop⟩, fun b' e => by injection e with e; subst e; exact key⟩
    | scope b =>
      refine ⟨?_, fun b h => by cases h⟩
      simp only [code] at h
      obtain ⟨n1, g1⟩ := ih _ _ _ _ h
      refine ⟨n1, fun {β w act} hr hs hgl hf hnt Q hQ => wp_scope_straight (g1 hr hs hgl hf hnt fun γ w' act' q1 q2 q3 q4 q5 => ?_)⟩
      have := hQ γ w' act' q1 q2 q3 q4 q5
      cases x <;> exact this
    | goto l => simp [code] at h
    | rangeFunc _ _ _ _ => simp [code] at h
    | refuse _ => simp [code] at h

theorem ofList_get {α : Type} : ∀ (l : List α) (k : Nat) (t : T α) (j : Nat), (T.ofList l k t).get j = if k ≤ j ∧ j < k + l.length then l[j - k]? else t.get j
  | [], k, t, j => by simp [T.ofList]; omega
  | a :: l, k, t, j => by
    simp only [T.ofList]
    rw [ofList_get l (k + 1) (t.set k (some a)) j, T.get_set]
    by_cases h1 : j = k
    · subst h1
      rw [if_neg (by omega), if_pos rfl, if_pos (by simp), Nat.sub_self]
      rfl
    · by_cases h2 : k + 1 ≤ j ∧ j < k + 1 + l.length
      · have h3 : k ≤ j ∧ j < k + (a :: l).length := by simp; omega
        rw [if_pos h2, if_pos h3]
        have : j - k = (j - (k + 1)) + 1 := by omega
        rw [this]
        simp
      · have h3 : ¬ (k ≤ j ∧ j < k + (a :: l).length) := by simp; omega
        rw [if_neg h2, if_neg h3, if_neg h1]

theorem RR.enter {β : Ren} {args : List AV} {args' : List Value} (h : VRs β args args') (n : Nat) : RR β (T.ofList args 0 .e) (args'.toArray ++ Array.replicate n Go.undef) := by
  intro t
  rw [ofList_get]
  have hl := h.length
  have past : args'.length ≤ t → (args'.toArray ++ Array.replicate n Go.undef).getD t Go.undef = Go.undef := by
    intro hge
    simp only [Array.getD_eq_getD_getElem?]
    rw [Array.getElem?_append_right (by simpa using hge)]
    rw [Array.getElem?_replicate]
    split <;> rfl
  by_cases ht : 0 ≤ t ∧ t < 0 + args.length
  · rw [if_pos ht]
    refine ⟨fun v hv => ?_, fun hn => ?_⟩
    · obtain ⟨x, hx, hvx⟩ := h.get _ _ hv
      have : (args'.toArray ++ Array.replicate n Go.undef).getD t Go.undef = x := by
        simp only [Array.getD_eq_getD_getElem?]
        rw [Array.getElem?_append_left (by simp; omega)]
        simp only [List.getElem?_toArray, Nat.sub_zero] at hx ⊢
        rw [hx]
        rfl
      rw [this]
      exact hvx
    · have := List.getElem?_eq_none_iff.1 hn
      exact past (by omega)
  · rw [if_neg ht]
    exact ⟨fun v hv => by simp [T.get] at hv, fun _ => past (by omega)⟩

theorem run_results (hg : GOK P g) {β : Ren} {s : S} {w : World} (hs : Rel β s w) (hgl : GloOK g β) {r : Regs} {a : Act} (hr : RR β r a.tmps) : ∀ {l : List ResultVar} {vs : List AV}, results g r s l = some vs →
    ∃ xs : List Value, (l.mapM (fun | .tmp t => pure (a.tmps.getD t Go.undef) | .cell b t => do Go.loadVar t (← asAddr (a.tmps.getD b Go.undef)) : ResultVar → Sem Value)).run P w = .ok xs w ∧ VRs β vs xs
  | [], vs, h => by simp only [results, Option.some.injEq] at h; subst h; exact ⟨[], by simp, VRs.nil⟩
  | .tmp t :: l, vs, h => by
    simp only [results] at h
    split at h
    · rename_i v vs' h1 h2
      injection h with h
      subst h
      obtain ⟨xs, hx, hv⟩ := run_results hg hs hgl hr h2
      have hv1 := val_rel hgl hr h1
      exact ⟨_ :: xs, by simp only [List.mapM_cons, Sem.run_bind, Sem.run_pure, Result.andThen_ok, hx]; rfl, VRs.cons hv1 hv⟩
    · cases h
  | .cell b t :: l, vs, h => by
    simp only [results] at h
    split at h
    · rename_i p hp
      split at h
      · rename_i v vs' h1 h2
        injection h with h
        subst h
        obtain ⟨xs, hx, hv⟩ := run_results hg hs hgl hr h2
        have hp1 := val_rel hgl hr hp
        obtain ⟨pb, po⟩ := p
        obtain ⟨i, hi, e⟩ := hp1
        obtain ⟨j, y, hj, hrun, hy⟩ := loadVar_row hg h1 hs
        dsimp only at hj hrun
        rw [hi] at hj
        injection hj with hj
        subst hj
        have e' : a.tmps.getD b Go.undef = .pointer (some ⟨i.blk, po, none⟩) := e
        have ea : (asAddr (a.tmps.getD b Go.undef)).run P w = .ok ⟨i.blk, po, none⟩ w := by rw [e']; rfl
        exact ⟨y :: xs, by simp only [List.mapM_cons, Sem.run_bind, ea, Sem.run_pure, Result.andThen_ok, hrun, hx], VRs.cons hy hv⟩
      · cases h
    · cases h

theorem tup_rel {β : Ren} {vs : List AV} {xs : List Value} (h : VRs β vs xs) : VR β (tup vs) (if h : xs.toArray.size = 1 then xs.toArray[0] else .tuple xs.toArray) := by
  cases vs with
  | nil => simp only [VRs] at h; subst h; exact ⟨[], VRs.nil, rfl⟩
  | cons v vs =>
    obtain ⟨a, r, ha, hr, rfl⟩ := h
    cases vs with
    | nil => simp only [VRs] at hr; subst hr; exact ha
    | cons u us =>
      obtain ⟨b, q, hb, hq, rfl⟩ := hr
      exact ⟨a :: b :: q, VRs.cons ha (VRs.cons hb hq), by simp⟩

theorem run_results_all (hg : GOK P g) {β : Ren} {s : S} {w : World} (hs : Rel β s w) (hgl : GloOK g β) {r : Regs} {a : Act} (hr : RR β r a.tmps) {fn : Func} {vs : List AV} (h : results g r s fn.results.toList = some vs) :
    ∃ x, (Go.results fn a.tmps).run P w = .ok x w ∧ VR β (tup vs) x := by
  obtain ⟨xs, hx, hv⟩ := run_results hg hs hgl hr h
  refine ⟨_, ?_, tup_rel hv⟩
  have := run_mapM_array hx
  unfold Go.results
  rw [Sem.run_bind]
  refine (congrArg (fun r => Result.andThen r _) this).trans ?_
  rfl

theorem call_sound (hg : GOK P g) (fuel : Nat) : ∀ d, CS P g (call g fuel d)
  | 0 => fun _ _ _ _ _ h => by simp [call] at h
  | d + 1 => fun fn args s v t h => by
    simp only [call] at h
    split at h
    · cases h
    · rename_i F hF
      split at h
      · cases h
      · rename_i b hb
        have fin : ∀ x a1, (x = .normal ∨ x = .ret) → code g (call g fuel d) F.ntmps fuel b { r := T.ofList args 0 .e, s := s } = some (x, a1) → (∃ l, results g a1.r a1.s F.results.toList = some l ∧ v = tup l ∧ t = a1.s) →
            s.n ≤ t.n ∧ ∀ β w args', VRs β args args' → Rel β s w → GloOK g β → Free β s t →
              Calls P fn args'.toArray w fun e w' => ∃ γ x, e = .returned x ∧ VR γ v x ∧ Rel γ t w' ∧ Step β s w γ t w' := by
          rintro x a1 hx hc ⟨l, hl, rfl, rfl⟩
          obtain ⟨n1, g1⟩ := (code_sound hg (call_sound hg fuel d) fuel _ _ _ _ hc).1
          refine ⟨n1, fun β w args' hv hs hgl hf => calls_of_wp (hg.fns _ _ hF) hb (g1 (RR.enter hv _) hs hgl hf ?_ fun γ w' act' q1 q2 q3 q4 q5 => ?_)⟩
          · simp; omega
          · obtain ⟨y, hy, hvy⟩ := run_results_all hg q2 (hgl.mono q3.le) q1 hl
            rcases hx with rfl | rfl
            · exact ⟨q4, y, hy, γ, y, rfl, hvy, q2, q3⟩
            · exact ⟨q4, y, hy, γ, y, rfl, hvy, q2, q3⟩
        split at h
        · rename_i a1 hc
          split at h
          · rename_i l hl
            simp only [Option.some.injEq, Prod.mk.injEq] at h
            exact fin .normal a1 (.inl rfl) hc ⟨l, hl, h.1.symm, h.2.symm⟩
          · cases h
        · rename_i a1 hc
          split at h
          · rename_i l hl
            simp only [Option.some.injEq, Prod.mk.injEq] at h
            exact fin .ret a1 (.inr rfl) hc ⟨l, hl, h.1.symm, h.2.symm⟩
          · cases h
        · cases h
end

theorem gok_ofProg {P : Program} (hm : P.follows .mixedOrders = true) : GOK P (ofProg P) where
  prog := rfl
  fns := fun f F h => by
    unfold ofProg at h
    dsimp only at h
    rw [ofList_get] at h
    split at h
    · simpa using h
    · simp [T.get] at h
  tys := fun t i h => by
    unfold ofProg at h
    dsimp only at h
    rw [ofList_get] at h
    split at h
    · have ht : P.types[t]? = some i := by simpa using h
      have hlt := (Array.getElem?_eq_some_iff.1 ht).1
      unfold Tables.info?
      rw [if_pos hlt]
      exact ht
    · simp [T.get] at h
  mixed := hm

/-- Does the evaluator say that the call returns true? -/
def saysTrue (P : Program) (fuel d : Nat) (f : FuncId) : Bool := match call (ofProg P) fuel d f [] s0 with
  | some (.bool true, _) => true
  | _ => false

/-- A CALL WITHOUT ARGUMENTS OF WHICH THE EVALUATOR SAYS THAT IT RETURNS TRUE DOES SO, in whatever world; what there was stands. -/
theorem calls_true {P : Program} (hm : P.follows .mixedOrders = true) {fuel d : Nat} {f : FuncId} (h : saysTrue P fuel d f = true) (w : World) :
    Calls P f #[] w fun e w' => e = .returned (.bool true) ∧ Below w.heap.size w w' := by
  unfold saysTrue at h
  split at h
  · rename_i t hc
    have hs : Rel (fun _ => none) s0 w := ⟨fun b o hb => by simp [s0, T.get] at hb, fun b c o p i j hb => by simp [s0, T.get] at hb⟩
    refine ((call_sound (gok_ofProg hm) fuel d f [] s0 _ _ hc).2 (fun _ => none) w [] VRs.nil hs (fun x b hb => by simp [ofProg, T.get] at hb) (fun _ _ _ => rfl)).mono ?_
    rintro e w' ⟨γ, x, rfl, hx, hrel, hst⟩
    simp only [VR] at hx
    subst hx
    exact ⟨rfl, hst.env.1, hst.env.2.1, hst.env.2.2, hst.size, fun k hk => hst.keep k hk fun b o i hb => by simp [s0, T.get] at hb⟩
  · cases h

end Go.Proofs.YtiabkalmkneogaaGreatDoor.Ev

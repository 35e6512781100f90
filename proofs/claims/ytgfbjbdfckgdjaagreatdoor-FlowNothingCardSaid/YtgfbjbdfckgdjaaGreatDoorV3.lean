/-
  An evaluator for closed calls, part 3: it proves that a call does what the evaluator computes, in whatever world. No conditions.
-/
import Derived.Test.YtgfbjbdfckgdjaaGreatDoorV2
import Derived.Orders
import Derived.RangeFuncLeaves
import Derived.RecoverIn
set_option linter.unusedSimpArgs false
set_option linter.unusedVariables false

namespace Go.Proofs.YtgfbjbdfckgdjaaGreatDoor.Ev
open Go.RowKit

/-- An operation that changes the abstract heap: its number, its operands' values, the heap before, its value, the heap behind. -/
structure Ent where
  i : Nat
  vs : List AV
  s : S
  v : AV
  t : S

/-- 0: changes nothing; 1: makes a new object; 2: whatever. -/
def kindOp (g : G) : Op → Nat
  | .convert a b _ => match g.und a, g.und b with
    | some .string, some (.slice _) => 2
    | _, _ => 0
  | .entry _ => 0
  | .alloc _ | .box _ _ | .makeMap _ none | .buildSlice _ _ _ | .makeSlice _ _ _ => 1
  | .move _ | .assign _ | .pick _ _ _ | .build _ _ | .load _ _ | .nilCheck _ | .binOp _ _ _ _ _ | .unOp _ _ _ | .makeInterface _ _ | .makeFunc _ _ _
  | .slice _ _ _ _ _ | .fieldAddr _ _ _ | .field _ _ _ | .indexAddr _ _ _ | .index _ _ _ | .lookup _ _ _ _ | .typeAssert _ _ _ _ | .extract _ _ => 0
  | .call c => match c.callee with
    | .builtin .len | .builtin .min | .builtin .max | .builtin .cap | .builtin .unsafeSliceData => 0
    | _ => 2
  | _ => 2

/-- Its value does not hang on the heap. -/
def stays : Op → Bool
  | .binOp op _ _ _ _ => !isEqOp op
  | .move _ | .assign _ | .pick _ _ _ | .build _ _ | .nilCheck _ | .unOp _ _ _ | .makeInterface _ _ | .makeFunc _ _ _
  | .fieldAddr _ _ _ | .field _ _ _ | .indexAddr _ _ _ | .index _ _ _ | .typeAssert _ _ _ _ | .extract _ _ => true
  | _ => false

/-- Where a map is laid whose entries come in no order (it is the operation m): 1 that operation, 2 an entry of it, 0 another one. -/
def litKind (m : Option Nat) (i : Nat) : Op → Nat
  | .makeMap _ none => match m with
    | some im => match Nat.beq i im with
      | true => 1
      | false => 0
    | none => 0
  | .insert _ _ _ _ => match m with
    | some _ => 2
    | none => 0
  | _ => 0

/-- The blocks that values reach at once, and those that these reach. -/
def rootsV : List AV → List Nat
  | [] => []
  | .ptr (some a) :: l => a.1 :: rootsV l
  | .slice (some a) _ _ :: l => a.1 :: rootsV l
  | .clip a _ :: l => a.1 :: rootsV l
  | .rest b :: l => b :: rootsV l
  | .map (some b) :: l => b :: rootsV l
  | .func _ a b :: l => rootsV1 a ++ rootsV1 b ++ rootsV l
  | .iface _ (.ptr (some a)) :: l => a.1 :: rootsV l
  | _ :: l => rootsV l
where rootsV1 : List AV → List Nat
  | [] => []
  | .ptr (some a) :: l => a.1 :: rootsV1 l
  | .slice (some a) _ _ :: l => a.1 :: rootsV1 l
  | .clip a _ :: l => a.1 :: rootsV1 l
  | .rest b :: l => b :: rootsV1 l
  | .map (some b) :: l => b :: rootsV1 l
  | _ :: l => rootsV1 l
def cellsAt (s : S) (b : Nat) : List AV := match s.h.get b with
  | some (.row c _ _ _) => c
  | some (.ro c _) => c
  | some (.win c _ _) => c
  | _ => []
def moreRoots (s : S) : List Nat → List Nat
  | [] => []
  | b :: l => b :: (rootsV (cellsAt s b) ++ moreRoots s l)
def restrict (s : S) : List Nat → T AO → T AO
  | [], R => R
  | b :: l, R => restrict s l (R.set b (s.h.get b))
def AV.beqss : List (List AV) → List (List AV) → Bool
  | [], [] => true
  | a :: l, b :: k => AV.beqs a b && AV.beqss l k
  | _, _ => false
def ME.beqs : List ME → List ME → Bool
  | [], [] => true
  | a :: l, b :: k => AV.beq a.key b.key && AV.beq a.val b.val && Nat.beq a.born b.born && ME.beqs l k
  | _, _ => false
def AO.beq : Option AO → Option AO → Bool
  | none, none => true
  | some (.row c e o z), some (.row c' e' o' z') => AV.beqs c c' && Nat.beq e e' && (o == o') && Nat.beq z z'
  | some (.ro c z), some (.ro c' z') => AV.beqs c c' && Nat.beq z z'
  | some .anyInt, some .anyInt => true
  | some (.win c e z), some (.win c' e' z') => AV.beqs c c' && Nat.beq e e' && Nat.beq z z'
  | some (.map es k), some (.map es' k') => ME.beqs es es' && Nat.beq k k'
  | some (.tab k l), some (.tab k' l') => decide (k = k') && l == l'
  | some (.amb b l e o z), some (.amb b' l' e' o' z') => Nat.beq b b' && AV.beqss l l' && Nat.beq e e' && (o == o') && Nat.beq z z'
  | _, _ => false
def sameOn (x y : T AO) (l : List Nat) : Bool := l.all fun b => AO.beq (x.get b) (y.get b)
/-- The objects from a number on, so many, laid over a heap. -/
def addNew (t : T AO) : Nat → Nat → T AO → T AO
  | 0, _, h => h
  | n + 1, b, h => addNew t n (b + 1) (h.set b (t.get b))

/-- The blocks at which a call that only makes objects looks. -/
def footOf (s : S) (vs : List AV) : List Nat := moreRoots s (rootsV vs)
/-- A call that only makes objects, and looks at nothing but what it reaches. -/
def floatE (g : G) (cf : CF) (s : S) (o : Op) (vs : List AV) : Option (AV × S) :=
  match stepE g cf { h := restrict s (footOf s vs) .e, n := s.n } o vs with
  | some (v, t) => match sameOn t.h s.h (footOf s vs) && (footOf s vs).all fun b => Nat.blt b s.n with
    | true => some (v, { h := addNew t.h (t.n - s.n) s.n s.h, n := t.n })
    | false => none
  | none => none

def isCall : Op → Bool
  | .call c => match c.callee with
    | .builtin _ => false
    | _ => true
  | _ => false

/-- A call that some other operation that changes the heap may come ahead of or behind. -/
def loose (g : G) (m : Option Nat) (all : Array Oper) (A : List Nat) (i : Nat) : Bool := match all[i]? with
  | none => false
  | some o => isCall o.op && (List.range all.size).any fun j => !(Nat.beq i j) && (match all[j]? with
    | some p => match litKind m j p.op with
      | 0 => Nat.ble 2 (kindOp g p.op)
      | _ => false
    | none => false) && !(Nat.testBit ((A[i]?).getD 0) j) && !(Nat.testBit ((A[j]?).getD 0) i)

/-- What an operation does in such a region. -/
def stepR (g : G) (cf : CF) (fl : Bool) (s : S) (o : Op) (vs : List AV) : Option (AV × S) := match fl with
  | true => floatE g cf s o vs
  | false => stepE g cf s o vs

/-- A region's operations in some order: their values, and what changes the heap. -/
def pass (g : G) (cf : CF) (m : Option Nat) (all : Array Oper) (A : List Nat) : List Nat → Regs → S → T AV → Option (T AV × List Ent)
  | [], _, _, V => some (V, [])
  | i :: rest, r, s, V => match all[i]? with
    | none => none
    | some o => match wants all r o with
      | false => pass g cf m all A rest (put r o.dst undef) s (T.set V i (some undef))
      | true => match vals g r o.op.operands.toList with
        | none => none
        | some vs => match litKind m i o.op with
          | 1 => match pass g cf m all A rest (put r o.dst (.map (some s.n))) { h := s.h, n := s.n + 1 } (T.set V i (some (.map (some s.n)))) with
            | some (V, E) => some (V, ⟨i, vs, s, .map (some s.n), { h := s.h, n := s.n + 1 }⟩ :: E)
            | none => none
          | 2 => pass g cf m all A rest (put r o.dst undef) s (T.set V i (some undef))
          | _ => match stepR g cf (loose g m all A i) s o.op vs with
            | none => none
            | some (v, t) => match kindOp g o.op with
              | 0 => pass g cf m all A rest (put r o.dst v) s (T.set V i (some v))
              | _ + 1 => match pass g cf m all A rest (put r o.dst v) t (T.set V i (some v)) with
                | some (V, E) => some (V, ⟨i, vs, s, v, t⟩ :: E)
                | none => none

/-- What is marked and not yet listed, in the text's order. -/
def emit (m : Nat) (x : Nat) : Nat → List Nat
  | 0 => []
  | n + 1 => match Nat.testBit x n && !(Nat.testBit m n) with
    | true => emit m x n ++ [n]
    | false => emit m x n

def lazyOp (g : G) (o : Op) : Bool := match o with
  | .insert _ _ _ _ => true
  | _ => match kindOp g o with
    | 0 | 1 => true
    | _ => false

/-- An order: what makes a new object waits until it is needed, and so does a map's entry. -/
def orderOf (g : G) (A : List Nat) (n : Nat) : List Oper → Nat → Nat → List Nat
  | [], _, m => emit m (2 ^ n - 1) n
  | o :: l, i, m => match lazyOp g o.op with
    | true => orderOf g A n l (i + 1) m
    | false => emit m ((A[i]?).getD 0 ||| 2 ^ i) (i + 1) ++ orderOf g A n l (i + 1) (m ||| ((A[i]?).getD 0 ||| 2 ^ i))

def ancs : List Oper → List Nat → List Nat
  | [], acc => acc
  | o :: l, acc => ancs l (acc ++ [o.after.toList.foldr (fun e m => match Region.binds .any e with
    | true => m ||| (2 ^ e.on ||| (acc[e.on]?).getD 0)
    | false => m) 0])

/-- A region under way. -/
structure Reg where
  m : Option Nat
  all : Array Oper
  A : List Nat
  r0 : Regs
  s0 : S
  V : List AV
  E : List Ent

namespace Reg
def anc (c : Reg) (i j : Nat) : Bool := Nat.testBit ((c.A[i]?).getD 0) j
def st (c : Reg) : Nat → Option S
  | 0 => some c.s0
  | k + 1 => match c.E[k]? with
    | some e => some e.t
    | none => none
def isDst (o : Oper) (t : Tmp) : Bool := match o.dst with
  | some d => Nat.beq d t
  | none => false
def writer (t : Tmp) : List Oper → Nat → Option Nat
  | [], _ => none
  | o :: l, j => match isDst o t with
    | true => some j
    | false => writer t l (j + 1)
def look (c : Reg) (i : Nat) (t : Tmp) : Option AV := match writer t c.all.toList 0 with
  | some j => match c.anc i j with
    | true => c.V[j]?
    | false => match c.anc j i with
      | true => match T.get c.r0 t with
        | some v => some v
        | none => some undef
      | false => none
  | none => match T.get c.r0 t with
    | some v => some v
    | none => some undef
def val (g : G) (c : Reg) (i : Nat) : Operand → Option AV
  | .tmp t => c.look i t
  | x => Ev.val g .e x
def vals (g : G) (c : Reg) (i : Nat) : List Operand → Option (List AV)
  | [] => some []
  | x :: l => match c.val g i x, c.vals g i l with
    | some v, some vs => some (v :: vs)
    | _, _ => none
def want (c : Reg) (i : Nat) (o : Oper) : Option Bool := match o.guard with
  | none => some true
  | some (j, w) => match c.all[j]? with
    | some oj => match oj.dst with
      | some _ => match c.anc i j with
        | true => match asB c.V[j]? with
          | some b => some (b == w)
          | none => some false
        | false => none
      | none => some false
    | none => some false
def tight (c : Reg) (p : Nat) : Bool := match c.E[p]? with
  | some ep => (c.E.take p).all fun e => c.anc ep.i e.i
  | none => true
/-- The first state at which i may be, and the last one. -/
def loGo (c : Reg) (i : Nat) : List Ent → Nat → Nat → Nat
  | [], _, a => a
  | e :: E, p, a => c.loGo i E (p + 1) (if c.anc i e.i && c.tight p then p + 1 else a)
def hiGo (c : Reg) (i : Nat) : List Ent → Nat → Nat
  | [], p => p
  | e :: E, p => if c.anc e.i i then p else c.hiGo i E (p + 1)
def notIn (c : Reg) (i : Nat) : Bool := c.E.all fun e => !(Nat.beq e.i i)
def same1 (r : Option R) (v : AV) : Bool := match r with
  | some (.val v' _) => AV.beq v' v
  | _ => false
def plainFrom (g : G) (c : Reg) (o : Op) (vs : List AV) (v : AV) : Nat → Nat → Bool
  | 0, _ => true
  | n + 1, k => (match c.st k with
    | some s => same1 (exec g s o vs) v
    | none => false) && c.plainFrom g o vs v n (k + 1)
def plainOk (g : G) (c : Reg) (i : Nat) (o : Op) (vs : List AV) (v : AV) : Bool := match stays o with
  | true => same1 (exec g c.s0 o vs) v
  | false => c.plainFrom g o vs v (c.hiGo i c.E 0 + 1 - c.loGo i c.E 0 0) (c.loGo i c.E 0 0)
/-- The blocks are as they were at each state from k on, so many. -/
def footFrom (c : Reg) (h : T AO) (l : List Nat) : Nat → Nat → Bool
  | 0, _ => true
  | n + 1, k => (match c.st k with
    | some s => sameOn s.h h l
    | none => false) && c.footFrom h l n (k + 1)
def floatOk (c : Reg) (i : Nat) (e : Ent) : Bool := c.footFrom e.s.h (footOf e.s e.vs) (c.hiGo i c.E 0 + 1 - c.loGo i c.E 0 0) (c.loGo i c.E 0 0)
def effOk (g : G) (c : Reg) (i : Nat) (k : Nat) (vs : List AV) (v : AV) : Bool := (List.range c.E.length).all fun p => match c.E[p]? with
  | some e => !(Nat.beq e.i i) || (AV.beqs vs e.vs && AV.beq v e.v && (Nat.beq k 1 || (match loose g c.m c.all c.A i with | true => c.floatOk i e | false => c.tight p)))
  | none => true
/-- The entry that an operation lays. -/
def entry (g : G) (c : Reg) (i : Nat) : Option ME := match c.all[i]? with
  | some o => match litKind c.m i o.op with
    | 2 => match c.want i o with
      | some true => match c.vals g i o.op.operands.toList with
        | some [_, k, v] => some ⟨k, v, 0⟩
        | _ => none
      | _ => none
    | _ => none
  | none => none
def lits (g : G) (c : Reg) : List ME := (List.range c.all.size).filterMap (c.entry g)
def keyKind (g : G) : Op → Option TypeDesc
  | .insert t _ _ _ => match g.und t with
    | some (.map kt _) => match g.und kt with
      | some kd => match plainKind kd with
        | true => some kd
        | false => none
      | none => none
    | _ => none
  | _ => none
def isB (b : Nat) (v : AV) : Bool := match v with
  | .map (some b') => Nat.beq b b'
  | _ => false
def litAt (c : Reg) (im : Nat) : Bool := match c.all[im]? with
  | some o => Nat.beq (litKind c.m im o.op) 1
  | none => false
def insOk (g : G) (c : Reg) (i : Nat) (o : Op) (b : Nat) (k : AV) : Bool := match c.m, keyKind g o with
  | some im, some kd => c.litAt im && c.anc i im && (c.E.any fun e => Nat.beq e.i im && isB b e.v) && (List.range c.all.size).all fun j => Nat.beq j i || match c.entry g j with
    | some f => match sameNow kd k f.key with
      | some false => true
      | _ => false
    | none => true
  | _, _ => false
def opOk (g : G) (nt : Nat) (c : Reg) (i : Nat) : Bool := match c.all[i]?, c.V[i]? with
  | some o, some v =>
    dstOk nt o.dst && (o.after.toList.all fun e => !(Region.binds .any e) || Nat.blt e.on i) &&
    (match o.dst with
      | some d => match writer d c.all.toList 0 with
        | some j => Nat.beq j i
        | none => false
      | none => true) &&
    match c.want i o with
    | none => false
    | some false => AV.beq v undef && c.notIn i
    | some true => match c.vals g i o.op.operands.toList with
      | none => false
      | some vs => match litKind c.m i o.op with
        | 1 => (c.E.any fun e => Nat.beq e.i i) && c.effOk g i 1 vs v
        | 2 => AV.beq v undef && c.notIn i && match vs with
          | [.map (some b), k, _] => c.insOk g i o.op b k
          | _ => false
        | _ => match kindOp g o.op with
          | 0 => c.notIn i && c.plainOk g i o.op vs v
          | k + 1 => (c.E.any fun e => Nat.beq e.i i) && c.effOk g i (k + 1) vs v
  | _, _ => false
def inc : List Ent → Bool
  | [] => true
  | e :: l => (l.all fun f => !(Nat.beq e.i f.i)) && inc l
def ok (g : G) (nt : Nat) (c : Reg) : Bool := inc c.E && (c.E.all fun e => Nat.blt e.i c.all.size) && (List.range c.all.size).all fun i => c.opOk g nt i
end Reg

def fin : List Oper → List AV → Regs → Regs
  | o :: l, v :: V, r => fin l V (put r o.dst v)
  | _, _, r => r

def lastS (s : S) : List Ent → S
  | [] => s
  | e :: l => lastS e.t l

/-- The map that was laid, as a whole. -/
def addLit (g : G) (c : Reg) (s : S) : Option S := match c.m with
  | none => some s
  | some im => match c.litAt im with
    | true => match c.E.find? fun e => Nat.beq e.i im with
      | some e => some { h := s.h.set e.s.n (some (.lit (c.lits g))), n := s.n }
      | none => none
    | false => none

/-- .. and its checks. -/
def drawn2 (g : G) (nt : Nat) (m : Option Nat) (all : Array Oper) (a : A) (V : List AV) (E : List Ent) : Option A :=
  match Reg.ok g nt ⟨m, all, ancs all.toList [], a.r, a.s, V, E⟩ with
  | true => match addLit g ⟨m, all, ancs all.toList [], a.r, a.s, V, E⟩ (lastS a.s E) with
    | some s => some { r := fin all.toList V a.r, s := s, d := a.d }
    | none => none
  | false => none

def drawnM (g : G) (cf : CF) (nt : Nat) (m : Option Nat) (all : Array Oper) (a : A) : Option A :=
  match pass g cf m all (ancs all.toList []) (orderOf g (ancs all.toList []) all.size all.toList 0 0) a.r a.s .e with
  | none => none
  | some (W, E) => drawn2 g nt m all a ((List.range all.size).map fun i => match W.get i with | some v => v | none => undef) E

/-- The map that the region lays, if it lays entries. -/
def litOf (all : List Oper) : Option Nat := match all.any fun o => match o.op with | .insert _ _ _ _ => true | _ => false with
  | true => all.findIdx? fun o => match o.op with | .makeMap _ none => true | _ => false
  | false => none

/-- A region that draws its order. -/
def drawn (g : G) (cf : CF) (nt : Nat) (all : Array Oper) (a : A) : Option A := drawnM g cf nt (litOf all.toList) all a

end Go.Proofs.YtgfbjbdfckgdjaaGreatDoor.Ev

namespace Go.Proofs.YtgfbjbdfckgdjaaGreatDoor.Ev
open Go.RowKit

mutual
theorem AV.beq_eq : ∀ (a b : AV), AV.beq a b = true → a = b
  | .bool x, b, h => by cases b <;> simp [AV.beq] at h; rw [h]
  | .int k x, b, h => by cases b <;> simp [AV.beq] at h; rw [h.1, h.2]
  | .str l, b, h => by cases b <;> simp [AV.beq] at h; rw [h]
  | .ptr a, b, h => by cases b <;> simp [AV.beq] at h; rw [h]
  | .slice a l c, b, h => by cases b <;> simp [AV.beq] at h; rw [h.1.1, h.1.2, h.2]
  | .map a, b, h => by cases b <;> simp [AV.beq] at h; rw [h]
  | .func f a c, b, h => by
    cases b <;> simp [AV.beq] at h
    rw [h.1.1, AV.beqs_eq a _ h.1.2, AV.beqs_eq c _ h.2]
  | .nilFunc, b, h => by cases b <;> simp [AV.beq] at h; rfl
  | .iface t v, b, h => by
    cases b <;> simp [AV.beq] at h
    rw [h.1, AV.beq_eq v _ h.2]
  | .nilIface, b, h => by cases b <;> simp [AV.beq] at h; rfl
  | .agg c, b, h => by
    cases b <;> simp [AV.beq] at h
    rw [AV.beqs_eq c _ h]
  | .tuple c, b, h => by
    cases b <;> simp [AV.beq] at h
    rw [AV.beqs_eq c _ h]
  | .yield x, b, h => by cases b <;> simp [AV.beq] at h; rw [h]
  | .clip x l, b, h => by cases b <;> simp [AV.beq] at h; rw [h.1, h.2]
  | .rest x, b, h => by cases b <;> simp [AV.beq] at h; rw [h]
theorem AV.beqs_eq : ∀ (a b : List AV), AV.beqs a b = true → a = b
  | [], b, h => by cases b <;> simp [AV.beqs] at h; rfl
  | x :: l, b, h => by
    cases b <;> simp [AV.beqs] at h
    rw [AV.beq_eq x _ h.1, AV.beqs_eq l _ h.2]
end

/-- What a plain operation leaves. -/
theorem plain_st {g : G} {s : S} {o : Op} {vs : List AV} {r : R} (hk : kindOp g o = 0) (h : exec g s o vs = some r) : ∃ v, r = .val v s := by
  have none_ : ∀ {x : Option R}, x = none → x = some r → ∃ v, r = .val v s := fun h1 h2 => by rw [h1] at h2; cases h2
  have valO_ : ∀ {x : Option AV}, valO s x = some r → ∃ v, r = .val v s := fun {x} h => by
    unfold valO at h
    split at h
    · injection h with h; exact ⟨_, h.symm⟩
    · cases h
  cases o <;> simp only [exec] at h
  case convert a b x =>
    simp only [kindOp] at hk
    split at h
    · split at h
      · rename_i v' t hc
        injection h with h
        subst h
        have : t = s := by
          unfold convS at hc
          repeat' (split at hc)
          all_goals first
            | (cases hc; done)
            | (injection hc with hc; injection hc with _ hc; exact hc.symm)
            | (rename_i h1 h2 _ _ _ _ _; rw [h1, h2] at hk; cases hk)
            | skip
          all_goals (exfalso; simp_all)
        subst this
        exact ⟨_, rfl⟩
      · cases h
    · cases h
  case entry x =>
    split at h
    · unfold exEntry at h
      repeat' (split at h)
      all_goals first
        | exact none_ rfl h
        | (injection h with h; exact ⟨_, h.symm⟩)
    · cases h
  case lookup t x k ok =>
    split at h
    · exact lookup_val h
    · cases h
  case call c =>
    obtain ⟨callee, args, ats⟩ := c
    unfold exCall at h
    cases callee with
    | value f => simp [kindOp] at hk
    | invoke x m => simp [kindOp] at hk
    | builtin b =>
      cases b <;> simp [kindOp] at hk <;> simp only [builtin] at h
      all_goals
        repeat' (split at h)
        all_goals first
          | exact none_ rfl h
          | (injection h with h; exact ⟨_, h.symm⟩)
  all_goals first
    | (simp [kindOp] at hk; done)
    | exact none_ rfl h
    | (injection h with h; exact ⟨_, h.symm⟩)
    | (try simp only [exBuild, exFieldAddr, exField, exIndexAddr, exIndex, exLookup, exAssert, sliceOp] at h
       repeat' (split at h)
       all_goals first
         | exact none_ rfl h
         | exact valO_ h
         | (injection h with h; exact ⟨_, h.symm⟩)
         | (simp only [sliceOp] at h
            repeat' (split at h)
            all_goals first
              | exact none_ rfl h
              | (injection h with h; exact ⟨_, h.symm⟩)))
    | (cases ‹Option Operand› <;> simp [kindOp] at hk)

/-- What an operation that makes an object does. -/
theorem alloc_shape {g : G} {s : S} {o : Op} {vs : List AV} {r : R} (hk : kindOp g o = 1) (h : exec g s o vs = some r) :
    ∃ (ob : AO) (mk : Nat → AV), r = .val (mk s.n) (Ev.new s ob) ∧ ∀ s', exec g s' o vs = some (.val (mk s'.n) (Ev.new s' ob)) := by
  cases o <;> simp only [kindOp] at hk <;> first | (cases hk; done) | skip
  case alloc t =>
    simp only [exec] at h ⊢
    cases hz : g.zero t with
    | none => rw [hz] at h; cases h
    | some z =>
      rw [hz] at h
      injection h with h
      exact ⟨_, fun n => .ptr (some (n, 0)), h.symm, fun s' => rfl⟩
  case box t x =>
    simp only [exec] at h ⊢
    cases vs with
    | nil => cases h
    | cons v vs =>
      cases vs with
      | nil => injection h with h; exact ⟨_, fun n => .ptr (some (n, 0)), h.symm, fun s' => rfl⟩
      | cons _ _ => cases h
  case makeMap t r' =>
    cases r' with
    | some _ => cases hk
    | none =>
      simp only [exec] at h ⊢
      injection h with h
      exact ⟨.map [] 0, fun n => .map (some n), h.symm, fun s' => rfl⟩
  case buildSlice t len ps =>
    simp only [exec, exBuildSlice] at h ⊢
    cases hu : g.und t with
    | none => rw [hu] at h; cases h
    | some d =>
      cases hz : zipIx (ps.toList.map (·.1)) vs with
      | none => rw [hu, hz] at h; cases d <;> cases h
      | some pl =>
        rw [hu, hz] at h
        cases d <;> try (cases h; done)
        rename_i e
        dsimp only at h ⊢
        cases hsz : g.size e with
        | none => rw [hsz] at h; cases h
        | some size =>
          cases hze : g.zero e with
          | none => rw [hsz, hze] at h; cases h
          | some z =>
            rw [hsz, hze] at h
            dsimp only at h ⊢
            cases hc : (Nat.beq z.cells.length size && Nat.ble (len * size) (2 ^ 24)) with
            | false => rw [hc] at h; cases h
            | true =>
              rw [hc] at h
              dsimp only at h ⊢
              cases hf : fill (fun i => some (i * size, size)) (repl len z.cells) pl with
              | none => rw [hf] at h; cases h
              | some cs =>
                rw [hf] at h
                injection h with h
                exact ⟨_, fun n => .slice (some (n, 0)) len len, h.symm, fun s' => rfl⟩
  case makeSlice t l c =>
    simp only [exec] at h ⊢
    split at h
    · rename_i x y
      simp only [exMakeSlice] at h ⊢
      cases hu : g.und t with
      | none => rw [hu] at h; cases h
      | some d =>
        rw [hu] at h
        cases d <;> try (cases h; done)
        rename_i e
        cases x <;> try (cases h; done)
        cases y <;> try (cases h; done)
        rename_i kl l' kc c'
        dsimp only at h ⊢
        cases hi : g.info e with
        | none => rw [hi] at h; cases h
        | some i =>
          cases hz : g.zero e with
          | none => rw [hi, hz] at h; cases h
          | some z =>
            rw [hi, hz] at h
            dsimp only at h ⊢
            split at h
            · rename_i hc
              injection h with h
              refine ⟨_, fun n => .slice (some (n, 0)) l'.toNat c'.toNat, h.symm, fun s' => ?_⟩
              rw [if_pos hc]
            · cases h
    · cases h
  case convert a b x => split at hk <;> cases hk
  case call c =>
    obtain ⟨callee, args, ats⟩ := c
    cases callee with
    | builtin b => cases b <;> cases hk
    | _ => cases hk

/-- What must have been carried out ahead. -/
inductive Anc (all : Array Oper) : Nat → Nat → Prop
  | one {i : Nat} {o : Oper} {e : Edge} (ho : all[i]? = some o) (he : e ∈ o.after) (hb : Region.binds .any e = true) : Anc all i e.on
  | more {i j : Nat} {o : Oper} {e : Edge} (ho : all[i]? = some o) (he : e ∈ o.after) (hb : Region.binds .any e = true) (h : Anc all e.on j) : Anc all i j

theorem foldr_bits {all : Array Oper} {acc : List Nat} (hacc : ∀ i j, Nat.testBit ((acc[i]?).getD 0) j = true → Anc all i j) {i : Nat} {o : Oper} (ho : all[i]? = some o) : ∀ (l : List Edge), (∀ e ∈ l, e ∈ o.after) → ∀ j,
    Nat.testBit (l.foldr (fun e m => match Region.binds .any e with
    | true => m ||| (2 ^ e.on ||| (acc[e.on]?).getD 0)
    | false => m) 0) j = true → Anc all i j
  | [], _, j, h => by simp at h
  | e :: l, hl, j, h => by
    rw [List.foldr_cons] at h
    split at h
    · rename_i hb
      rw [Nat.testBit_or, Nat.testBit_or, Bool.or_eq_true, Bool.or_eq_true] at h
      rcases h with h | h | h
      · exact foldr_bits hacc ho l (fun e he => hl e (List.mem_cons_of_mem _ he)) j h
      · rw [Nat.testBit_two_pow] at h
        have : e.on = j := by simpa using h
        subst this
        exact .one ho (hl e List.mem_cons_self) hb
      · exact .more ho (hl e List.mem_cons_self) hb (hacc _ _ h)
    · exact foldr_bits hacc ho l (fun e he => hl e (List.mem_cons_of_mem _ he)) j h

theorem ancs_spec {all : Array Oper} : ∀ (l : List Oper) (acc : List Nat), all.toList.drop acc.length = l → (∀ i j, Nat.testBit ((acc[i]?).getD 0) j = true → Anc all i j) →
    ∀ i j, Nat.testBit (((ancs l acc)[i]?).getD 0) j = true → Anc all i j
  | [], acc, _, hacc => by simpa [ancs] using hacc
  | o :: l, acc, hl, hacc => by
    simp only [ancs]
    have hlt : acc.length < all.toList.length := by
      rcases Nat.lt_or_ge acc.length all.toList.length with h | h
      · exact h
      · rw [List.drop_eq_nil_of_le h] at hl; cases hl
    have hl' := hl
    rw [List.drop_eq_getElem_cons hlt] at hl'
    injection hl' with ho hrest
    have hoo : all[acc.length]? = some o := by rw [← ho]; simp
    refine ancs_spec l _ (by simpa using hrest) fun i j h => ?_
    rcases Nat.lt_or_ge i acc.length with hi | hi
    · rw [List.getElem?_append_left hi] at h
      exact hacc i j h
    · rw [List.getElem?_append_right hi] at h
      cases hq : i - acc.length with
      | zero =>
        have : i = acc.length := by omega
        subst this
        rw [hq] at h
        simp only [List.getElem?_cons_zero, Option.getD_some] at h
        exact foldr_bits hacc hoo _ (fun e he => by simpa using he) j h
      | succ q => rw [hq] at h; simp at h

/-- What has been carried out. -/
def dn (L : Array Bool) (i : Nat) : Prop := L.getD i false = true

def Clsd (all : Array Oper) (L : Array Bool) : Prop :=
  ∀ j o, all[j]? = some o → dn L j → ∀ e ∈ o.after, Region.binds .any e = true → dn L e.on

theorem Anc.ready {all : Array Oper} {L : Array Bool} (hc : Clsd all L) {i j : Nat} (h : Anc all i j) (hi : ∀ o e, all[i]? = some o → e ∈ o.after → Region.binds .any e = true → dn L e.on) : dn L j := by
  induction h with
  | one ho he hb => exact hi _ _ ho he hb
  | more ho he hb _ ih => exact ih fun o e ho' he' hb' => hc _ _ ho' (hi _ _ ho he hb) e he' hb'

theorem Anc.closed {all : Array Oper} {L : Array Bool} (hc : Clsd all L) {i j : Nat} (h : Anc all i j) (hi : dn L i) : dn L j :=
  h.ready hc fun o e ho he hb => hc i o ho hi e he hb

theorem dn_set {L : Array Bool} {i j : Nat} (hi : L.getD i true = false) : dn (L.setIfInBounds i true) j ↔ dn L j ∨ j = i := by
  have hlt : i < L.size := by
    rcases Nat.lt_or_ge i L.size with h' | h'
    · exact h'
    · simp [Array.getElem?_eq_none h'] at hi
  unfold dn
  by_cases e : j = i
  · subst e; simp [hlt]
  · have e' : i ≠ j := fun h => e h.symm
    simp [Array.getElem?_setIfInBounds_ne e', e]

theorem not_dn {L : Array Bool} {i : Nat} (hi : L.getD i true = false) : ¬ dn L i := by
  have hlt : i < L.size := by
    rcases Nat.lt_or_ge i L.size with h' | h'
    · exact h'
    · simp [Array.getElem?_eq_none h'] at hi
  unfold dn
  simp [hlt] at hi ⊢
  exact hi

namespace Reg
variable {g : G} {cf : CF} {nt : Nat} {c : Reg}

theorem writer_some {t : Tmp} : ∀ {l : List Oper} {k j : Nat}, writer t l k = some j → ∃ q o, j = k + q ∧ l[q]? = some o ∧ o.dst = some t
  | [], k, j, h => by simp [writer] at h
  | o :: l, k, j, h => by
    simp only [writer] at h
    split at h
    · rename_i hd
      injection h with h
      refine ⟨0, o, by omega, rfl, ?_⟩
      unfold isDst at hd
      split at hd
      · rename_i d hdd
        rw [hdd, Nat.eq_of_beq_eq_true hd]
      · cases hd
    · obtain ⟨q, o', h1, h2, h3⟩ := writer_some h
      exact ⟨q + 1, o', by omega, by simpa using h2, h3⟩

theorem writer_none {t : Tmp} : ∀ {l : List Oper} {k : Nat}, writer t l k = none → ∀ o ∈ l, o.dst ≠ some t
  | [], k, h, o, ho => by cases ho
  | o :: l, k, h, o', ho => by
    simp only [writer] at h
    split at h
    · cases h
    · rename_i hd
      rcases List.mem_cons.1 ho with rfl | ho
      · intro e
        unfold isDst at hd
        rw [e] at hd
        simp at hd
      · exact writer_none h o' ho

/-- What 'opOk' says. -/
theorem opOk_spec {i : Nat} (h : c.opOk g nt i = true) {o : Oper} (ho : c.all[i]? = some o) : ∃ v, c.V[i]? = some v ∧ dstOk nt o.dst = true ∧ (∀ e ∈ o.after, Region.binds .any e = true → e.on < i) ∧
    (∀ d, o.dst = some d → writer d c.all.toList 0 = some i) ∧
    ((c.want i o = some false ∧ v = undef ∧ c.notIn i = true) ∨ (c.want i o = some true ∧ ∃ vs, c.vals g i o.op.operands.toList = some vs ∧
      ((litKind c.m i o.op = 1 ∧ (∃ e ∈ c.E, e.i = i) ∧ c.effOk g i 1 vs v = true) ∨
       (litKind c.m i o.op = 2 ∧ v = undef ∧ c.notIn i = true ∧ ∃ b k x, vs = [.map (some b), k, x] ∧ c.insOk g i o.op b k = true) ∨
       (litKind c.m i o.op ≠ 1 ∧ litKind c.m i o.op ≠ 2 ∧
        ((kindOp g o.op = 0 ∧ c.notIn i = true ∧ c.plainOk g i o.op vs v = true) ∨ ∃ k, kindOp g o.op = k + 1 ∧ (∃ e ∈ c.E, e.i = i) ∧ c.effOk g i (k + 1) vs v = true))))) := by
  unfold opOk at h
  rw [ho] at h
  split at h
  · rename_i o' v he hv
    injection he with he
    subst he
    simp only [Bool.and_eq_true] at h
    obtain ⟨⟨⟨h1, h2⟩, h3⟩, h4⟩ := h
    refine ⟨v, hv, h1, fun e he hb => ?_, fun d hd => ?_, ?_⟩
    · have := List.all_eq_true.1 h2 e (by simpa using he)
      rw [hb] at this
      simp only [Bool.not_true, Bool.false_or] at this
      exact Nat.le_of_ble_eq_true this
    · rw [hd] at h3
      dsimp only at h3
      split at h3
      · rename_i j hj
        rw [hj, Nat.eq_of_beq_eq_true h3]
      · cases h3
    · split at h4
      · cases h4
      · rename_i hw
        simp only [Bool.and_eq_true] at h4
        exact .inl ⟨hw, AV.beq_eq _ _ h4.1, h4.2⟩
      · rename_i hw
        split at h4
        · cases h4
        · rename_i vs hvs
          refine .inr ⟨hw, vs, hvs, ?_⟩
          split at h4
          · rename_i hl
            simp only [Bool.and_eq_true] at h4
            obtain ⟨e, he, hei⟩ := List.any_eq_true.1 h4.1
            exact .inl ⟨hl, ⟨e, he, Nat.eq_of_beq_eq_true hei⟩, h4.2⟩
          · rename_i hl
            simp only [Bool.and_eq_true] at h4
            obtain ⟨⟨h5, h6⟩, h7⟩ := h4
            split at h7
            · exact .inr (.inl ⟨hl, AV.beq_eq _ _ h5, h6, _, _, _, rfl, h7⟩)
            · cases h7
          · rename_i hl1 hl2
            refine .inr (.inr ⟨hl1, hl2, ?_⟩)
            split at h4
            · rename_i hk
              simp only [Bool.and_eq_true] at h4
              exact .inl ⟨hk, h4.1, h4.2⟩
            · rename_i k hk
              simp only [Bool.and_eq_true] at h4
              obtain ⟨e, he, hei⟩ := List.any_eq_true.1 h4.1
              exact .inr ⟨k, hk, ⟨e, he, Nat.eq_of_beq_eq_true hei⟩, h4.2⟩
  · cases h

theorem notIn_spec {i : Nat} (h : c.notIn i = true) : ∀ e ∈ c.E, e.i ≠ i := by
  intro e he hei
  have := List.all_eq_true.1 h e he
  rw [hei] at this
  simp at this

theorem effOk_spec {i k p : Nat} {vs : List AV} {v : AV} {e : Ent} (h : c.effOk g i k vs v = true) (he : c.E[p]? = some e) (hi : e.i = i) :
    vs = e.vs ∧ v = e.v ∧ (k = 1 ∨ (loose g c.m c.all c.A i = true ∧ c.floatOk i e = true) ∨ (loose g c.m c.all c.A i = false ∧ c.tight p = true)) := by
  have hlt : p < c.E.length := (List.getElem?_eq_some_iff.1 he).1
  have := List.all_eq_true.1 h p (List.mem_range.2 hlt)
  rw [he] at this
  dsimp only at this
  rw [hi] at this
  simp only [Nat.beq_refl, Bool.not_true, Bool.false_or, Bool.and_eq_true, Bool.or_eq_true] at this
  refine ⟨AV.beqs_eq _ _ this.1.1, AV.beq_eq _ _ this.1.2, ?_⟩
  rcases this.2 with h1 | h1
  · exact .inl (Nat.eq_of_beq_eq_true h1)
  · split at h1
    · rename_i hl; exact .inr (.inl ⟨hl, h1⟩)
    · rename_i hl; exact .inr (.inr ⟨hl, h1⟩)

theorem tight_spec {p : Nat} (h : c.tight p = true) {ep : Ent} (hp : c.E[p]? = some ep) {q : Nat} {e : Ent} (hq : q < p) (he : c.E[q]? = some e) : c.anc ep.i e.i = true := by
  unfold tight at h
  rw [hp] at h
  exact List.all_eq_true.1 h e (List.mem_of_getElem? (i := q) (by rw [List.getElem?_take]; simpa [hq] using he))

theorem loGo_le {i k : Nat} : ∀ {E : List Ent} {p a : Nat}, a ≤ k → (∀ q e, E[q]? = some e → c.anc i e.i = true → c.tight (p + q) = true → p + q < k) → c.loGo i E p a ≤ k
  | [], p, a, ha, _ => ha
  | e :: E, p, a, ha, h => by
    unfold loGo
    refine loGo_le ?_ fun q f hf h1 h2 => by
      have := h (q + 1) f (by simpa using hf) h1 (by rw [← h2]; congr 1; omega)
      omega
    split
    · rename_i hc
      simp only [Bool.and_eq_true] at hc
      have := h 0 e rfl hc.1 hc.2
      omega
    · exact ha

theorem le_hiGo {i k : Nat} : ∀ {E : List Ent} {p : Nat}, k ≤ p + E.length → (∀ q e, E[q]? = some e → c.anc e.i i = true → k ≤ p + q) → k ≤ c.hiGo i E p
  | [], p, hk, _ => by simpa [hiGo] using hk
  | e :: E, p, hk, h => by
    unfold hiGo
    split
    · rename_i hc
      exact h 0 e rfl hc
    · refine le_hiGo (by simp at hk; omega) fun q f hf h1 => by
        have := h (q + 1) f (by simpa using hf) h1
        omega

theorem plainFrom_spec {o : Op} {vs : List AV} {v : AV} : ∀ {n k : Nat}, c.plainFrom g o vs v n k = true → ∀ j s, k ≤ j → j < k + n → c.st j = some s → same1 (exec g s o vs) v = true
  | 0, k, _, j, s, h1, h2, _ => by omega
  | n + 1, k, h, j, s, h1, h2, hs => by
    simp only [plainFrom, Bool.and_eq_true] at h
    rcases Nat.eq_or_lt_of_le h1 with e | e
    · subst e
      rw [hs] at h
      exact h.1
    · exact plainFrom_spec h.2 j s e (by omega) hs

theorem same1_spec {r : Option R} {v : AV} (h : same1 r v = true) : ∃ t, r = some (.val v t) := by
  unfold same1 at h
  split at h
  · rename_i v' t
    rw [← AV.beq_eq _ _ h]
    exact ⟨t, rfl⟩
  · cases h

theorem stays_exec {o : Op} {vs : List AV} {v : AV} {s t s' : S} (hst : stays o = true) (h : exec g s o vs = some (.val v t)) : ∃ t', exec g s' o vs = some (.val v t') := by
  have valO_ : ∀ {x : Option AV}, valO s x = some (.val v t) → valO s' x = some (.val v s') := fun {x} h => by
    unfold valO at h ⊢
    split at h
    · injection h with h; injection h with h1 h2; subst h1; rfl
    · cases h
  cases o <;> simp only [stays] at hst <;> first | (cases hst; done) | skip
  case binOp op t x y yt =>
    rw [Bool.not_eq_true'] at hst
    simp only [exec, hst] at h ⊢
    split at h
    · exact ⟨_, valO_ h⟩
    · cases h
  all_goals simp only [exec] at h ⊢
  all_goals first
    | (injection h with h; injection h with h1 h2; subst h1; exact ⟨_, rfl⟩)
    | (split at h
       all_goals first
         | (cases h; done)
         | exact ⟨_, valO_ h⟩
         | (injection h with h; injection h with h1 h2; subst h1; exact ⟨_, rfl⟩)
         | (try simp only [exBuild, exFieldAddr, exField, exIndexAddr, exIndex, exAssert] at h ⊢
            repeat' (split at h)
            all_goals first
              | (cases h; done)
              | exact ⟨_, valO_ h⟩
              | (injection h with h; injection h with h1 h2; subst h1; exact ⟨_, rfl⟩)
              | (injection h with h; injection h with h1 h2; subst h1; simp_all)
              | (simp_all)))
    | (simp only [exBuild] at h ⊢
       repeat' (split at h)
       all_goals first
         | (cases h; done)
         | (injection h with h; injection h with h1 h2; subst h1; simp_all))

theorem plainOk_spec {i k : Nat} {o : Op} {vs : List AV} {v : AV} {s : S} (h : c.plainOk g i o vs v = true) (hk : k ≤ c.E.length) (h1 : ∀ p e, c.E[p]? = some e → c.anc i e.i = true → c.tight p = true → p < k)
    (h2 : ∀ p e, c.E[p]? = some e → c.anc e.i i = true → k ≤ p) (hs : c.st k = some s) : ∃ t, exec g s o vs = some (.val v t) := by
  unfold plainOk at h
  split at h
  · rename_i hst
    obtain ⟨t, ht⟩ := same1_spec h
    exact stays_exec hst ht
  · have hlo : c.loGo i c.E 0 0 ≤ k := loGo_le (Nat.zero_le _) fun q e he ha ht => by
      have := h1 q e he ha (by rw [← ht]; congr 1; omega)
      omega
    have hhi : k ≤ c.hiGo i c.E 0 := le_hiGo (by omega) fun q e he ha => by
      have := h2 q e he ha
      omega
    exact same1_spec (plainFrom_spec h k s hlo (by omega) hs)

theorem footFrom_spec {h : T AO} {l : List Nat} : ∀ {n k : Nat}, c.footFrom h l n k = true → ∀ j s, k ≤ j → j < k + n → c.st j = some s → sameOn s.h h l = true
  | 0, k, _, j, s, h1, h2, _ => by omega
  | n + 1, k, hf, j, s, h1, h2, hs => by
    simp only [footFrom, Bool.and_eq_true] at hf
    rcases Nat.eq_or_lt_of_le h1 with e | e
    · subst e
      rw [hs] at hf
      exact hf.1
    · exact footFrom_spec hf.2 j s e (by omega) hs

theorem floatOk_spec {i k : Nat} {e : Ent} {s : S} (h : c.floatOk i e = true) (hk : k ≤ c.E.length) (h1 : ∀ p e, c.E[p]? = some e → c.anc i e.i = true → c.tight p = true → p < k)
    (h2 : ∀ p e, c.E[p]? = some e → c.anc e.i i = true → k ≤ p) (hs : c.st k = some s) : sameOn s.h e.s.h (footOf e.s e.vs) = true := by
  have hlo : c.loGo i c.E 0 0 ≤ k := loGo_le (Nat.zero_le _) fun q e he ha ht => by
    have := h1 q e he ha (by rw [← ht]; congr 1; omega)
    omega
  have hhi : k ≤ c.hiGo i c.E 0 := le_hiGo (by omega) fun q e he ha => by
    have := h2 q e he ha
    omega
  exact footFrom_spec h k s hlo (by omega) hs

theorem inc_spec : ∀ {E : List Ent}, inc E = true → ∀ {p q : Nat} {e f : Ent}, p < q → E[p]? = some e → E[q]? = some f → e.i ≠ f.i
  | [], _, p, q, e, f, _, h1, _ => by simp at h1
  | x :: l, h, p, q, e, f, hpq, h1, h2 => by
    simp only [inc, Bool.and_eq_true] at h
    cases q with
    | zero => omega
    | succ q =>
      simp only [List.getElem?_cons_succ] at h2
      cases p with
      | succ p => exact inc_spec (p := p) (q := q) h.2 (by omega) (by simpa using h1) h2
      | zero =>
        simp only [List.getElem?_cons_zero, Option.some.injEq] at h1
        subst h1
        have := List.all_eq_true.1 h.1 f (List.mem_of_getElem? h2)
        intro e
        rw [e] at this
        simp at this
end Reg

theorem AV.beqss_eq : ∀ (a b : List (List AV)), AV.beqss a b = true → a = b
  | [], [], _ => rfl
  | a :: l, b :: k, h => by
    simp only [AV.beqss, Bool.and_eq_true] at h
    rw [AV.beqs_eq _ _ h.1, AV.beqss_eq l k h.2]
  | [], _ :: _, h => by simp [AV.beqss] at h
  | _ :: _, [], h => by simp [AV.beqss] at h

theorem ME.beqs_eq : ∀ (a b : List ME), ME.beqs a b = true → a = b
  | [], b, h => by cases b <;> simp [ME.beqs] at h; rfl
  | x :: l, b, h => by
    cases b with
    | nil => simp [ME.beqs] at h
    | cons y k =>
      simp only [ME.beqs, Bool.and_eq_true] at h
      obtain ⟨⟨⟨h1, h2⟩, h3⟩, h4⟩ := h
      obtain ⟨xk, xv, xb⟩ := x
      obtain ⟨yk, yv, yb⟩ := y
      rw [ME.beqs_eq l k h4]
      dsimp only at h1 h2 h3
      rw [AV.beq_eq _ _ h1, AV.beq_eq _ _ h2, Nat.eq_of_beq_eq_true h3]

theorem AO.beq_eq {x y : Option AO} (h : AO.beq x y = true) : x = y := by
  unfold AO.beq at h
  split at h
  · rfl
  · simp only [Bool.and_eq_true, beq_iff_eq] at h
    rw [AV.beqs_eq _ _ h.1.1.1, Nat.eq_of_beq_eq_true h.1.1.2, h.1.2, Nat.eq_of_beq_eq_true h.2]
  · simp only [Bool.and_eq_true] at h
    rw [AV.beqs_eq _ _ h.1, Nat.eq_of_beq_eq_true h.2]
  · rfl
  · simp only [Bool.and_eq_true] at h
    rw [AV.beqs_eq _ _ h.1.1, Nat.eq_of_beq_eq_true h.1.2, Nat.eq_of_beq_eq_true h.2]
  · simp only [Bool.and_eq_true] at h
    rw [ME.beqs_eq _ _ h.1, Nat.eq_of_beq_eq_true h.2]
  · simp only [Bool.and_eq_true, decide_eq_true_eq, beq_iff_eq] at h
    rw [h.1, h.2]
  · simp only [Bool.and_eq_true, beq_iff_eq] at h
    rw [Nat.eq_of_beq_eq_true h.1.1.1.1, AV.beqss_eq _ _ h.1.1.1.2, Nat.eq_of_beq_eq_true h.1.1.2, h.1.2, Nat.eq_of_beq_eq_true h.2]
  · cases h

theorem sameOn_spec {x y : T AO} {l : List Nat} (h : sameOn x y l = true) : ∀ b ∈ l, x.get b = y.get b := fun b hb => AO.beq_eq (List.all_eq_true.1 h b hb)

theorem restrict_get (s : S) : ∀ (l : List Nat) (R : T AO) (b : Nat), (restrict s l R).get b = if b ∈ l then s.h.get b else R.get b
  | [], R, b => by simp [restrict]
  | c :: l, R, b => by
    unfold restrict
    rw [restrict_get s l, T.get_set]
    by_cases h1 : b ∈ l
    · simp [h1]
    · by_cases h2 : b = c
      · subst h2; simp
      · simp [h1, h2]

theorem addNew_get (t : T AO) : ∀ (n a : Nat) (h : T AO) (b : Nat), (addNew t n a h).get b = if a ≤ b ∧ b < a + n then t.get b else h.get b
  | 0, a, h, b => by
    unfold addNew
    rw [if_neg (by omega)]
  | n + 1, a, h, b => by
    unfold addNew
    rw [addNew_get t n]
    by_cases h1 : a + 1 ≤ b ∧ b < a + 1 + n
    · rw [if_pos h1, if_pos (by omega)]
    · rw [if_neg h1, T.get_set]
      by_cases h2 : b = a
      · subst h2; rw [if_pos rfl, if_pos (by omega)]
      · rw [if_neg h2, if_neg (by omega)]

theorem float_spec {g : G} {cf : CF} {s : S} {o : Op} {vs : List AV} {v : AV} {t : S} (h : floatE g cf s o vs = some (v, t)) : ∃ t0, stepE g cf { h := restrict s (footOf s vs) .e, n := s.n } o vs = some (v, t0) ∧
    sameOn t0.h s.h (footOf s vs) = true ∧ (∀ b ∈ footOf s vs, b < s.n) ∧ t.n = t0.n ∧ ∀ b, t.h.get b = if s.n ≤ b ∧ b < s.n + (t0.n - s.n) then t0.h.get b else s.h.get b := by
  unfold floatE at h
  split at h
  · rename_i v' t0 he
    split at h
    · rename_i hs
      simp only [Bool.and_eq_true] at hs
      injection h with h
      injection h with h1 h2
      subst h1; subst h2
      exact ⟨t0, he, hs.1, fun b hb => Nat.le_of_ble_eq_true (List.all_eq_true.1 hs.2 b hb), rfl, fun b => addNew_get _ _ _ _ _⟩
    · cases h
  · cases h

theorem stepR_n {P : Program} {g : G} {cf : CF} (hcf : CS P g cf) {fl : Bool} {s t : S} {o : Op} {vs : List AV} {v : AV} (h : stepR g cf fl s o vs = some (v, t)) : s.n ≤ t.n := by
  unfold stepR at h
  split at h
  · obtain ⟨t0, h1, _, _, h2, _⟩ := float_spec h
    rw [h2]
    exact stepE_n (s := { h := restrict s (footOf s vs) .e, n := s.n }) hcf h1
  · exact stepE_n hcf h

/-- An entry is what its operation does. -/
def EntOK (g : G) (cf : CF) (m : Option Nat) (all : Array Oper) (A : List Nat) (e : Ent) : Prop :=
  ∃ o, all[e.i]? = some o ∧ ((litKind m e.i o.op = 1 ∧ e.v = .map (some e.s.n) ∧ e.t = { h := e.s.h, n := e.s.n + 1 }) ∨ (litKind m e.i o.op ≠ 1 ∧ stepR g cf (loose g m all A e.i) e.s o.op e.vs = some (e.v, e.t)))

/-- What 'pass' computes is a chain. -/
def Chain (g : G) (cf : CF) (m : Option Nat) (all : Array Oper) (A : List Nat) : S → List Ent → Prop
  | _, [] => True
  | s, e :: l => e.s = s ∧ EntOK g cf m all A e ∧ Chain g cf m all A e.t l

theorem pass_chain {g : G} {cf : CF} {m : Option Nat} {all : Array Oper} {A : List Nat} : ∀ {rest : List Nat} {r : Regs} {s : S} {V W : T AV} {E : List Ent}, pass g cf m all A rest r s V = some (W, E) → Chain g cf m all A s E
  | [], r, s, V, W, E, h => by
    simp only [pass, Option.some.injEq, Prod.mk.injEq] at h
    obtain ⟨_, rfl⟩ := h
    trivial
  | i :: rest, r, s, V, W, E, h => by
    simp only [pass] at h
    split at h
    · cases h
    · rename_i o hoo
      split at h
      · exact pass_chain h
      · split at h
        · cases h
        · rename_i vs hvs
          split at h
          · rename_i hl
            split at h
            · rename_i hp
              simp only [Option.some.injEq, Prod.mk.injEq] at h
              obtain ⟨_, rfl⟩ := h
              exact ⟨rfl, ⟨o, hoo, .inl ⟨hl, rfl, rfl⟩⟩, pass_chain hp⟩
            · cases h
          · exact pass_chain h
          · rename_i hl _
            split at h
            · cases h
            · rename_i v t hst
              split at h
              · exact pass_chain h
              · split at h
                · rename_i hp
                  simp only [Option.some.injEq, Prod.mk.injEq] at h
                  obtain ⟨_, rfl⟩ := h
                  exact ⟨rfl, ⟨o, hoo, .inr ⟨hl, hst⟩⟩, pass_chain hp⟩
                · cases h

theorem chain_at {g : G} {cf : CF} {m : Option Nat} {all : Array Oper} {A : List Nat} : ∀ {s : S} {E : List Ent}, Chain g cf m all A s E → ∀ {p : Nat} {e : Ent}, E[p]? = some e →
    (match p with | 0 => some s | k + 1 => (E[k]?).map (·.t)) = some e.s ∧ EntOK g cf m all A e
  | s, [], _, p, e, h => by simp at h
  | s, x :: l, ⟨h1, h2, h3⟩, p, e, h => by
    cases p with
    | zero =>
      simp only [List.getElem?_cons_zero, Option.some.injEq] at h
      subst h
      exact ⟨by rw [h1], h2⟩
    | succ p =>
      simp only [List.getElem?_cons_succ] at h
      obtain ⟨h4, h5⟩ := chain_at h3 h
      refine ⟨?_, h5⟩
      cases p with
      | zero => simpa using h4
      | succ p => simpa using h4

end Go.Proofs.YtgfbjbdfckgdjaaGreatDoor.Ev

namespace Go.Proofs.YtgfbjbdfckgdjaaGreatDoor.Ev
open Go.RowKit

/-- The operation that lays the map whose entries come in no order. -/
def Reg.IsLit (c : Reg) (i : Nat) : Prop := ∃ o, c.all[i]? = some o ∧ litKind c.m i o.op = 1

/-- The map under way: the entries of those that were carried out, in their order. -/
def LitAt (g : G) (c : Reg) (L : Array Bool) (β : Ren) (i : Info) (w : World) : Prop :=
  ∃ (ms : Array MapEntry) (ck : Nat) (js : List Nat) (es : List ME), w.heap[i.blk]? = some (.map ms ck) ∧ i.xtra = 0 ∧ js.Nodup ∧ (∀ j, j ∈ js ↔ (dn L j ∧ ∃ f, c.entry g j = some f)) ∧
    (es.map fun e => (e.key, e.val)) = js.filterMap (fun j => (c.entry g j).map fun e => (e.key, e.val)) ∧ ERel β es ms.toList

theorem ERel.mono {β γ : Ren} (h : β.le γ) {es : List ME} {ms : List MapEntry} (k : ERel β es ms) : ERel γ es ms :=
  ⟨k.1, fun j e he => let ⟨m, h1, h2, h3, h4⟩ := k.2 j e he; ⟨m, h1, h2.mono h _ _, h3.mono h _ _, h4⟩⟩

/-- A region under way: what 'L' lists has been carried out; of what changes the abstract heap the first k; beyond these only new objects that nothing has met. -/
structure Inv (g : G) (c : Reg) (N : Nat) (β0 : Ren) (w0 : World) (act0 : Act) (L : Array Bool) (k : Nat) (s : S) (β : Ren) (a : Act) (w : World) : Prop where
  kle : k ≤ c.E.length
  st : c.st k = some s
  pre : ∀ q e, q < k → c.E[q]? = some e → dn L e.i
  rel : Rel β s w
  le : β0.le β
  size : w0.heap.size ≤ w.heap.size
  keep : ∀ q, q < w0.heap.size → (∀ b o i, c.s0.h.get b = some o → β0 b = some i → i.blk ≠ q) → w.heap[q]? = w0.heap[q]?
  old : ∀ b o i, s.h.get b = some o → β b = some i → i.blk < w0.heap.size → ∃ d p j, c.s0.h.get d = some p ∧ β0 d = some j ∧ j.blk = i.blk
  dom : ∀ b i, β b = some i → β0 b = some i ∨ (c.s0.n ≤ b ∧ b < N)
  free : ∀ b i, s.n ≤ b → b < N → β b = some i → ∃ (p : Nat) (e : Ent), k ≤ p ∧ c.E[p]? = some e ∧ dn L e.i ∧ e.s.n ≤ b ∧ b < e.t.n
  pend : ∀ (p : Nat) (e : Ent), k ≤ p → c.E[p]? = some e → ¬ c.IsLit e.i → dn L e.i → (∀ b, ¬ (e.s.n ≤ b ∧ b < e.t.n) → e.t.h.get b = e.s.h.get b) ∧
    ∀ b o, e.s.n ≤ b → b < e.t.n → e.t.h.get b = some o → ∃ i, β b = some i ∧ OR β i w o ∧ w0.heap.size ≤ i.blk ∧ (∀ b' q j, s.h.get b' = some q → β b' = some j → j.blk ≠ i.blk)
  apart : ∀ (p q : Nat) (e f : Ent) (b d : Nat) (o r : AO) (i j : Info), k ≤ p → k ≤ q → (p ≠ q ∨ b ≠ d) → c.E[p]? = some e → c.E[q]? = some f → ¬ c.IsLit e.i → ¬ c.IsLit f.i → dn L e.i → dn L f.i →
    e.s.n ≤ b → b < e.t.n → e.t.h.get b = some o → f.s.n ≤ d → d < f.t.n → f.t.h.get d = some r → β b = some i → β d = some j → i.blk ≠ j.blk
  lit : ∀ (p : Nat) (e : Ent), c.E[p]? = some e → c.IsLit e.i → dn L e.i → ∃ i, β e.s.n = some i ∧ LitAt g c L β i w ∧ w0.heap.size ≤ i.blk ∧ (∀ b q j, s.h.get b = some q → β b = some j → j.blk ≠ i.blk) ∧
    (∀ (q : Nat) (f : Ent) (b : Nat) (o : AO) (j : Info), k ≤ q → c.E[q]? = some f → ¬ c.IsLit f.i → dn L f.i → f.s.n ≤ b → b < f.t.n → f.t.h.get b = some o → β b = some j → j.blk ≠ i.blk)
  reg : ∀ i o v t, c.all[i]? = some o → c.V[i]? = some v → dn L i → o.dst = some t → VR β v (a.tmps.getD t Go.undef)
  reg0 : ∀ t, (∀ i o, c.all[i]? = some o → dn L i → o.dst ≠ some t) → (∀ v, T.get c.r0 t = some v → VR β v (a.tmps.getD t Go.undef)) ∧ (T.get c.r0 t = none → a.tmps.getD t Go.undef = Go.undef)
  defers : a.defers = act0.defers
  tsize : a.tmps.size = act0.tmps.size
  env : Same w0 w

/-- What the evaluator knows of a region. -/
structure Facts (P : Program) (g : G) (cf : CF) (nt : Nat) (c : Reg) (N : Nat) : Prop where
  ok : ∀ i, i < c.all.size → c.opOk g nt i = true
  inc : Reg.inc c.E = true
  bnd : ∀ (p : Nat) (e : Ent), c.E[p]? = some e → e.i < c.all.size
  chain : ∀ (p : Nat) (e : Ent), c.E[p]? = some e → c.st p = some e.s ∧ EntOK g cf c.m c.all c.A e
  anc : ∀ i j, c.anc i j = true → Anc c.all i j
  last : ∃ s, c.st c.E.length = some s ∧ s.n = N

section
variable {P : Program} {g : G} {cf : CF} {nt : Nat} {c : Reg} {N : Nat} {β0 : Ren} {w0 : World} {act0 : Act}

theorem st_mono (hcf : CS P g cf) (hF : Facts P g cf nt c N) {k l : Nat} (hkl : k ≤ l) : ∀ {s t : S}, c.st k = some s → c.st l = some t → s.n ≤ t.n := by
  induction l with
  | zero =>
    intro s t h1 h2
    have : k = 0 := by omega
    subst this
    rw [h1] at h2
    injection h2 with h2
    subst h2
    exact Nat.le_refl _
  | succ l ih =>
    intro s t h1 h2
    rcases Nat.eq_or_lt_of_le hkl with e | e
    · subst e
      rw [h1] at h2
      injection h2 with h2
      subst h2
      exact Nat.le_refl _
    · have h2' := h2
      simp only [Reg.st] at h2'
      cases he : c.E[l]? with
      | none => rw [he] at h2'; cases h2'
      | some x =>
        rw [he] at h2'
        injection h2' with h2'
        subst h2'
        obtain ⟨h3, o, _, h4⟩ := hF.chain l x he
        refine Nat.le_trans (ih (by omega) h1 h3) ?_
        rcases h4 with ⟨_, _, h4⟩ | ⟨_, h4⟩
        · rw [h4]; exact Nat.le_succ _
        · exact stepR_n hcf h4

theorem st_next (hF : Facts P g cf nt c N) {p : Nat} {e : Ent} (he : c.E[p]? = some e) : c.st (p + 1) = some e.t := by simp [Reg.st, he]

theorem st_le (hcf : CS P g cf) (hF : Facts P g cf nt c N) {k : Nat} (hk : k ≤ c.E.length) {s : S} (h : c.st k = some s) : s.n ≤ N := by
  obtain ⟨t, ht, rfl⟩ := hF.last
  exact st_mono hcf hF hk h ht

theorem ent_inj (hF : Facts P g cf nt c N) {p q : Nat} {e f : Ent} (he : c.E[p]? = some e) (hf : c.E[q]? = some f) (h : e.i = f.i) : p = q := by
  rcases Nat.lt_trichotomy p q with h1 | h1 | h1
  · have := Reg.inc_spec hF.inc h1 he hf; omega
  · exact h1
  · have := Reg.inc_spec hF.inc h1 hf he; omega

theorem islit_uniq {i j : Nat} (hi : c.IsLit i) (hj : c.IsLit j) : i = j := by
  have key : ∀ {i : Nat}, c.IsLit i → c.m = some i := by
    rintro i ⟨o, _, h⟩
    unfold litKind at h
    split at h
    · split at h
      · rename_i im hm
        split at h
        · rename_i hb
          rw [hm, Nat.eq_of_beq_eq_true hb]
        · cases h
      · cases h
    · split at h <;> cases h
    · cases h
  have h1 := key hi
  have h2 := key hj
  rw [h1] at h2
  injection h2

/-- A new object that nothing has met is at its turn. -/
theorem Inv.join (hcf : CS P g cf) (hF : Facts P g cf nt c N) {L : Array Bool} {k : Nat} {s : S} {β : Ren} {a : Act} {w : World} (h : Inv g c N β0 w0 act0 L k s β a w) {e : Ent} (he : c.E[k]? = some e) (hd : dn L e.i) :
    Inv g c N β0 w0 act0 L (k + 1) e.t β a w := by
  obtain ⟨hst, oe, hoe, hent⟩ := hF.chain k e he
  rw [h.st] at hst
  injection hst with hst
  subst hst
  have hk1 : k < c.E.length := (List.getElem?_eq_some_iff.1 he).1
  have hpre : ∀ q f, q < k + 1 → c.E[q]? = some f → dn L f.i := by
    intro q f hq hf
    rcases Nat.lt_or_ge q k with h1 | h1
    · exact h.pre q f h1 hf
    · have : q = k := by omega
      subst this
      rw [he] at hf
      injection hf with hf
      subst hf
      exact hd
  by_cases hlit : c.IsLit e.i
  · -- the map
    have het : e.t = { h := e.s.h, n := e.s.n + 1 } := by
      rcases hent with ⟨_, _, h1⟩ | ⟨h1, _⟩
      · exact h1
      · obtain ⟨o, ho, h2⟩ := hlit
        rw [hoe] at ho
        injection ho with ho
        subst ho
        exact absurd h2 h1
    have hn : e.t.n = e.s.n + 1 := by rw [het]
    have hh : e.t.h = e.s.h := by rw [het]
    refine ⟨hk1, st_next hF he, hpre, ⟨fun b q hb => ?_, fun b d q p x y hb hd' => ?_⟩, h.le, h.size, h.keep, fun b q x hb => ?_, h.dom, fun b x h1 h2 h3 => ?_, fun p f hp hf hnl hdf => ?_,
      fun p q f f' b d o r x y hp hq => h.apart p q f f' b d o r x y (by omega) (by omega), fun p f hf hlf hdf => ?_, h.reg, h.reg0, h.defers, h.tsize, h.env⟩
    · rw [hh] at hb
      obtain ⟨hlt, x, hx, hox⟩ := h.rel.obj b q hb
      exact ⟨by omega, x, hx, hox⟩
    · rw [hh] at hb hd'
      exact h.rel.inj b d q p x y hb hd'
    · rw [hh] at hb
      exact h.old b q x hb
    · obtain ⟨p, f, hp, hf, hdf, hb1, hb2⟩ := h.free b x (by omega) h2 h3
      refine ⟨p, f, ?_, hf, hdf, hb1, hb2⟩
      rcases Nat.eq_or_lt_of_le hp with e' | e'
      · subst e'
        rw [he] at hf
        injection hf with hf
        subst hf
        omega
      · exact e'
    · obtain ⟨hext, hp2⟩ := h.pend p f (by omega) hf hnl hdf
      refine ⟨hext, fun b o h1 h2 h3 => ?_⟩
      obtain ⟨x, hx, hox, hbx, hsx⟩ := hp2 b o h1 h2 h3
      exact ⟨x, hx, hox, hbx, fun b r y hb hy => hsx b r y (by rw [hh] at hb; exact hb) hy⟩
    · obtain ⟨x, hx, hat, hbx, hl1, hl2⟩ := h.lit p f hf hlf hdf
      exact ⟨x, hx, hat, hbx, fun b q j hb hj => hl1 b q j (by rw [hh] at hb; exact hb) hj, fun q f' b o j hq => hl2 q f' b o j (by omega)⟩
  · obtain ⟨hext, hpe⟩ := h.pend k e (Nat.le_refl _) he hlit hd
    have hnn : e.s.n ≤ e.t.n := by
      rcases hent with ⟨h1, _⟩ | ⟨_, h1⟩
      · exact absurd ⟨oe, hoe, h1⟩ hlit
      · exact stepR_n hcf h1
    have cases_ : ∀ b q, e.t.h.get b = some q → (e.s.n ≤ b ∧ b < e.t.n) ∨ (¬ (e.s.n ≤ b ∧ b < e.t.n) ∧ e.s.h.get b = some q) := by
      intro b q hb
      by_cases hc : e.s.n ≤ b ∧ b < e.t.n
      · exact .inl hc
      · exact .inr ⟨hc, by rw [← hext b hc]; exact hb⟩
    refine ⟨hk1, st_next hF he, hpre, ⟨fun b q hb => ?_, fun b d q p x y hb hd' hx hy exy => ?_⟩, h.le, h.size, h.keep, fun b q x hb hx hlt => ?_, h.dom, fun b x h1 h2 h3 => ?_, fun p f hp hf hnl hdf => ?_,
      fun p q f f' b d o r x y hp hq => h.apart p q f f' b d o r x y (by omega) (by omega), fun p f hf hlf hdf => ?_, h.reg, h.reg0, h.defers, h.tsize, h.env⟩
    · rcases cases_ b q hb with hc | ⟨_, hb⟩
      · obtain ⟨i, hi, ho, _, _⟩ := hpe b q hc.1 hc.2 hb
        exact ⟨hc.2, i, hi, ho⟩
      · obtain ⟨hlt, x, hx, hox⟩ := h.rel.obj b q hb
        exact ⟨by omega, x, hx, hox⟩
    · rcases cases_ b q hb with hc | ⟨_, hb2⟩ <;> rcases cases_ d p hd' with hc' | ⟨_, hd2⟩
      · rcases Nat.decEq b d with hne | heq
        · exact absurd exy (h.apart k k e e b d q p x y (Nat.le_refl _) (Nat.le_refl _) (.inr hne) he he hlit hlit hd hd hc.1 hc.2 hb hc'.1 hc'.2 hd' hx hy)
        · exact heq
      · obtain ⟨i, hi, _, _, hsep⟩ := hpe b q hc.1 hc.2 hb
        rw [hi] at hx
        injection hx with hx
        subst hx
        exact absurd exy.symm (hsep d p y hd2 hy)
      · obtain ⟨i, hi, _, _, hsep⟩ := hpe d p hc'.1 hc'.2 hd'
        rw [hi] at hy
        injection hy with hy
        subst hy
        exact absurd exy (hsep b q x hb2 hx)
      · exact h.rel.inj b d q p x y hb2 hd2 hx hy exy
    · rcases cases_ b q hb with hc | ⟨_, hb⟩
      · obtain ⟨i, hi, _, hblk, _⟩ := hpe b q hc.1 hc.2 hb
        rw [hi] at hx
        injection hx with hx
        subst hx
        omega
      · exact h.old b q x hb hx hlt
    · obtain ⟨p, f, hp, hf, hdf, hb1, hb2⟩ := h.free b x (by omega) h2 h3
      refine ⟨p, f, ?_, hf, hdf, hb1, hb2⟩
      rcases Nat.eq_or_lt_of_le hp with e' | e'
      · subst e'
        rw [he] at hf
        injection hf with hf
        subst hf
        omega
      · exact e'
    · obtain ⟨hextf, hpf⟩ := h.pend p f (by omega) hf hnl hdf
      refine ⟨hextf, fun b' o' h1 h2 h3 => ?_⟩
      obtain ⟨x, hx, hox, hbx, hsx⟩ := hpf b' o' h1 h2 h3
      refine ⟨x, hx, hox, hbx, fun b r y hb hy => ?_⟩
      rcases cases_ b r hb with hc | ⟨_, hb⟩
      · exact h.apart k p e f b b' r o' y x (Nat.le_refl _) (by omega) (.inl (by omega)) he hf hlit hnl hd hdf hc.1 hc.2 hb h1 h2 h3 hy hx
      · exact hsx b r y hb hy
    · obtain ⟨x, hx, hat, hbx, hl1, hl2⟩ := h.lit p f hf hlf hdf
      refine ⟨x, hx, hat, hbx, fun b q j hb hj => ?_, fun q f' b o j hq => hl2 q f' b o j (by omega)⟩
      rcases cases_ b q hb with hc | ⟨_, hb⟩
      · exact hl2 k e b q j (Nat.le_refl _) he hlit hd hc.1 hc.2 hb hj
      · exact hl1 b q j hb hj

theorem Inv.advance (hcf : CS P g cf) (hF : Facts P g cf nt c N) : ∀ (m : Nat) {L : Array Bool} {k : Nat} {s : S} {β : Ren} {a : Act} {w : World}, c.E.length - k ≤ m → Inv g c N β0 w0 act0 L k s β a w →
    ∃ k' s', Inv g c N β0 w0 act0 L k' s' β a w ∧ ∀ e, c.E[k']? = some e → ¬ dn L e.i
  | 0, L, k, s, β, a, w, hm, h => ⟨k, s, h, fun e he => by
      have := (List.getElem?_eq_some_iff.1 he).1
      omega⟩
  | m + 1, L, k, s, β, a, w, hm, h => by
    cases he : c.E[k]? with
    | none => exact ⟨k, s, h, fun e h' => by rw [he] at h'; cases h'⟩
    | some e =>
      by_cases hd : dn L e.i
      · have hlt := (List.getElem?_eq_some_iff.1 he).1
        exact Inv.advance hcf hF m (by omega) (h.join hcf hF he hd)
      · exact ⟨k, s, h, fun e' h' => by rw [he] at h'; injection h' with h'; subst h'; exact hd⟩

/-- One more operation has been carried out. -/
theorem Inv.move (hcf : CS P g cf) (hF : Facts P g cf nt c N) (hnt : nt ≤ act0.tmps.size) {L : Array Bool} {k k' : Nat} {s s' : S} {β γ : Ren} {a : Act} {w w' : World} (h : Inv g c N β0 w0 act0 L k s β a w) {i : Nat} (hi : L.getD i true = false)
    {o : Oper} (ho : c.all[i]? = some o) {v : AV} (hv : c.V[i]? = some v) {x : Value} (hx : VR γ v x)
    (hk : k' = k ∨ (k' = k + 1 ∧ ∃ e, c.E[k]? = some e ∧ e.i = i)) (hk' : k' ≤ c.E.length) (hs' : c.st k' = some s') (hrel : Rel γ s' w') (hle : β.le γ) (hsz : w.heap.size ≤ w'.heap.size)
    (hkeep : ∀ q, q < w.heap.size → (∀ b o i, s.h.get b = some o → β b = some i → i.blk ≠ q) → (∀ (p : Nat) (e : Ent) (i : Info), c.E[p]? = some e → c.IsLit e.i → dn L e.i → β e.s.n = some i → i.blk ≠ q) → w'.heap[q]? = w.heap[q]?)
    (hold : ∀ b o i, s'.h.get b = some o → γ b = some i → i.blk < w.heap.size → ∃ d p j, s.h.get d = some p ∧ β d = some j ∧ j.blk = i.blk)
    (hdom : ∀ b j, γ b = some j → β b = some j ∨ (s.n ≤ b ∧ b < s'.n) ∨ ∃ (p : Nat) (e : Ent), k' ≤ p ∧ c.E[p]? = some e ∧ e.i = i ∧ e.s.n ≤ b ∧ b < e.t.n)
    (hnew : ∀ (p : Nat) (e : Ent), k' ≤ p → c.E[p]? = some e → ¬ c.IsLit e.i → e.i = i → (∀ b, ¬ (e.s.n ≤ b ∧ b < e.t.n) → e.t.h.get b = e.s.h.get b) ∧
      (∀ b q, e.s.n ≤ b → b < e.t.n → e.t.h.get b = some q → ∃ j, γ b = some j ∧ OR γ j w' q ∧ w.heap.size ≤ j.blk ∧ (∀ b' r y, s'.h.get b' = some r → γ b' = some y → y.blk ≠ j.blk)) ∧
      ∀ b d q r y z, b ≠ d → e.s.n ≤ b → b < e.t.n → e.t.h.get b = some q → e.s.n ≤ d → d < e.t.n → e.t.h.get d = some r → γ b = some y → γ d = some z → y.blk ≠ z.blk) (henv : Same w w')
    (hlit : ∀ (p : Nat) (e : Ent), c.E[p]? = some e → c.IsLit e.i → dn (L.setIfInBounds i true) e.i → ∃ j, γ e.s.n = some j ∧ LitAt g c (L.setIfInBounds i true) γ j w' ∧ w0.heap.size ≤ j.blk ∧ (∀ b q y, s'.h.get b = some q → γ b = some y → y.blk ≠ j.blk) ∧
      (∀ (q : Nat) (f : Ent) (b : Nat) (r : AO) (y : Info), k' ≤ q → c.E[q]? = some f → ¬ c.IsLit f.i → dn (L.setIfInBounds i true) f.i → f.s.n ≤ b → b < f.t.n → f.t.h.get b = some r → γ b = some y → y.blk ≠ j.blk)) :
    Inv g c N β0 w0 act0 (L.setIfInBounds i true) k' s' γ (a.put o.dst x) w' := by
  have hnd := not_dn hi
  have hkk : k ≤ k' := by omega
  have hn : s.n ≤ s'.n := st_mono hcf hF hkk h.st hs'
  have hN : s'.n ≤ N := st_le hcf hF hk' hs'
  have hlt : i < c.all.size := (Array.getElem?_eq_some_iff.1 ho).1
  obtain ⟨v', hv', hdst, _, hwr, _⟩ := Reg.opOk_spec (hF.ok i hlt) ho
  rw [hv] at hv'
  injection hv' with hv'
  subst hv'
  have hs0 : c.s0.n ≤ s.n := st_mono hcf hF (Nat.zero_le k) (show c.st 0 = some c.s0 from rfl) h.st
  -- what was pending stands
  have pold : ∀ (p : Nat) (e : Ent), k' ≤ p → c.E[p]? = some e → ¬ c.IsLit e.i → dn L e.i → ∀ b q, e.s.n ≤ b → b < e.t.n → e.t.h.get b = some q → ∃ j, β b = some j ∧ OR γ j w' q ∧ w0.heap.size ≤ j.blk ∧ j.blk < w.heap.size ∧ (∀ b' r y, s'.h.get b' = some r → γ b' = some y → y.blk ≠ j.blk) := by
    intro p e hp he hnl hd b q hb1 hb2 hbq
    obtain ⟨j, hj, hor, hbl, hsep⟩ := (h.pend p e (by omega) he hnl hd).2 b q hb1 hb2 hbq
    have hjlt := hor.lt
    refine ⟨j, hj, (hor.keep (hkeep _ hjlt (fun b r y hb hy => hsep b r y hb hy) fun p' f y hf hlf hdf hy exy => ?_)).mono hle, hbl, hjlt, fun b r y hb hy exy => ?_⟩
    · obtain ⟨z, hz, _, _, _, hl2⟩ := h.lit p' f hf hlf hdf
      rw [hy] at hz
      injection hz with hz
      subst hz
      exact hl2 p e b q j (by omega) he hnl hd hb1 hb2 hbq hj exy.symm
    · obtain ⟨d, r', z, hd', hz, ez⟩ := hold b r y hb hy (by omega)
      exact hsep d r' z hd' hz (by omega)
  have tm : ∀ t, o.dst ≠ some t → (a.put o.dst x).tmps.getD t Go.undef = a.tmps.getD t Go.undef := by
    intro t ht
    cases hd : o.dst with
    | none => rfl
    | some d =>
      have : d ≠ t := fun e => ht (by rw [hd, e])
      simp [Act.put, Array.getElem?_setIfInBounds_ne this]
  refine ⟨hk', hs', fun q e hq he => ?_, hrel, h.le.trans hle, Nat.le_trans h.size hsz, fun q hq hno => ?_, fun b r y hb hy hlt' => ?_, fun b y hb => ?_, fun b y h1 h2 h3 => ?_, fun p e hp he hnl hd => ?_, fun p q e f b d o' r y z hp hq hpq he hf hne hnf hde hdf hb1 hb2 hb3 hd1 hd2 hd3 hy hz => ?_, hlit,
    fun j oj vj t hoj hvj hdj ht => ?_, fun t ht => ?_, ?_, ?_, h.env.trans henv⟩
  · rw [dn_set hi]
    rcases Nat.lt_or_ge q k with h1 | h1
    · exact .inl (h.pre q e h1 he)
    · rcases hk with hk | ⟨hk, e', he', hei⟩
      · omega
      · have : q = k := by omega
        subst this
        rw [he'] at he
        injection he with he
        subst he
        exact .inr hei
  · have h1 := h.keep q hq hno
    rw [← h1]
    refine hkeep q (Nat.lt_of_lt_of_le hq h.size) (fun b r y hb hy e => ?_) fun p' f y hf hlf hdf hy e => ?_
    · obtain ⟨d, p, j, hd, hj, ej⟩ := h.old b r y hb hy (by omega)
      exact hno d p j hd hj (by omega)
    · obtain ⟨z, hz, _, hbz, _⟩ := h.lit p' f hf hlf hdf
      rw [hy] at hz
      injection hz with hz
      subst hz
      omega
  · obtain ⟨d, p, j, hd, hj, ej⟩ := hold b r y hb hy (Nat.lt_of_lt_of_le hlt' h.size)
    obtain ⟨d', p', j', hd', hj', ej'⟩ := h.old d p j hd hj (by omega)
    exact ⟨d', p', j', hd', hj', by omega⟩
  · rcases hdom b y hb with h1 | h1 | ⟨p, e, hp, he, hei, hbe⟩
    · rcases h.dom b y h1 with h2 | h2
      · exact .inl h2
      · exact .inr h2
    · exact .inr ⟨by omega, by omega⟩
    · obtain ⟨hst, _⟩ := hF.chain p e he
      have h1 : s.n ≤ e.s.n := st_mono hcf hF (by omega) h.st hst
      have h2 : e.t.n ≤ N := st_le hcf hF (by have := (List.getElem?_eq_some_iff.1 he).1; omega) (st_next hF he)
      exact .inr ⟨by omega, by omega⟩
  · rcases hdom b y h3 with h4 | h4 | ⟨p, e, hp, he, hei, hbe⟩
    · obtain ⟨p, e, hp, he, hd, hb⟩ := h.free b y (by omega) h2 h4
      refine ⟨p, e, ?_, he, (dn_set hi).2 (.inl hd), hb⟩
      rcases hk with hk | ⟨hk, e', he', hei⟩
      · omega
      · rcases Nat.eq_or_lt_of_le hp with e2 | e2
        · subst e2
          rw [he'] at he
          injection he with he
          subst he
          rw [hei] at hd
          exact absurd hd hnd
        · omega
    · omega
    · exact ⟨p, e, hp, he, (dn_set hi).2 (.inr hei), hbe⟩
  · rcases (dn_set hi).1 hd with hd | hd
    · refine ⟨(h.pend p e (by omega) he hnl hd).1, fun b q h1 h2 h3 => ?_⟩
      obtain ⟨j, hj, hor, hbl, _, hsep⟩ := pold p e hp he hnl hd b q h1 h2 h3
      exact ⟨j, hle _ _ hj, hor, hbl, hsep⟩
    · obtain ⟨h1, h2, _⟩ := hnew p e hp he hnl hd
      refine ⟨h1, fun b q h3 h4 h5 => ?_⟩
      obtain ⟨j, hj, hor, hbl, hsep⟩ := h2 b q h3 h4 h5
      exact ⟨j, hj, hor, Nat.le_trans h.size hbl, hsep⟩
  · rcases (dn_set hi).1 hde with h1 | h1 <;> rcases (dn_set hi).1 hdf with h2 | h2
    · obtain ⟨j, hj, _, _, _, _⟩ := pold p e hp he hne h1 b o' hb1 hb2 hb3
      obtain ⟨j', hj', _, _, _, _⟩ := pold q f hq hf hnf h2 d r hd1 hd2 hd3
      have e1 := hle _ _ hj
      have e2 := hle _ _ hj'
      rw [hy] at e1
      rw [hz] at e2
      injection e1 with e1
      injection e2 with e2
      subst e1; subst e2
      exact h.apart p q e f b d o' r _ _ (by omega) (by omega) hpq he hf hne hnf h1 h2 hb1 hb2 hb3 hd1 hd2 hd3 hj hj'
    · obtain ⟨j, hj, _, _, hjl, _⟩ := pold p e hp he hne h1 b o' hb1 hb2 hb3
      obtain ⟨j', hj', _, hbl', _⟩ := (hnew q f hq hf hnf h2).2.1 d r hd1 hd2 hd3
      have e1 := hle _ _ hj
      rw [hy] at e1
      rw [hz] at hj'
      injection e1 with e1
      injection hj' with hj'
      subst e1; subst hj'
      omega
    · obtain ⟨j, hj, _, hbl, _⟩ := (hnew p e hp he hne h1).2.1 b o' hb1 hb2 hb3
      obtain ⟨j', hj', _, _, hjl', _⟩ := pold q f hq hf hnf h2 d r hd1 hd2 hd3
      have e2 := hle _ _ hj'
      rw [hz] at e2
      rw [hy] at hj
      injection e2 with e2
      injection hj with hj
      subst e2; subst hj
      omega
    · have hpq' : p = q := ent_inj hF he hf (by omega)
      subst hpq'
      rw [he] at hf
      injection hf with hf
      subst hf
      rcases hpq with h3 | h3
      · exact absurd rfl h3
      · exact (hnew p e hp he hne h1).2.2 b d o' r y z h3 hb1 hb2 hb3 hd1 hd2 hd3 hy hz
  · rcases (dn_set hi).1 hdj with h1 | h1
    · have hjlt : j < c.all.size := (Array.getElem?_eq_some_iff.1 hoj).1
      obtain ⟨_, _, _, _, hwj, _⟩ := Reg.opOk_spec (hF.ok j hjlt) hoj
      have hne : o.dst ≠ some t := fun e => by
        have e1 := hwr t e
        have e2 := hwj t ht
        rw [e1] at e2
        injection e2 with e2
        subst e2
        exact hnd h1
      rw [tm t hne]
      exact (h.reg j oj vj t hoj hvj h1 ht).mono hle _ _
    · subst h1
      rw [ho] at hoj
      injection hoj with hoj
      subst hoj
      rw [hv] at hvj
      injection hvj with hvj
      subst hvj
      have hlt2 : t < a.tmps.size := by
        rw [ht] at hdst
        have : t < nt := Nat.le_of_ble_eq_true hdst
        have := h.tsize
        omega
      rw [ht]
      simpa [Act.put, hlt2] using hx
  · have hne : o.dst ≠ some t := ht i o ho ((dn_set hi).2 (.inr rfl))
    rw [tm t hne]
    obtain ⟨h1, h2⟩ := h.reg0 t fun j oj hoj hdj => ht j oj hoj ((dn_set hi).2 (.inl hdj))
    exact ⟨fun v hv => (h1 v hv).mono hle _ _, h2⟩
  · rw [put_defers]; exact h.defers
  · rw [put_size]; exact h.tsize
end
end Go.Proofs.YtgfbjbdfckgdjaaGreatDoor.Ev

namespace Go.Proofs.YtgfbjbdfckgdjaaGreatDoor.Ev
open Go.RowKit

theorem count_set {l : List Bool} {i : Nat} (h : l[i]? = some false) : ((l.set i true).filter (! ·)).length + 1 = (l.filter (! ·)).length := by
  induction l generalizing i with
  | nil => simp at h
  | cons b l ih =>
    cases i with
    | zero =>
      simp only [List.getElem?_cons_zero, Option.some.injEq] at h
      subst h
      simp
    | succ i =>
      simp only [List.getElem?_cons_succ] at h
      have := ih h
      cases b <;> simp [List.set_cons_succ] <;> omega

/-- A region that draws its order: one invariant for whatever has been carried out. -/
theorem wpAny_inv {F : Fence} {n : Nat} {P : Program} {ops : Array Oper} {Q : Exit → Act → World → Prop} (St : Array Bool → Act → World → Prop)
    (hstep : ∀ L a w i o, St L a w → ops[i]? = some o → L.getD i true = false → (∀ e ∈ o.after, Region.binds .any e = true → dn L e.on) →
      wpOpIn F n P ops Q i (fun a' w' => St (L.setIfInBounds i true) a' w') a w)
    (hend : ∀ L a w, St L a w → Region.ready .any ops L = [] → Q .normal a w) :
    ∀ (fuel : Nat) (L : Array Bool) (a : Act) (w : World), St L a w → (L.toList.filter (! ·)).length ≤ fuel → wpAnyIn F n P .any ops Q fuel L a w := by
  intro fuel
  induction fuel with
  | zero =>
    intro L a w hs hc
    have hr : Region.ready .any ops L = [] := by
      cases hr : Region.ready .any ops L with
      | nil => rfl
      | cons j js =>
        exfalso
        have hj : j ∈ Region.ready .any ops L := by rw [hr]; exact List.mem_cons_self
        have h0 := (mem_ready.1 hj).1
        have hx : L.toList[j]? = some false := by
          rcases Nat.lt_or_ge j L.size with h' | h'
          · simp [h'] at h0 ⊢; exact h0
          · simp [Array.getElem?_eq_none h'] at h0
        have := count_set hx
        omega
    exact ⟨hr, hend _ _ _ hs hr⟩
  | succ fuel ih =>
    intro L a w hs hc
    refine ⟨fun hr => hend _ _ _ hs hr, fun i hi => ?_⟩
    obtain ⟨h0, o, ho, hd⟩ := mem_ready.1 hi
    refine wpOpIn_mono (fun a' w' hs' => ih _ a' w' hs' ?_) (hstep _ _ _ _ _ hs ho h0 hd)
    have hx : L.toList[i]? = some false := by
      rcases Nat.lt_or_ge i L.size with h' | h'
      · simp [h'] at h0 ⊢; exact h0
      · simp [Array.getElem?_eq_none h'] at h0
    have := count_set hx
    rw [Array.toList_setIfInBounds]
    omega

theorem fin_rel {β : Ren} {tmps : Array Value} {t : Tmp} : ∀ {l : List Oper} {V : List AV} {r : Regs}, (∀ (j : Nat) (o : Oper) (v : AV), l[j]? = some o → V[j]? = some v → o.dst = some t → VR β v (tmps.getD t Go.undef)) → (∀ (j : Nat) (o : Oper), l[j]? = some o → ∃ v, V[j]? = some v) →
    ((∀ o ∈ l, o.dst ≠ some t) → (∀ v, T.get r t = some v → VR β v (tmps.getD t Go.undef)) ∧ (T.get r t = none → tmps.getD t Go.undef = Go.undef)) →
    (∀ v, T.get (fin l V r) t = some v → VR β v (tmps.getD t Go.undef)) ∧ (T.get (fin l V r) t = none → tmps.getD t Go.undef = Go.undef)
  | [], V, r, _, _, h3 => by simpa [fin] using h3 (by simp)
  | o :: l, [], r, _, h2, _ => by obtain ⟨v, hv⟩ := h2 0 o rfl; simp at hv
  | o :: l, v :: V, r, h1, h2, h3 => by
    simp only [fin]
    refine fin_rel (fun j o' v' ho hv hd => h1 (j + 1) o' v' (by simpa using ho) (by simpa using hv) hd) (fun j o' ho => by simpa using h2 (j + 1) o' (by simpa using ho)) fun hno => ?_
    by_cases hd : o.dst = some t
    · rw [hd]
      simp only [put, T.get_set, if_true]
      refine ⟨fun u hu => ?_, fun h => by cases h⟩
      injection hu with hu
      subst hu
      exact h1 0 o v rfl rfl hd
    · have hg : T.get (put r o.dst v) t = T.get r t := by
        cases hdd : o.dst with
        | none => rfl
        | some d =>
          have : t ≠ d := fun e => hd (by rw [hdd, e])
          simp only [put, T.get_set, this, if_false]
      rw [hg]
      exact h3 fun o' ho' => by
        rcases List.mem_cons.1 ho' with rfl | ho'
        · exact hd
        · exact hno o' ho'

theorem lastS_get : ∀ (s : S) (E : List Ent), (match E.length with | 0 => some s | k + 1 => (E[k]?).map (·.t)) = some (lastS s E)
  | s, [] => rfl
  | s, e :: l => by
    have ih := lastS_get e.t l
    simp only [List.length_cons, lastS]
    cases hl : l.length with
    | zero =>
      rw [hl] at ih
      simpa using ih
    | succ k =>
      rw [hl] at ih
      simpa using ih

section
variable {P : Program} {g : G} {cf : CF} {nt : Nat} {c : Reg} {N : Nat} {β0 : Ren} {w0 : World} {act0 : Act}

theorem st_eq (c : Reg) (k : Nat) : c.st k = (match k with | 0 => some c.s0 | k + 1 => (c.E[k]?).map (·.t)) := by
  cases k with
  | zero => rfl
  | succ k =>
    simp only [Reg.st]
    cases c.E[k]? <;> rfl

theorem look_rel (hF : Facts P g cf nt c N) {L : Array Bool} {k : Nat} {s : S} {β : Ren} {a : Act} {w : World} (h : Inv g c N β0 w0 act0 L k s β a w) (hc : Clsd c.all L) {i : Nat} (hi : ¬ dn L i)
    (hr : ∀ o e, c.all[i]? = some o → e ∈ o.after → Region.binds .any e = true → dn L e.on) {t : Tmp} {v : AV} (hl : c.look i t = some v) : VR β v (a.tmps.getD t Go.undef) := by
  have fromR0 : (∀ i o, c.all[i]? = some o → dn L i → o.dst ≠ some t) → (match T.get c.r0 t with | some v => some v | none => some undef) = some v → VR β v (a.tmps.getD t Go.undef) := by
    intro hno hv
    obtain ⟨h1, h2⟩ := h.reg0 t hno
    cases hg : T.get c.r0 t with
    | none =>
      rw [hg] at hv
      injection hv with hv
      subst hv
      rw [h2 hg]
      exact VR.undef
    | some u =>
      rw [hg] at hv
      injection hv with hv
      subst hv
      exact h1 u hg
  unfold Reg.look at hl
  split at hl
  · rename_i j hj
    obtain ⟨q, o', hq, ho', hd'⟩ := Reg.writer_some hj
    have hjq : j = q := by omega
    subst hjq
    have hoj : c.all[j]? = some o' := by simpa using ho'
    split at hl
    · rename_i ha
      exact h.reg j o' v t hoj hl ((hF.anc i j ha).ready hc hr) hd'
    · split at hl
      · rename_i ha
        have hnj : ¬ dn L j := fun hd => hi ((hF.anc j i ha).closed hc hd)
        refine fromR0 (fun i' o'' ho'' hd'' e => ?_) hl
        have hlt : i' < c.all.size := (Array.getElem?_eq_some_iff.1 ho'').1
        obtain ⟨_, _, _, _, hwr, _⟩ := Reg.opOk_spec (hF.ok i' hlt) ho''
        have := hwr t e
        rw [hj] at this
        injection this with this
        subst this
        exact hnj hd''
      · cases hl
  · rename_i hj
    exact fromR0 (fun i' o'' ho'' _ e => Reg.writer_none hj o'' (by
      have := Array.mem_of_getElem? ho''
      simpa using this) e) hl

theorem rvals_rel (hF : Facts P g cf nt c N) {L : Array Bool} {k : Nat} {s : S} {β : Ren} {a : Act} {w : World} (h : Inv g c N β0 w0 act0 L k s β a w) (hc : Clsd c.all L) {i : Nat} (hi : ¬ dn L i)
    (hr : ∀ o e, c.all[i]? = some o → e ∈ o.after → Region.binds .any e = true → dn L e.on) (hgl : GloOK g β) : ∀ {l : List Operand} {vs : List AV}, c.vals g i l = some vs → VRs β vs (l.map a.eval)
  | [], vs, hv => by simp only [Reg.vals, Option.some.injEq] at hv; subst hv; exact VRs.nil
  | x :: l, vs, hv => by
    simp only [Reg.vals] at hv
    split at hv
    · rename_i v vs' h1 h2
      injection hv with hv
      subst hv
      refine VRs.cons ?_ (rvals_rel hF h hc hi hr hgl h2)
      cases x with
      | tmp t => exact look_rel hF h hc hi hr h1
      | const v' => exact ofV_rel β v' v h1
      | global x =>
        simp only [Reg.val, Ev.val] at h1
        split at h1
        · rename_i b hb
          injection h1 with h1
          subst h1
          obtain ⟨i, hi, e⟩ := hgl x b hb
          exact ⟨i, hi, by rw [e.1, e.2]; rfl⟩
        · cases h1
      | func f =>
        simp only [Reg.val, Ev.val, Option.some.injEq] at h1
        subst h1
        exact ⟨[], [], VRs.nil, VRs.nil, rfl⟩
    · cases hv

theorem want_rel (hF : Facts P g cf nt c N) {L : Array Bool} {k : Nat} {s : S} {β : Ren} {a : Act} {w : World} (h : Inv g c N β0 w0 act0 L k s β a w) (hc : Clsd c.all L) {i : Nat}
    (hr : ∀ o e, c.all[i]? = some o → e ∈ o.after → Region.binds .any e = true → dn L e.on) {o : Oper} {b : Bool} (hw : c.want i o = some b) : Region.wanted o (Go.yielded c.all a.tmps) = b := by
  unfold Reg.want at hw
  unfold Region.wanted
  split at hw
  · rename_i hg
    injection hw with hw
    rw [hg]
    exact hw
  · rename_i j want hg
    rw [hg]
    dsimp only
    split at hw
    · rename_i oj hoj
      split at hw
      · rename_i d hd
        split at hw
        · rename_i ha
          have hlt : j < c.all.size := (Array.getElem?_eq_some_iff.1 hoj).1
          obtain ⟨v, hv, _⟩ := Reg.opOk_spec (hF.ok j hlt) hoj
          have hdj := (hF.anc i j ha).ready hc hr
          have hy := yielded_at (β := β) (tmps := a.tmps) (f := c.V[j]?) hoj hd (fun u hu => h.reg j oj u d hoj hu hdj hd) (fun hn => by rw [hv] at hn; cases hn)
          rw [hy]
          split at hw
          · rename_i b' hb
            injection hw with hw
            rw [hb]
            subst hw
            cases b' <;> cases want <;> rfl
          · rename_i hb
            injection hw with hw
            rw [hb]
            subst hw
            rfl
        · cases hw
      · rename_i hd
        injection hw with hw
        subst hw
        simp [Go.yielded, hoj, hd]
    · rename_i hoj
      injection hw with hw
      subst hw
      simp [Go.yielded, hoj]

theorem entry_kind {i : Nat} {o : Oper} (ho : c.all[i]? = some o) (h : litKind c.m i o.op ≠ 2) : c.entry g i = none := by
  unfold Reg.entry
  rw [ho]
  dsimp only
  split
  · rename_i h2; exact absurd h2 h
  · rfl

theorem entry_want {i : Nat} {o : Oper} (ho : c.all[i]? = some o) (h : c.want i o = some false) : c.entry g i = none := by
  unfold Reg.entry
  rw [ho]
  dsimp only
  split
  · rw [h]
  · rfl

theorem loose_kind {g : G} {m : Option Nat} {all : Array Oper} {A : List Nat} {i : Nat} {o : Oper} (ho : all[i]? = some o) (h : kindOp g o.op = 1) : loose g m all A i = false := by
  unfold loose
  rw [ho]
  dsimp only
  cases hop : o.op <;> rw [hop] at h <;> simp only [isCall, Bool.false_and]
  rename_i cc
  simp only [kindOp] at h
  split at h <;> cases h

/-- What lays an entry. -/
theorem entry_spec (hF : Facts P g cf nt c N) {j : Nat} {f : ME} (h : c.entry g j = some f) : ∃ o b kk x im, c.all[j]? = some o ∧ litKind c.m j o.op = 2 ∧ c.vals g j o.op.operands.toList = some [.map (some b), kk, x] ∧ f = ⟨kk, x, 0⟩ ∧ c.m = some im ∧ c.anc j im = true ∧ c.IsLit im := by
  unfold Reg.entry at h
  split at h
  · rename_i o ho
    split at h
    · rename_i hk
      split at h
      · rename_i hw
        split at h
        · rename_i m k v hvs
          injection h with h
          subst h
          have hlt : j < c.all.size := (Array.getElem?_eq_some_iff.1 ho).1
          obtain ⟨_, _, _, _, _, hcase⟩ := Reg.opOk_spec (hF.ok j hlt) ho
          rcases hcase with ⟨hw', _⟩ | ⟨_, vs, hvs', hcase⟩
          · rw [hw] at hw'; injection hw' with hw'; cases hw'
          · rw [hvs] at hvs'
            injection hvs' with hvs'
            subst hvs'
            rcases hcase with ⟨h1, _⟩ | ⟨_, _, _, b, kk, x, hb, hins⟩ | ⟨_, h1, _⟩
            · rw [hk] at h1; cases h1
            · injection hb with hb1 hb2
              injection hb2 with hb2 hb3
              injection hb3 with hb3 _
              subst hb1; subst hb2; subst hb3
              unfold Reg.insOk at hins
              split at hins
              · rename_i im kd him _
                simp only [Bool.and_eq_true] at hins
                obtain ⟨⟨⟨hl, ha⟩, _⟩, _⟩ := hins
                refine ⟨o, b, k, v, im, ho, hk, hvs, rfl, him, ha, ?_⟩
                unfold Reg.litAt at hl
                split at hl
                · rename_i o' ho'
                  exact ⟨o', ho', Nat.eq_of_beq_eq_true hl⟩
                · cases hl
              · cases hins
            · exact absurd hk h1
        · cases h
      · cases h
    · cases h
  · cases h

/-- An operation that neither lays the map nor an entry. -/
theorem Inv.moveO (hcf : CS P g cf) (hF : Facts P g cf nt c N) (hnt : nt ≤ act0.tmps.size) {L : Array Bool} {k k' : Nat} {s s' : S} {β γ : Ren} {a : Act} {w w' : World} (h : Inv g c N β0 w0 act0 L k s β a w) {i : Nat} (hi : L.getD i true = false)
    {o : Oper} (ho : c.all[i]? = some o) {v : AV} (hv : c.V[i]? = some v) {x : Value} (hx : VR γ v x)
    (hk : k' = k ∨ (k' = k + 1 ∧ ∃ e, c.E[k]? = some e ∧ e.i = i)) (hk' : k' ≤ c.E.length) (hs' : c.st k' = some s') (hrel : Rel γ s' w') (hle : β.le γ) (hsz : w.heap.size ≤ w'.heap.size)
    (hkeep : ∀ q, q < w.heap.size → (∀ b o i, s.h.get b = some o → β b = some i → i.blk ≠ q) → w'.heap[q]? = w.heap[q]?)
    (hold : ∀ b o i, s'.h.get b = some o → γ b = some i → i.blk < w.heap.size → ∃ d p j, s.h.get d = some p ∧ β d = some j ∧ j.blk = i.blk)
    (hdom : ∀ b j, γ b = some j → β b = some j ∨ (s.n ≤ b ∧ b < s'.n) ∨ ∃ (p : Nat) (e : Ent), k' ≤ p ∧ c.E[p]? = some e ∧ e.i = i ∧ e.s.n ≤ b ∧ b < e.t.n)
    (hnew : ∀ (p : Nat) (e : Ent), k' ≤ p → c.E[p]? = some e → e.i = i → (∀ b, ¬ (e.s.n ≤ b ∧ b < e.t.n) → e.t.h.get b = e.s.h.get b) ∧
      (∀ b q, e.s.n ≤ b → b < e.t.n → e.t.h.get b = some q → ∃ j, γ b = some j ∧ OR γ j w' q ∧ w.heap.size ≤ j.blk ∧ (∀ b' r y, s'.h.get b' = some r → γ b' = some y → y.blk ≠ j.blk)) ∧
      ∀ b d q r y z, b ≠ d → e.s.n ≤ b → b < e.t.n → e.t.h.get b = some q → e.s.n ≤ d → d < e.t.n → e.t.h.get d = some r → γ b = some y → γ d = some z → y.blk ≠ z.blk) (henv : Same w w')
    (hnl : ∀ (p : Nat) (e : Ent), c.E[p]? = some e → e.i = i → ¬ c.IsLit e.i) (hne : c.entry g i = none) :
    Inv g c N β0 w0 act0 (L.setIfInBounds i true) k' s' γ (a.put o.dst x) w' := by
  have hkk : k ≤ k' := by omega
  refine h.move hcf hF hnt hi ho hv hx hk hk' hs' hrel hle hsz (fun q h1 h2 _ => hkeep q h1 h2) hold hdom (fun p e hp he _ hei => hnew p e hp he hei) henv fun p e he hl hd => ?_
  rcases (dn_set hi).1 hd with hd | hd
  · obtain ⟨y, hy, ⟨ms, ck, js, es, hm, hxt, hnd, hjs, hkv, her⟩, hby, hl1, hl2⟩ := h.lit p e he hl hd
    have hylt : y.blk < w.heap.size := (Array.getElem?_eq_some_iff.1 hm).1
    refine ⟨y, hle _ _ hy, ⟨ms, ck, js, es, ?_, hxt, hnd, fun j => ?_, hkv, her.mono hle⟩, hby, fun b q z hb hz ez => ?_, fun q f b' r' z hq hf hnf hdf hb1 hb2 hb3 hz ez => ?_⟩
    · rw [hkeep _ hylt (fun b o z hb hz => hl1 b o z hb hz)]
      exact hm
    · rw [hjs, dn_set hi]
      constructor
      · rintro ⟨h1, h2⟩
        exact ⟨.inl h1, h2⟩
      · rintro ⟨h1 | h1, f, h2⟩
        · exact ⟨h1, f, h2⟩
        · subst h1
          rw [hne] at h2
          cases h2
    · obtain ⟨d, p', z', hd', hz', ez'⟩ := hold b q z hb hz (by omega)
      exact hl1 d p' z' hd' hz' (ez'.trans ez)
    · rcases (dn_set hi).1 hdf with hdf | hdf
      · obtain ⟨z', hz', _⟩ := (h.pend q f (by omega) hf hnf hdf).2 b' r' hb1 hb2 hb3
        have := hle _ _ hz'
        rw [hz] at this
        injection this with this
        subst this
        exact hl2 q f b' r' z (by omega) hf hnf hdf hb1 hb2 hb3 hz' ez
      · obtain ⟨z', hz', _, hbz, _⟩ := (hnew q f hq hf hdf).2.1 b' r' hb1 hb2 hb3
        rw [hz] at hz'
        injection hz' with hz'
        subst hz'
        omega
  · exact absurd hl (hnl p e he hd)

theorem mk_shape {i : Nat} {o : Op} (h : litKind c.m i o = 1) : ∃ t, o = .makeMap t none := by
  unfold litKind at h
  split at h
  · exact ⟨_, rfl⟩
  · split at h <;> cases h
  · cases h

theorem ins_shape {i : Nat} {o : Op} (h : litKind c.m i o = 2) : ∃ t m k v, o = .insert t m k v := by
  unfold litKind at h
  split at h
  · split at h
    · split at h <;> cases h
    · cases h
  · exact ⟨_, _, _, _, rfl⟩
  · cases h

theorem keyKind_spec {t : TypeId} {m k v : Operand} {kd : TypeDesc} (h : Reg.keyKind g (.insert t m k v) = some kd) : ∃ kt e, g.und t = some (.map kt e) ∧ g.und kt = some kd ∧ plainKind kd = true := by
  unfold Reg.keyKind at h
  dsimp only at h
  split at h
  · rename_i kt e hu
    split at h
    · rename_i kd' hk
      split at h
      · rename_i hp
        injection h with h
        subst h
        exact ⟨kt, e, hu, hk, hp⟩
      · cases h
    · cases h
  · cases h

theorem findNow_none {kd : TypeDesc} {k : AV} : ∀ {es : List ME} {i : Nat}, (∀ e ∈ es, sameNow kd k e.key = some false) → findNow kd k es i = some none
  | [], _, _ => rfl
  | e :: es, i, h => by
    simp only [findNow, h e List.mem_cons_self]
    exact findNow_none fun f hf => h f (List.mem_cons_of_mem _ hf)

theorem filterMap_filter_some {α β : Type} (F : α → Option β) : ∀ l : List α, (l.filter fun a => (F a).isSome).filterMap F = l.filterMap F
  | [] => rfl
  | a :: l => by
    cases h : F a with
    | none => simp [List.filter_cons, h, filterMap_filter_some F l]
    | some b => simp [List.filter_cons, h, filterMap_filter_some F l]

theorem lits_perm {g : G} {c : Reg} {js : List Nat} {es : List ME} (hnd : js.Nodup) (hjs : ∀ j, j ∈ js ↔ ∃ f, c.entry g j = some f) (hlt : ∀ j f, c.entry g j = some f → j < c.all.size)
    (hkv : (es.map fun e => (e.key, e.val)) = js.filterMap (fun j => (c.entry g j).map fun e => (e.key, e.val))) : (es.map fun e => (e.key, e.val)).Perm ((c.lits g).map fun e => (e.key, e.val)) := by
  have h1 : ((c.lits g).map fun e => (e.key, e.val)) = (List.range c.all.size).filterMap (fun j => (c.entry g j).map fun e => (e.key, e.val)) := by
    unfold Reg.lits
    rw [List.map_filterMap]
  rw [h1, hkv, ← filterMap_filter_some _ (List.range c.all.size)]
  refine List.Perm.filterMap _ ?_
  rw [List.perm_ext_iff_of_nodup hnd (List.nodup_range.sublist List.filter_sublist)]
  intro j
  rw [hjs, List.mem_filter, List.mem_range, Option.isSome_map]
  constructor
  · rintro ⟨f, hf⟩
    exact ⟨hlt j f hf, by rw [hf]; rfl⟩
  · rintro ⟨_, h⟩
    exact Option.isSome_iff_exists.1 h

theorem drawn_sound (hg : GOK P g) (hcf : CS P g cf) {all : Array Oper} {a a1 : A} (h : drawn g cf nt all a = some a1) : a.s.n ≤ a1.s.n ∧ ∀ {ro : Option Nat} {n : Nat} {β : Ren} {w : World} {act : Act},
    RR β a.r act.tmps → Rel β a.s w → GloOK g β → Free β a.s a1.s → DR β a.d act.defers → nt ≤ act.tmps.size → ∀ {Q : Exit → Act → World → Prop},
    (∀ γ w' act', RR γ a1.r act'.tmps → Rel γ a1.s w' → Step β a.s w γ a1.s w' → DR γ a1.d act'.defers → act'.tmps.size = act.tmps.size → Q .normal act' w') →
    wpAnyIn (Wd ro) n P .any all Q all.size (Array.replicate all.size false) act w := by
  unfold drawn at h
  generalize litOf all.toList = m at h
  unfold drawnM at h
  split at h
  · cases h
  · rename_i W E hp
    generalize hV : ((List.range all.size).map fun i => match W.get i with | some v => v | none => undef) = V at h
    unfold drawn2 at h
    split at h
    · rename_i hok
      generalize hcc : (⟨m, all, ancs all.toList [], a.r, a.s, V, E⟩ : Reg) = c at hok h
      split at h
      rotate_left
      · cases h
      rename_i s2 hadd
      injection h with h
      subst h
      have e7 : c.m = m := by rw [← hcc]
      have e1 : c.all = all := by rw [← hcc]
      have e2 : c.E = E := by rw [← hcc]
      have e3 : c.V = V := by rw [← hcc]
      have e4 : c.s0 = a.s := by rw [← hcc]
      have e5 : c.r0 = a.r := by rw [← hcc]
      have e6 : c.A = ancs all.toList [] := by rw [← hcc]
      have hlast : c.st c.E.length = some (lastS a.s E) := by
        rw [st_eq, e2, e4]
        exact lastS_get a.s E
      have hF : Facts P g cf nt c (lastS a.s E).n := by
        unfold Reg.ok at hok
        simp only [Bool.and_eq_true] at hok
        refine ⟨fun i hi => List.all_eq_true.1 hok.2 i (List.mem_range.2 hi), hok.1.1, fun p e he => Nat.le_of_ble_eq_true (List.all_eq_true.1 hok.1.2 e (List.mem_of_getElem? he)), fun p e he => ?_, fun i j ha => ?_, ⟨_, hlast, rfl⟩⟩
        · have hch := pass_chain hp
          rw [st_eq, e4, e1, e7, e6]
          rw [e2] at he ⊢
          exact chain_at hch he
        · unfold Reg.anc at ha
          rw [e6] at ha
          rw [e1]
          exact ancs_spec all.toList [] (by simp) (fun i j h => by simp at h) i j ha
      have hn2 : s2.n = (lastS a.s E).n := by
        unfold addLit at hadd
        split at hadd
        · injection hadd with hadd; rw [hadd]
        · split at hadd
          · split at hadd
            · injection hadd with hadd; rw [← hadd]
            · cases hadd
          · cases hadd
      dsimp only
      rw [hn2]
      refine ⟨st_mono hcf hF (Nat.zero_le _) (show c.st 0 = some a.s by rw [← e4]; rfl) hlast, fun {ro n β w act} hr hs hgl hf hdr hnt Q hQ => ?_⟩
      have hf : Free β a.s (lastS a.s E) := fun b h1 h2 => hf b h1 (by rw [hn2]; exact h2)
      subst e1
      refine wpAny_inv (fun L a' w' => L.size = c.all.size ∧ Clsd c.all L ∧ ∃ k s γ, Inv g c (lastS a.s E).n β w act L k s γ a' w' ∧ ∀ e, c.E[k]? = some e → ¬ dn L e.i) ?_ ?_ _ _ _ _ ?_ (by simp)
      · -- a step
        rintro L a' w' i o ⟨hsz, hcl, k, s, γ, hI, hmax⟩ ho hi hrd
        have hlt : i < c.all.size := (Array.getElem?_eq_some_iff.1 ho).1
        have hnd := not_dn hi
        have hr' : ∀ o e, c.all[i]? = some o → e ∈ o.after → Region.binds .any e = true → dn L e.on := by
          intro o' e ho' he hb
          rw [ho] at ho'
          injection ho' with ho'
          subst ho'
          exact hrd e he hb
        have hcl' : Clsd c.all (L.setIfInBounds i true) := by
          intro j oj hoj hd e he hb
          rw [dn_set hi] at hd ⊢
          rcases hd with hd | rfl
          · exact .inl (hcl j oj hoj hd e he hb)
          · exact .inl (hr' oj e hoj he hb)
        have hgl' : GloOK g γ := hgl.mono hI.le
        -- any next state will do
        have done : ∀ {a2 : Act} {w2 : World} {k2 : Nat} {s2 : S} {δ : Ren}, Inv g c (lastS a.s E).n β w act (L.setIfInBounds i true) k2 s2 δ a2 w2 →
            (L.setIfInBounds i true).size = c.all.size ∧ Clsd c.all (L.setIfInBounds i true) ∧ ∃ k s γ, Inv g c (lastS a.s E).n β w act (L.setIfInBounds i true) k s γ a2 w2 ∧ ∀ e, c.E[k]? = some e → ¬ dn (L.setIfInBounds i true) e.i := by
          intro a2 w2 k2 s2 δ h2
          obtain ⟨k3, s3, h3, h4⟩ := Inv.advance hcf hF _ (Nat.le_refl _) h2
          exact ⟨by simp [hsz], hcl', k3, s3, δ, h3, h4⟩
        obtain ⟨v, hv, hdst, _, hwr, hcase⟩ := Reg.opOk_spec (hF.ok i hlt) ho
        unfold wpOpIn
        rw [ho]
        dsimp only
        rcases hcase with ⟨hw, hvu, hno⟩ | ⟨hw, vs, hvs, hkind⟩
        · -- not wanted
          rw [want_rel hF hI hcl hr' hw]
          simp only [Bool.false_eq_true, if_false]
          subst hvu
          refine ⟨fun _ _ => trivial, done (hI.moveO hcf hF hnt hi ho hv VR.undef (.inl rfl) hI.kle hI.st hI.rel (.refl γ) (Nat.le_refl _) (fun _ _ _ => rfl) (fun b o' j hb hj _ => ⟨b, o', j, hb, hj, rfl⟩) (fun b j hb => .inl hb) (fun p e _ he hei => absurd hei (Reg.notIn_spec hno e (List.mem_of_getElem? he))) (.refl w')
            (fun p e he hei => absurd hei (Reg.notIn_spec hno e (List.mem_of_getElem? he))) (entry_want ho hw))⟩
        · rw [want_rel hF hI hcl hr' hw]
          simp only [if_true]
          have hvr := rvals_rel hF hI hcl hnd hr' hgl' hvs
          -- a map or an object of its own, ahead of its turn or at it: what there is is known with another number
          have relN : ∀ {n0 : Nat}, s.n ≤ n0 → Rel γ { h := s.h, n := n0 } w' := fun hle0 => ⟨fun b q hb => by
            obtain ⟨h1, h2⟩ := hI.rel.obj b q hb
            exact ⟨Nat.lt_of_lt_of_le h1 hle0, h2⟩, hI.rel.inj⟩
          have freeAt : ∀ {p : Nat} {e : Ent} {x y : S}, c.E[p]? = some e → e.i = i → k ≤ p → x.n = e.s.n → y.n = e.t.n → Free γ x y := by
            intro p e x y hpE hei hkp hxn hyn b h1 h2
            have hpl : p < c.E.length := (List.getElem?_eq_some_iff.1 hpE).1
            obtain ⟨hstp, _⟩ := hF.chain p e hpE
            have hleN := st_le hcf hF (k := p + 1) hpl (st_next hF hpE)
            have hsn : s.n ≤ e.s.n := st_mono hcf hF hkp hI.st hstp
            rw [hxn] at h1
            rw [hyn] at h2
            cases hb : γ b with
            | none => rfl
            | some j =>
              exfalso
              obtain ⟨p', e', hp', he', hd', hb1, hb2⟩ := hI.free b j (by omega) (by omega) hb
              rcases Nat.lt_trichotomy p p' with h3 | h3 | h3
              · have h4 := st_mono hcf hF (k := p + 1) (l := p') h3 (st_next hF hpE) (hF.chain p' e' he').1
                omega
              · subst h3
                rw [hpE] at he'
                injection he' with he'
                subst he'
                exact hnd (hei ▸ hd')
              · have h4 := st_mono hcf hF (k := p' + 1) (l := p) h3 (st_next hF he') hstp
                omega
          rcases hkind with ⟨hl1, ⟨e, heE, hei⟩, heff⟩ | ⟨hl2, hvu, hno, b, kk, xx, hvs3, hins⟩ | ⟨hl1, hl2, ⟨hk0, hno, hpl⟩ | ⟨q, hkq, ⟨e, heE, hei⟩, heff⟩⟩
          · -- the map
            obtain ⟨p, hpE⟩ := List.getElem?_of_mem heE
            obtain ⟨hvs1, hv1, _⟩ := Reg.effOk_spec heff hpE hei
            subst hvs1; subst hv1
            have hkp : k ≤ p := by
              rcases Nat.lt_or_ge p k with h1 | h1
              · exact absurd (hei ▸ hI.pre p e h1 hpE) hnd
              · exact h1
            have hlit : c.IsLit i := ⟨o, ho, hl1⟩
            obtain ⟨hstp, oe, hoe, hent⟩ := hF.chain p e hpE
            rw [hei, ho] at hoe
            injection hoe with hoe
            subst hoe
            obtain ⟨hve, hte⟩ : e.v = .map (some e.s.n) ∧ e.t = { h := e.s.h, n := e.s.n + 1 } := by
              rcases hent with ⟨_, h1, h2⟩ | ⟨h1, _⟩
              · exact ⟨h1, h2⟩
              · rw [hei] at h1; exact absurd hl1 h1
            obtain ⟨ty, hop⟩ := mk_shape hl1
            have hsn : s.n ≤ e.s.n := st_mono hcf hF hkp hI.st hstp
            have hfree : Free γ { h := s.h, n := e.s.n } (Ev.new { h := s.h, n := e.s.n } (.map [] 0)) := freeAt hpE hei hkp rfl (by rw [hte]; rfl)
            have hstA : stepE g cf { h := s.h, n := e.s.n } o.op e.vs = some (e.v, Ev.new { h := s.h, n := e.s.n } (.map [] 0)) := by
              rw [hve]
              unfold stepE
              rw [hop]
              simp only [exec]
            refine (stepE_sound hg hcf hstA hvr (relN hsn) hgl' hfree fun δ x w2 hx hrel hstep => ?_)
            have hnewget : (Ev.new { h := s.h, n := e.s.n } (.map [] 0)).h.get e.s.n = some (.map [] 0) := by
              unfold Ev.new
              dsimp only
              rw [T.get_set, if_pos rfl]
            have holdget : ∀ b q, s.h.get b = some q → (Ev.new { h := s.h, n := e.s.n } (.map [] 0)).h.get b = some q := by
              intro b q hb
              have hlt' := (hI.rel.obj b q hb).1
              unfold Ev.new
              dsimp only
              rw [T.get_set, if_neg (by omega)]
              exact hb
            obtain ⟨_, j, hj, hor⟩ := hrel.obj _ _ hnewget
            have hsep : ∀ b r y, s.h.get b = some r → δ b = some y → y.blk ≠ j.blk := by
              intro b r y hb hy exy
              have hlt' := (hI.rel.obj b r hb).1
              have := hrel.inj b e.s.n r _ y j (holdget b r hb) hnewget hy hj exy
              omega
            have hjblk : w'.heap.size ≤ j.blk := by
              rcases Nat.lt_or_ge j.blk w'.heap.size with h1 | h1
              · exfalso
                obtain ⟨d, r, y, hd, hy, ey⟩ := hstep.old _ _ _ hnewget hj h1
                exact hsep d r y hd (hstep.le _ _ hy) ey
              · exact h1
            obtain ⟨ms, hm, hml, hmx, _⟩ := hor
            have hms : ms = #[] := by
              have : ms.size = 0 := by simpa using hml.symm
              exact Array.eq_empty_of_size_eq_zero this
            subst hms
            refine done (hI.move (k' := k) (s' := s) hcf hF hnt hi ho hv hx (.inl rfl) hI.kle hI.st ⟨fun b r hb => ?_, fun b d r r' y z hb hd => hrel.inj b d r r' y z (holdget b r hb) (holdget d r' hd)⟩ hstep.le hstep.size (fun q h1 h2 _ => hstep.keep q h1 h2)
              (fun b r y hb hy hlt' => hstep.old b r y (holdget b r hb) hy hlt') (fun b y hb => ?_) (fun p' e' hp' he' hnl' hei' => absurd (hei' ▸ hlit) hnl') hstep.env fun p' e' he' hl' hd' => ?_)
            · exact ⟨(hI.rel.obj b r hb).1, (hrel.obj b r (holdget b r hb)).2⟩
            · rcases hstep.dom b y hb with h1 | h1
              · exact .inl h1
              · refine .inr (.inr ⟨p, e, hkp, hpE, hei, ?_⟩)
                rw [hte]
                exact h1
            · have hpp := ent_inj hF he' hpE ((islit_uniq hl' hlit).trans hei.symm)
              subst hpp
              rw [hpE] at he'
              injection he' with he'
              subst he'
              refine ⟨j, hj, ⟨#[], 0, [], [], hm, hmx, List.nodup_nil, fun j' => ?_, rfl, rfl, fun j' f hf => by simp at hf⟩, Nat.le_trans hI.size hjblk, hsep, fun q f b' r' y hq hf' hnf hdf hb1 hb2 hb3 hy ey => ?_⟩
              · constructor
                · intro h; cases h
                · rintro ⟨hd1, f, hf1⟩
                  exfalso
                  obtain ⟨oj, _, _, _, im, hoj, hkj, _, _, him, haj, hlim⟩ := entry_spec hF hf1
                  have hii : im = i := islit_uniq hlim hlit
                  subst hii
                  rcases (dn_set hi).1 hd1 with h1 | h1
                  · exact hnd ((hF.anc _ _ haj).closed hcl h1)
                  · subst h1
                    rw [ho] at hoj
                    injection hoj with hoj
                    subst hoj
                    rw [hl1] at hkj
                    cases hkj
              · rcases (dn_set hi).1 hdf with hdf | hdf
                · obtain ⟨z, hz, hoz, _⟩ := (hI.pend q f hq hf' hnf hdf).2 b' r' hb1 hb2 hb3
                  have := hstep.le _ _ hz
                  rw [hy] at this
                  injection this with this
                  subst this
                  have := hoz.lt
                  omega
                · exact hnf (hdf ▸ hlit)
          · -- an entry
            subst hvu; subst hvs3
            unfold Reg.insOk at hins
            split at hins
            rotate_left
            · cases hins
            rename_i im kd him hkd
            simp only [Bool.and_eq_true] at hins
            obtain ⟨⟨⟨hla, ha⟩, hEb⟩, hap⟩ := hins
            obtain ⟨e, heE, he2⟩ := List.any_eq_true.1 hEb
            simp only [Bool.and_eq_true] at he2
            have hei := Nat.eq_of_beq_eq_true he2.1
            have hlim : c.IsLit im := by
              unfold Reg.litAt at hla
              split at hla
              · rename_i o' ho'
                exact ⟨o', ho', Nat.eq_of_beq_eq_true hla⟩
              · cases hla
            obtain ⟨p, hpE⟩ := List.getElem?_of_mem heE
            have hpl : p < c.E.length := (List.getElem?_eq_some_iff.1 hpE).1
            obtain ⟨hstp, oe, hoe, hent⟩ := hF.chain p e hpE
            obtain ⟨hve, hte⟩ : e.v = .map (some e.s.n) ∧ e.t = { h := e.s.h, n := e.s.n + 1 } := by
              rcases hent with ⟨_, h1, h2⟩ | ⟨h1, _⟩
              · exact ⟨h1, h2⟩
              · obtain ⟨o', ho', h2⟩ := hlim
                rw [hei, ho'] at hoe
                injection hoe with hoe
                subst hoe
                rw [hei] at h1
                exact absurd h2 h1
            have hbe : b = e.s.n := by
              have := he2.2
              rw [hve] at this
              exact Nat.eq_of_beq_eq_true this
            subst hbe
            have hdim : dn L e.i := by rw [hei]; exact (hF.anc _ _ ha).ready hcl hr'
            have hbN : e.s.n < (lastS a.s E).n := by
              have := st_le hcf hF (k := p + 1) hpl (st_next hF hpE)
              rw [hte] at this
              exact this
            obtain ⟨x, hx, ⟨ms, ck, js, es, hm, hxt, hjnd, hjs, hkv, her⟩, hbx, hlv, hlp⟩ := hI.lit p e hpE (hei ▸ hlim) hdim
            have hnone : s.h.get e.s.n = none := by
              cases hg0 : s.h.get e.s.n with
              | none => rfl
              | some q => exact absurd rfl (hlv _ q x hg0 hx)
            obtain ⟨t, om, ok, ov, hop⟩ := ins_shape hl2
            obtain ⟨kt, et, hut, huk, hpk⟩ := keyKind_spec (by rw [← hop]; exact hkd)
            have hentry : c.entry g i = some ⟨kk, xx, 0⟩ := by
              unfold Reg.entry
              rw [ho]
              simp only [hl2, hw, hvs]
            have hfind : findNow kd kk es 0 = some none := by
              refine findNow_none fun f hf => ?_
              have hmem : (f.key, f.val) ∈ es.map fun e => (e.key, e.val) := List.mem_map.2 ⟨f, hf, rfl⟩
              rw [hkv] at hmem
              obtain ⟨j, hj, hfj⟩ := List.mem_filterMap.1 hmem
              obtain ⟨hdj, f', hf'⟩ := (hjs j).1 hj
              rw [hf'] at hfj
              simp only [Option.map_some, Option.some.injEq, Prod.mk.injEq] at hfj
              have hji : j ≠ i := fun e => hnd (e ▸ hdj)
              obtain ⟨oj, _, _, _, _, hoj, _⟩ := entry_spec hF hf'
              have := List.all_eq_true.1 hap j (List.mem_range.2 (Array.getElem?_eq_some_iff.1 hoj).1)
              have hne : Nat.beq j i = false := by
                cases hb : Nat.beq j i with
                | false => rfl
                | true => exact absurd (Nat.eq_of_beq_eq_true hb) hji
              rw [hne, hf'] at this
              simp only [Bool.false_or] at this
              split at this
              · rename_i hs'
                rw [← hfj.1]
                exact hs'
              · cases this
            generalize hS : ({ h := s.h.set e.s.n (some (.map es ck)), n := (lastS a.s E).n } : S) = S1
            have hget : ∀ b', S1.h.get b' = if b' = e.s.n then some (.map es ck) else s.h.get b' := by
              intro b'
              rw [← hS]
              exact T.get_set ..
            have hrel1 : Rel γ S1 w' := by
              refine ⟨fun b' q hb => ?_, fun b' d q q' y z hb hd hy hz eyz => ?_⟩
              · rw [hget] at hb
                split at hb
                · rename_i e1
                  subst e1
                  injection hb with hb
                  subst hb
                  exact ⟨by rw [← hS]; exact hbN, x, hx, ms, hm, by simpa using her.1, hxt, fun j f hf => by simpa using her.2 j f hf⟩
                · obtain ⟨h1, h2⟩ := hI.rel.obj b' q hb
                  exact ⟨by rw [← hS]; exact Nat.lt_of_lt_of_le h1 (st_le hcf hF hI.kle hI.st), h2⟩
              · rw [hget] at hb hd
                split at hb
                · rename_i e1
                  subst e1
                  split at hd
                  · rename_i e2; exact e2.symm
                  · rw [hx] at hy
                    injection hy with hy
                    subst hy
                    exact absurd eyz.symm (hlv _ _ _ hd hz)
                · split at hd
                  · rename_i e2
                    subst e2
                    rw [hx] at hz
                    injection hz with hz
                    subst hz
                    exact absurd eyz (hlv _ _ _ hb hy)
                  · exact hI.rel.inj b' d q q' y z hb hd hy hz eyz
            have hstA : stepE g cf S1 o.op [.map (some e.s.n), kk, xx] = some (undef, { h := S1.h.set e.s.n (some (.map (es ++ [⟨kk, xx, ck⟩]) (ck + 1))), n := S1.n }) := by
              unfold stepE
              rw [hop]
              simp only [exec, exMapUpdate, hut, huk, hpk, hget, if_pos, hfind]
            generalize hT : ({ h := S1.h.set e.s.n (some (.map (es ++ [⟨kk, xx, ck⟩]) (ck + 1))), n := S1.n } : S) = T1 at hstA
            have hgetT : ∀ b', T1.h.get b' = if b' = e.s.n then some (.map (es ++ [⟨kk, xx, ck⟩]) (ck + 1)) else s.h.get b' := by
              intro b'
              rw [← hT]
              dsimp only
              rw [T.get_set]
              split
              · rfl
              · rename_i e1; rw [hget, if_neg e1]
            have hTn : T1.n = S1.n := by rw [← hT]
            refine (stepE_sound hg hcf hstA hvr hrel1 hgl' (fun b' h1 h2 => by omega) fun δ y w2 hy hrel hstep => ?_)
            have hxd : δ e.s.n = some x := hstep.le _ _ hx
            have live : ∀ b' q, s.h.get b' = some q → b' ≠ e.s.n ∧ T1.h.get b' = some q := by
              intro b' q hb
              have hne : b' ≠ e.s.n := fun e1 => by rw [e1, hnone] at hb; cases hb
              exact ⟨hne, by rw [hgetT, if_neg hne]; exact hb⟩
            have hTb : T1.h.get e.s.n = some (.map (es ++ [⟨kk, xx, ck⟩]) (ck + 1)) := by rw [hgetT, if_pos rfl]
            have sep : ∀ b' q z, s.h.get b' = some q → δ b' = some z → z.blk ≠ x.blk := by
              intro b' q z hb hz ez
              obtain ⟨h1, h2⟩ := live b' q hb
              exact h1 (hrel.inj b' e.s.n q _ z x h2 hTb hz hxd ez)
            refine done (hI.move (k' := k) (s' := s) hcf hF hnt hi ho hv hy (.inl rfl) hI.kle hI.st ⟨fun b' q hb => ?_, fun b' d q q' z z' hb hd => hrel.inj b' d q q' z z' (live b' q hb).2 (live d q' hd).2⟩ hstep.le hstep.size (fun q h1 h2 h3 => hstep.keep q h1 fun b' o' z hb hz => ?_)
              (fun b' q z hb hz hlt' => ?_) (fun b' z hz => ?_) (fun p' e' _ he' _ hei' => absurd hei' (Reg.notIn_spec hno e' (List.mem_of_getElem? he'))) hstep.env fun p' e' he' hl' hd' => ?_)
            · exact ⟨(hI.rel.obj b' q hb).1, (hrel.obj b' q (live b' q hb).2).2⟩
            · rw [hget] at hb
              split at hb
              · rename_i e1
                subst e1
                rw [hx] at hz
                injection hz with hz
                subst hz
                exact h3 p e x hpE (hei ▸ hlim) hdim hx
              · exact h2 b' o' z hb hz
            · obtain ⟨d, r, z', hd, hz', ez'⟩ := hstep.old b' q z (live b' q hb).2 hz hlt'
              rw [hget] at hd
              split at hd
              · rename_i e1
                subst e1
                rw [hx] at hz'
                injection hz' with hz'
                subst hz'
                exact absurd ez'.symm (sep b' q z hb hz)
              · exact ⟨d, r, z', hd, hz', ez'⟩
            · rcases hstep.dom b' z hz with h1 | h1
              · exact .inl h1
              · omega
            · have hpp := ent_inj hF he' hpE ((islit_uniq hl' hlim).trans hei.symm)
              subst hpp
              rw [hpE] at he'
              injection he' with he'
              subst he'
              obtain ⟨_, x', hx', ms', hm', hml', _, hpt'⟩ := hrel.obj _ _ hTb
              rw [hxd] at hx'
              injection hx' with hx'
              subst hx'
              refine ⟨x, hxd, ⟨ms', ck + 1, js ++ [i], es ++ [⟨kk, xx, ck⟩], hm', hxt, ?_, fun j => ?_, ?_, by simpa using hml', fun j f hf => by simpa using hpt' j f hf⟩, hbx, sep, fun q f b' r' z hq hf' hnf hdf hb1 hb2 hb3 hz ez => ?_⟩
              · rw [List.nodup_append]
                refine ⟨hjnd, by simp, fun j hj j' hj' => ?_⟩
                have : j' = i := by simpa using hj'
                subst this
                intro e1
                subst e1
                exact hnd ((hjs j).1 hj).1
              · rw [List.mem_append, hjs, dn_set hi]
                constructor
                · rintro (⟨h1, h2⟩ | h1)
                  · exact ⟨.inl h1, h2⟩
                  · have : j = i := by simpa using h1
                    subst this
                    exact ⟨.inr rfl, _, hentry⟩
                · rintro ⟨h1 | h1, h2⟩
                  · exact .inl ⟨h1, h2⟩
                  · exact .inr (by simp [h1])
              · rw [List.map_append, hkv, List.filterMap_append]
                simp [hentry]
              · rcases (dn_set hi).1 hdf with hdf | hdf
                · obtain ⟨z', hz', _⟩ := (hI.pend q f hq hf' hnf hdf).2 b' r' hb1 hb2 hb3
                  have := hstep.le _ _ hz'
                  rw [hz] at this
                  injection this with this
                  subst this
                  exact hlp q f b' r' z hq hf' hnf hdf hb1 hb2 hb3 hz' ez
                · exact absurd hdf (Reg.notIn_spec hno f (List.mem_of_getElem? hf'))
          · -- plain
            obtain ⟨t, hex⟩ := Reg.plainOk_spec hpl hI.kle (fun p e he ha ht => by
              rcases Nat.lt_or_ge p k with h1 | h1
              · exact h1
              · exfalso
                have hdp : dn L e.i := (hF.anc _ _ ha).ready hcl hr'
                have hkl : k < c.E.length := Nat.lt_of_le_of_lt h1 (List.getElem?_eq_some_iff.1 he).1
                have hek : c.E[k]? = some c.E[k] := List.getElem?_eq_getElem hkl
                rcases Nat.eq_or_lt_of_le h1 with h2 | h2
                · subst h2
                  rw [he] at hek
                  injection hek with hek
                  exact hmax e he hdp
                · exact hmax _ hek ((hF.anc _ _ (Reg.tight_spec ht he h2 hek)).closed hcl hdp)) (fun p e he ha => by
              rcases Nat.lt_or_ge p k with h1 | h1
              · exact absurd ((hF.anc _ _ ha).closed hcl (hI.pre p e h1 he)) hnd
              · exact h1) hI.st
            obtain ⟨v', hvt⟩ := plain_st hk0 hex
            injection hvt with hv1 hv2
            subst hv2
            have hst : stepE g cf t o.op vs = some (v, t) := by simp [stepE, hex]
            refine stepE_sound hg hcf hst hvr hI.rel hgl' (fun b h1 h2 => by omega) fun δ x w2 hx hrel hstep => done (hI.moveO hcf hF hnt hi ho hv hx (.inl rfl) hI.kle hI.st hrel hstep.le hstep.size hstep.keep hstep.old (fun b j hb => ?_) (fun p e _ he hei => ?_) hstep.env
              (fun p e he hei => absurd hei (Reg.notIn_spec hno e (List.mem_of_getElem? he))) (entry_kind ho hl2))
            · rcases hstep.dom b j hb with h1 | h1
              · exact .inl h1
              · omega
            · exact absurd hei (Reg.notIn_spec hno e (List.mem_of_getElem? he))
          · -- what changes the heap
            obtain ⟨p, hpE⟩ := List.getElem?_of_mem heE
            obtain ⟨hvs1, hv1, htight⟩ := Reg.effOk_spec heff hpE hei
            subst hvs1; subst hv1
            have hkp : k ≤ p := by
              rcases Nat.lt_or_ge p k with h1 | h1
              · exact absurd (hei ▸ hI.pre p e h1 hpE) hnd
              · exact h1
            have hpl : p < c.E.length := (List.getElem?_eq_some_iff.1 hpE).1
            obtain ⟨hstp, o', ho', hent⟩ := hF.chain p e hpE
            rw [hei, ho] at ho'
            injection ho' with ho'
            subst ho'
            rw [hei] at hent
            have hstR : stepR g cf (loose g c.m c.all c.A i) e.s o.op e.vs = some (e.v, e.t) := by
              rcases hent with ⟨h1, _⟩ | ⟨_, h1⟩
              · exact absurd h1 hl1
              · exact h1
            have hnlit : ∀ (p' : Nat) (e' : Ent), c.E[p']? = some e' → e'.i = i → ¬ c.IsLit e'.i := by
              rintro p' e' _ hei' ⟨o', ho', h1⟩
              rw [hei'] at ho' h1
              rw [ho] at ho'
              injection ho' with ho'
              subst ho'
              exact hl1 h1
            have before : ∀ (p : Nat) (e : Ent), c.E[p]? = some e → c.anc i e.i = true → c.tight p = true → p < k := fun p e he ha ht => by
              rcases Nat.lt_or_ge p k with h1 | h1
              · exact h1
              · exfalso
                have hdp : dn L e.i := (hF.anc _ _ ha).ready hcl hr'
                have hkl : k < c.E.length := Nat.lt_of_le_of_lt h1 (List.getElem?_eq_some_iff.1 he).1
                have hek : c.E[k]? = some c.E[k] := List.getElem?_eq_getElem hkl
                rcases Nat.eq_or_lt_of_le h1 with h2 | h2
                · subst h2
                  rw [he] at hek
                  injection hek with hek
                  exact hmax e he hdp
                · exact hmax _ hek ((hF.anc _ _ (Reg.tight_spec ht he h2 hek)).closed hcl hdp)
            have behind : ∀ (p : Nat) (e : Ent), c.E[p]? = some e → c.anc e.i i = true → k ≤ p := fun p e he ha => by
              rcases Nat.lt_or_ge p k with h1 | h1
              · exact absurd ((hF.anc _ _ ha).closed hcl (hI.pre p e h1 he)) hnd
              · exact h1
            cases hlo : loose g c.m c.all c.A i with
            | true =>
              -- a call that only makes objects
              rw [hlo] at hstR
              obtain ⟨t0, hst0, hsame, hfoot, htn, htget⟩ := float_spec hstR
              have hfok : c.floatOk i e = true := by
                rcases htight with h1 | ⟨_, h1⟩ | ⟨h1, _⟩
                · exact absurd hlo (by rw [loose_kind ho (by omega)]; simp)
                · exact h1
                · rw [hlo] at h1; cases h1
              have hsm := sameOn_spec (Reg.floatOk_spec hfok hI.kle before behind hI.st)
              have hsm0 := sameOn_spec hsame
              generalize hR : ({ h := restrict e.s (footOf e.s e.vs) .e, n := e.s.n } : S) = R at hst0
              have hRn : R.n = e.s.n := by rw [← hR]
              have hRget : ∀ b q, R.h.get b = some q → b ∈ footOf e.s e.vs ∧ s.h.get b = some q := by
                intro b q hb
                rw [← hR] at hb
                dsimp only at hb
                rw [restrict_get] at hb
                split at hb
                · rename_i hm
                  exact ⟨hm, by rw [hsm b hm]; exact hb⟩
                · simp [T.get] at hb
              have hgetR : ∀ b q, b ∈ footOf e.s e.vs → s.h.get b = some q → R.h.get b = some q ∧ t0.h.get b = some q := by
                intro b q hm hb
                refine ⟨?_, by rw [hsm0 b hm, ← hsm b hm]; exact hb⟩
                rw [← hR]
                dsimp only
                rw [restrict_get, if_pos hm, ← hsm b hm]
                exact hb
              have hrelR : Rel γ R w' := by
                refine ⟨fun b q hb => ?_, fun b d q p x y hb hd => hI.rel.inj b d q p x y (hRget b q hb).2 (hRget d p hd).2⟩
                obtain ⟨hm, hb'⟩ := hRget b q hb
                exact ⟨by rw [hRn]; exact hfoot b hm, (hI.rel.obj b q hb').2⟩
              have hnn : e.s.n ≤ e.t.n := by
                have := stepE_n hcf hst0
                omega
              refine (stepE_sound hg hcf hst0 hvr hrelR hgl' (freeAt hpE hei hkp hRn htn.symm) fun δ x w2 hx hrel hstep => ?_)
              have hback : ∀ b q j, s.h.get b = some q → δ b = some j → γ b = some j ∧ OR γ j w' q := by
                intro b q j hb hj
                obtain ⟨_, i0, hi0, hor0⟩ := hI.rel.obj b q hb
                have := hstep.le _ _ hi0
                rw [hj] at this
                injection this with this
                subst this
                exact ⟨hi0, hor0⟩
              have hrangeget : ∀ b, e.s.n ≤ b → b < e.t.n → e.t.h.get b = t0.h.get b := by
                intro b h1 h2
                rw [htget, if_pos ⟨h1, by omega⟩]
              refine done (hI.moveO (k' := k) (s' := s) hcf hF hnt hi ho hv hx (.inl rfl) hI.kle hI.st ⟨fun b q hb => ?_, fun b d q r y z hb hd hy hz => ?_⟩ hstep.le hstep.size
                (fun q h1 h2 => hstep.keep q h1 fun b o' j hb hj => h2 b o' j (hRget b o' hb).2 hj) (fun b q y hb hy _ => ⟨b, q, y, hb, (hback b q y hb hy).1, rfl⟩) (fun b y hb => ?_) (fun p' e' hp' he' hei' => ?_) hstep.env hnlit (entry_kind ho hl2))
              · obtain ⟨hlt', j, hj, hor⟩ := hI.rel.obj b q hb
                refine ⟨hlt', j, hstep.le _ _ hj, ?_⟩
                by_cases hm : b ∈ footOf e.s e.vs
                · obtain ⟨_, j', hj', hor'⟩ := hrel.obj b q (hgetR b q hm hb).2
                  have := hstep.le _ _ hj
                  rw [hj'] at this
                  injection this with this
                  subst this
                  exact hor'
                · refine (hor.keep (hstep.keep _ hor.lt fun b' o' j' hb' hj' ej => ?_)).mono hstep.le
                  obtain ⟨hm', hb''⟩ := hRget b' o' hb'
                  have := hI.rel.inj b' b o' q j' j hb'' hb hj' hj ej
                  subst this
                  exact hm hm'
              · exact hI.rel.inj b d q r y z hb hd (hback b q y hb hy).1 (hback d r z hd hz).1
              · rcases hstep.dom b y hb with h1 | h1
                · exact .inl h1
                · exact .inr (.inr ⟨p, e, hkp, hpE, hei, by omega, by omega⟩)
              · have := ent_inj hF he' hpE (by omega)
                subst this
                rw [hpE] at he'
                injection he' with he'
                subst he'
                refine ⟨fun b hb => ?_, fun b q h1 h2 h3 => ?_, fun b d q r y z hne h1 h2 h3 h4 h5 h6 hy hz ez => ?_⟩
                · rw [htget, if_neg (by omega)]
                · rw [hrangeget b h1 h2] at h3
                  obtain ⟨_, j, hj, hor⟩ := hrel.obj b q h3
                  have hjblk : w'.heap.size ≤ j.blk := by
                    rcases Nat.lt_or_ge j.blk w'.heap.size with h4 | h4
                    · exfalso
                      obtain ⟨d, r, y, hd, hy, ey⟩ := hstep.old _ _ _ h3 hj h4
                      obtain ⟨hm, hd'⟩ := hRget d r hd
                      have := hrel.inj d b r q y j (hgetR d r hm hd').2 h3 (hstep.le _ _ hy) hj ey
                      have := hfoot d hm
                      omega
                    · exact h4
                  refine ⟨j, hj, hor, hjblk, fun b' r y hb hy ey => ?_⟩
                  have := (hback b' r y hb hy).2.lt
                  omega
                · rw [hrangeget b h1 h2] at h3
                  rw [hrangeget d h4 h5] at h6
                  exact hne (hrel.inj b d q r y z h3 h6 hy hz ez)
            | false =>
            have hstE : stepE g cf e.s o.op e.vs = some (e.v, e.t) := by
              rw [hlo] at hstR
              exact hstR
            by_cases hkeq : k = p
            · -- its turn
              subst hkeq
              have hse : s = e.s := by
                have := hI.st
                rw [hstp] at this
                injection this with this
                exact this.symm
              subst hse
              have hfree : Free γ e.s e.t := by
                intro b h1 h2
                cases hb : γ b with
                | none => rfl
                | some j =>
                  exfalso
                  have hle := st_le hcf hF (k := k + 1) hpl (st_next hF hpE)
                  obtain ⟨p', e', hp', he', hd', hbe, _⟩ := hI.free b j h1 (Nat.lt_of_lt_of_le h2 hle) hb
                  rcases Nat.eq_or_lt_of_le hp' with h3 | h3
                  · subst h3
                    rw [hpE] at he'
                    injection he' with he'
                    subst he'
                    exact hnd (hei ▸ hd')
                  · have h4 := st_mono hcf hF (k := k + 1) (l := p') h3 (st_next hF hpE) (hF.chain p' e' he').1
                    omega
              refine (stepE_sound hg hcf hstE hvr hI.rel hgl' hfree fun δ x w2 hx hrel hstep => done (hI.moveO (k' := k + 1) hcf hF hnt hi ho hv hx (.inr ⟨rfl, e, hpE, hei⟩) hpl (st_next hF hpE) hrel hstep.le hstep.size hstep.keep hstep.old (fun b j hb => ?_) (fun p' e' hp' he' hei' => ?_) hstep.env hnlit (entry_kind ho hl2)))
              · rcases hstep.dom b j hb with h1 | h1
                · exact .inl h1
                · exact .inr (.inl h1)
              · have := ent_inj hF he' hpE (by omega)
                omega
            · -- a new object ahead of its turn
              have hq1 : q + 1 = 1 := by
                rcases htight with h1 | ⟨h1, _⟩ | ⟨_, h1⟩
                · exact h1
                · rw [hlo] at h1; cases h1
                · exfalso
                  have hkl : k < c.E.length := by omega
                  have hek : c.E[k]? = some c.E[k] := List.getElem?_eq_getElem hkl
                  have ha := hF.anc _ _ (Reg.tight_spec h1 hpE (by omega : k < p) hek)
                  rw [hei] at ha
                  exact hmax _ hek (ha.ready hcl hr')
              have hk1 : kindOp g o.op = 1 := by omega
              have hexE : ∃ r, exec g e.s o.op e.vs = some r ∧ ∃ (ob : AO) (mk : Nat → AV), r = .val (mk e.s.n) (Ev.new e.s ob) ∧ e.v = mk e.s.n ∧ e.t = Ev.new e.s ob ∧ ∀ s', exec g s' o.op e.vs = some (.val (mk s'.n) (Ev.new s' ob)) := by
                cases hx : exec g e.s o.op e.vs with
                | none => simp [stepE, hx] at hstE
                | some r =>
                  obtain ⟨ob, mk, hr1, hall⟩ := alloc_shape hk1 hx
                  refine ⟨r, rfl, ob, mk, hr1, ?_, ?_, hall⟩
                  · subst hr1
                    simp [stepE, hx] at hstE
                    exact hstE.1.symm
                  · subst hr1
                    simp [stepE, hx] at hstE
                    exact hstE.2.symm
              obtain ⟨_, _, ob, mk, _, hve, hte, hall⟩ := hexE
              have hsn : s.n ≤ e.s.n := st_mono hcf hF hkp hI.st hstp
              have hrel' : Rel γ { h := s.h, n := e.s.n } w' := relN hsn
              have hfree : Free γ { h := s.h, n := e.s.n } (Ev.new { h := s.h, n := e.s.n } ob) := freeAt hpE hei hkp rfl (by rw [hte]; rfl)
              have hstA : stepE g cf { h := s.h, n := e.s.n } o.op e.vs = some (e.v, Ev.new { h := s.h, n := e.s.n } ob) := by simp [stepE, hall, hve]
              refine (stepE_sound hg hcf hstA hvr hrel' hgl' hfree fun δ x w2 hx hrel hstep => ?_)
              have hnewget : (Ev.new { h := s.h, n := e.s.n } ob).h.get e.s.n = some ob := by
                unfold Ev.new
                dsimp only
                rw [T.get_set, if_pos rfl]
              have holdget : ∀ b q, s.h.get b = some q → (Ev.new { h := s.h, n := e.s.n } ob).h.get b = some q := by
                intro b q hb
                have hlt' := (hI.rel.obj b q hb).1
                unfold Ev.new
                dsimp only
                rw [T.get_set, if_neg (by omega)]
                exact hb
              obtain ⟨_, j, hj, hor⟩ := hrel.obj _ _ hnewget
              have hsep : ∀ b r y, s.h.get b = some r → δ b = some y → y.blk ≠ j.blk := by
                intro b r y hb hy exy
                have hlt' := (hI.rel.obj b r hb).1
                have := hrel.inj b e.s.n r ob y j (holdget b r hb) hnewget hy hj exy
                omega
              have hjblk : w'.heap.size ≤ j.blk := by
                rcases Nat.lt_or_ge j.blk w'.heap.size with h1 | h1
                · exfalso
                  obtain ⟨d, r, y, hd, hy, ey⟩ := hstep.old _ _ _ hnewget hj h1
                  exact hsep d r y hd (hstep.le _ _ hy) ey
                · exact h1
              refine done (hI.moveO (k' := k) (s' := s) hcf hF hnt hi ho hv hx (.inl rfl) hI.kle hI.st ⟨fun b r hb => ?_, fun b d r r' y z hb hd => hrel.inj b d r r' y z (holdget b r hb) (holdget d r' hd)⟩ hstep.le hstep.size hstep.keep
                (fun b r y hb hy hlt' => hstep.old b r y (holdget b r hb) hy hlt') (fun b y hb => ?_) (fun p' e' hp' he' hei' => ?_) hstep.env hnlit (entry_kind ho hl2))
              · exact ⟨(hI.rel.obj b r hb).1, (hrel.obj b r (holdget b r hb)).2⟩
              · rcases hstep.dom b y hb with h1 | h1
                · exact .inl h1
                · refine .inr (.inr ⟨p, e, hkp, hpE, hei, ?_⟩)
                  rw [hte]
                  exact h1
              · have := ent_inj hF he' hpE (by omega)
                subst this
                rw [hpE] at he'
                injection he' with he'
                subst he'
                have htn' : e.t.n = e.s.n + 1 := by rw [hte]; rfl
                have htg : ∀ b, e.t.h.get b = if b = e.s.n then some ob else e.s.h.get b := by
                  intro b
                  rw [hte]
                  exact T.get_set ..
                refine ⟨fun b hb => ?_, fun b q h1 h2 h3 => ?_, fun b d q r y z hne h1 h2 h3 h4 h5 h6 hy hz ez => ?_⟩
                · rw [htg, if_neg (by omega)]
                · have : b = e.s.n := by omega
                  subst this
                  rw [htg, if_pos rfl] at h3
                  injection h3 with h3
                  subst h3
                  exact ⟨j, hj, hor, hjblk, hsep⟩
                · omega
      · -- the end
        rintro L a' w' ⟨hsz, hcl, k, s, γ, hI, hmax⟩ hready
        have hall : ∀ n i, i < n → i < c.all.size → dn L i := by
          intro n
          induction n with
          | zero => intro i hi; omega
          | succ n ih =>
            intro i hi hlt
            rcases Nat.lt_or_ge i n with h1 | h1
            · exact ih i h1 hlt
            · have hin : i = n := by omega
              subst hin
              by_cases hd : dn L i
              · exact hd
              · exfalso
                have ho : c.all[i]? = some c.all[i] := by simp [hlt]
                obtain ⟨_, _, _, hedge, _⟩ := Reg.opOk_spec (hF.ok i hlt) ho
                have hmem : i ∈ Region.ready .any c.all L := mem_ready.2 ⟨by
                  have hlt' : i < L.size := by omega
                  unfold dn at hd
                  simp [hlt'] at hd ⊢
                  exact hd, _, ho, fun e he hb => ih e.on (hedge e he hb) (by have := hedge e he hb; omega)⟩
                rw [hready] at hmem
                cases hmem
        have hkE : k = c.E.length := by
          rcases Nat.eq_or_lt_of_le hI.kle with h1 | h1
          · exact h1
          · exfalso
            have hek : c.E[k]? = some c.E[k] := List.getElem?_eq_getElem h1
            exact hmax _ hek (hall _ _ (Nat.lt_succ_self _) (hF.bnd k _ hek))
        subst hkE
        have hss : s = lastS a.s E := by
          have := hI.st
          rw [hlast] at this
          injection this with this
          exact this.symm
        subst hss
        have hregs : RR γ (fin c.all.toList V a.r) a'.tmps := by
          intro t
          refine fin_rel (fun j o v ho hv hd => ?_) (fun j o ho => ?_) fun hno => ?_
          · have ho' : c.all[j]? = some o := by simpa using ho
            exact hI.reg j o v t ho' (by rw [e3]; exact hv) (hall _ _ (Nat.lt_succ_self _) (Array.getElem?_eq_some_iff.1 ho').1) hd
          · have ho' : c.all[j]? = some o := by simpa using ho
            obtain ⟨v, hv, _⟩ := Reg.opOk_spec (hF.ok j (Array.getElem?_eq_some_iff.1 ho').1) ho'
            exact ⟨v, by rw [← e3]; exact hv⟩
          · rw [← e5]
            exact hI.reg0 t fun i o ho _ => hno o (by have := Array.mem_of_getElem? ho; simpa using this)
        have hstep0 : Step β a.s w γ (lastS a.s E) w' := by
          refine ⟨hI.le, ?_, hI.size, fun q hq hno => hI.keep q hq fun b o i hb => hno b o i (by rw [← e4]; exact hb), fun b o i hb hi hlt => ?_, fun b i hb => ?_, hI.env⟩
          · exact st_mono hcf hF (Nat.zero_le _) (show c.st 0 = some a.s by rw [← e4]; rfl) hlast
          · obtain ⟨d, p, j, hd, hj, ej⟩ := hI.old b o i hb hi hlt
            exact ⟨d, p, j, by rw [← e4]; exact hd, hj, ej⟩
          · rcases hI.dom b i hb with h1 | h1
            · exact .inl h1
            · rw [e4] at h1
              exact .inr h1
        have hfinal : Rel γ s2 w' ∧ Step β a.s w γ s2 w' := by
          unfold addLit at hadd
          split at hadd
          · injection hadd with hadd
            rw [← hadd]
            exact ⟨hI.rel, hstep0⟩
          · rename_i im him
            split at hadd
            · rename_i hla
              split at hadd
              · rename_i e hfe
                injection hadd with hadd
                have hei : e.i = im := by
                  have h0 := List.find?_some hfe
                  exact Nat.eq_of_beq_eq_true h0
                obtain ⟨p, hpE⟩ := List.getElem?_of_mem (List.mem_of_find?_eq_some hfe)
                have hlim : c.IsLit im := by
                  unfold Reg.litAt at hla
                  split at hla
                  · rename_i o' ho'
                    exact ⟨o', ho', Nat.eq_of_beq_eq_true hla⟩
                  · cases hla
                have hpl : p < c.E.length := (List.getElem?_eq_some_iff.1 hpE).1
                have hbN : e.s.n < (lastS a.s E).n := by
                  obtain ⟨_, oe, hoe, hent⟩ := hF.chain p e hpE
                  have := st_le hcf hF (k := p + 1) hpl (st_next hF hpE)
                  rcases hent with ⟨_, _, h2⟩ | ⟨h1, _⟩
                  · rw [h2] at this; exact this
                  · obtain ⟨o', ho', h2⟩ := hlim
                    rw [hei, ho'] at hoe
                    injection hoe with hoe
                    subst hoe
                    rw [hei] at h1
                    exact absurd h2 h1
                obtain ⟨x, hx, ⟨ms, ck, js, es, hm, hxt, hjnd, hjs, hkv, her⟩, hbx, hlv, _⟩ := hI.lit p e hpE (hei ▸ hlim) (hall _ _ (Nat.lt_succ_self _) (hF.bnd p e hpE))
                have hlt1 : ∀ j f, c.entry g j = some f → j < c.all.size := by
                  intro j f hf
                  obtain ⟨oj, _, _, _, _, hoj, _⟩ := entry_spec hF hf
                  exact (Array.getElem?_eq_some_iff.1 hoj).1
                have hperm := lits_perm (g := g) (c := c) hjnd (fun j => by
                  rw [hjs]
                  exact ⟨fun h => h.2, fun ⟨f, hf⟩ => ⟨hall _ _ (Nat.lt_succ_self _) (hlt1 j f hf), f, hf⟩⟩) hlt1 hkv
                have hget : ∀ b', s2.h.get b' = if b' = e.s.n then some (.lit (c.lits g)) else (lastS a.s E).h.get b' := by
                  intro b'
                  rw [← hadd]
                  exact T.get_set ..
                refine ⟨⟨fun b' q hb => ?_, fun b' d q q' y z hb hd hy hz eyz => ?_⟩, ⟨hI.le, by rw [hn2]; exact hstep0.n, hI.size, hstep0.keep, fun b' o i hb hi hlt => ?_, fun b' i hb => by rw [hn2]; exact hstep0.dom b' i hb, hI.env⟩⟩
                · rw [hget] at hb
                  split at hb
                  · rename_i e1
                    subst e1
                    injection hb with hb
                    subst hb
                    exact ⟨by rw [hn2]; exact hbN, x, hx, ms, ck, hm, hxt, es, hperm, by simpa using her.1, fun j f hf => by simpa using her.2 j f hf⟩
                  · rw [hn2]
                    exact hI.rel.obj b' q hb
                · rw [hget] at hb hd
                  split at hb
                  · rename_i e1
                    subst e1
                    split at hd
                    · rename_i e2; exact e2.symm
                    · rw [hx] at hy
                      injection hy with hy
                      subst hy
                      exact absurd eyz.symm (hlv _ _ _ hd hz)
                  · split at hd
                    · rename_i e2
                      subst e2
                      rw [hx] at hz
                      injection hz with hz
                      subst hz
                      exact absurd eyz (hlv _ _ _ hb hy)
                    · exact hI.rel.inj b' d q q' y z hb hd hy hz eyz
                · rw [hget] at hb
                  split at hb
                  · rename_i e1
                    subst e1
                    rw [hx] at hi
                    injection hi with hi
                    subst hi
                    omega
                  · exact hstep0.old b' o i hb hi hlt
              · cases hadd
            · cases hadd
        exact hQ γ w' a' hregs hfinal.1 hfinal.2 (by rw [hI.defers]; exact hdr.mono hI.le) hI.tsize
      · -- the beginning
        have nodn : ∀ i, ¬ dn (Array.replicate c.all.size false) i := by
          intro i hi
          unfold dn at hi
          simp [Array.getElem?_replicate] at hi
          split at hi <;> simp at hi
        refine ⟨by simp, fun j oj _ hd => absurd hd (nodn j), 0, a.s, β, ⟨Nat.zero_le _, by rw [← e4]; rfl, fun q e hq => by omega, hs, .refl β, Nat.le_refl _, fun _ _ _ => rfl, fun b o i hb hi _ => ⟨b, o, i, by rw [e4]; exact hb, hi, rfl⟩, fun b i hb => .inl hb,
          fun b i h1 h2 h3 => ?_, fun p e _ _ _ hd => absurd hd (nodn _), fun p q e f b d o r i j _ _ _ _ _ _ _ hd => absurd hd (nodn _), fun p e _ _ hd => absurd hd (nodn _), fun i o v t _ _ hd => absurd hd (nodn _), fun t _ => by rw [e5]; exact hr t, rfl, rfl, .refl w⟩, fun e _ => nodn _⟩
        rw [hf b h1 h2] at h3
        cases h3
    · cases h
end
end Go.Proofs.YtgfbjbdfckgdjaaGreatDoor.Ev

namespace Go.Proofs.YtgfbjbdfckgdjaaGreatDoor.Ev
open Go.RowKit

/-- The block for the rounds' deferred calls, and its mark. -/
def enterL (s : S) : Option Nat → Option (S × List AD)
  | none => some (Ev.new s (.dfr true), [.coll s.n])
  | some b => match s.h.get b with
    | some (.loop _) => some (s, [])
    | _ => none

/-- A loop over a function, from the outside: the loop's record, the one call, the jump that waits. -/
def over_ (g : G) (cf : CF) (rd : Option Nat) (nt : Nat) (x : Operand) (ps : Array Tmp) (as bd : Code) (a : A) : Option (X × A) :=
  match val g a.r x, enterL a.s rd with
  | some (.func (.func f) first captured), some (s1, mark) =>
    match callFn g (Ev.new s1 (.loop { st := .ready, pend := none, nt := nt, r := a.r, ps := ps, assign := as, body := bd })) f (first ++ [.yield s1.n] ++ captured) with
    | some (.enter f args s2) => match cf (.fn f args) s2 with
      | some (_, s3) => match s3.h.get s1.n with
        | some (.loop l) => match l.st with
          | .busy => none
          | _ => match l.pend with
            | none => some (.normal, { r := a.r, s := { h := s3.h.set s1.n (some (.loop { l with st := .exhausted })), n := s3.n }, d := mark ++ a.d })
            | some y => some (y, { r := a.r, s := { h := s3.h.set s1.n (some (.loop { l with st := .exhausted })), n := s3.n }, d := mark ++ a.d })
        | _ => none
      | none => none
    | _ => none
  | _, _ => none

/-- Code ('rd': in a round of that loop). -/
def code (g : G) (cf : CF) (rd : Option Nat) (nt : Nat) : Nat → Code → A → Option (X × A)
  | 0, _, _ => none
  | f + 1, c, a => match c with
    | .skip => some (.normal, a)
    | .label _ => some (.normal, a)
    | .region _ l dr => match dr with
      | true => match drawn g cf nt l a with
        | some a => some (.normal, a)
        | none => none
      | false => match ops g cf rd nt l l.toList a with
        | some a => some (.normal, a)
        | none => none
    | .seq x y => match code g cf rd nt f x a with
      | some (.normal, a) => code g cf rd nt f y a
      | o => o
    | .cond c x y => match val g a.r c with
      | some (.bool true) => code g cf rd nt f x a
      | some (.bool false) => code g cf rd nt f y a
      | _ => none
    | .block id b => match code g cf rd nt f b a with
      | some (.exit i, a) => if i = id then some (.normal, a) else some (.exit i, a)
      | o => o
    | .loop b => match code g cf rd nt f b a with
      | some (.normal, a) => code g cf rd nt f (.loop b) a
      | o => o
    | .scope b => code g cf rd nt f b a
    | .exit i => some (.exit i, a)
    | .ret => some (.ret, a)
    | .rangeFunc x ps as bd => over_ g cf rd nt x ps as bd a
    | _ => none


def X.toExit : X → Exit
  | .normal => .normal
  | .exit i => .exit i
  | .ret => .ret

section
variable {F : Fence} {n : Nat} {P : Program} {Q : Exit → Act → World → Prop}

/-- A loop's rounds, from the round's beginning. -/
def LW (F : Fence) (n : Nat) (P : Program) (Q : Exit → Act → World → Prop) (c : Code) (a : Act) (w : World) : Prop :=
  ∀ (b : Frame) (k : List Item) (cs : List Frame), b.roundOf = F.round → F.fn b.fn → F.room (cs.length + 1 + n) → ∃ e a' w', Q e a' w' ∧ ArrivesIn (Machine.fenced P F) P (lone (b.atR a (.code c :: .inLoop c :: k)) cs w) b k cs e a' w'

theorem LW.round {c : Code} {a : Act} {w : World} (h : c.wpIn F n P (Exit.then (LW F n P Q c) Q) a w) : LW F n P Q c a w := by
  intro b k cs hro hb hr
  obtain ⟨e, a₁, w₁, hq, harr⟩ := h b (.inLoop c :: k) cs hro hb hr
  cases e with
  | normal =>
    obtain ⟨e₂, a₂, w₂, hq₂, harr₂⟩ := hq b k cs hro hb hr
    exact ⟨e₂, a₂, w₂, hq₂, .of_steps (StepsIn.trans harr (.one (fenced_calm hb hr rfl) stepR_inLoop)) harr₂⟩
  | exit id => exact ⟨_, a₁, w₁, hq, .pass (x := .inLoop c) rfl (fun _ _ => .inl (by simp)) harr⟩
  | goto l => exact ⟨_, a₁, w₁, hq, .pass (x := .inLoop c) rfl (fun _ _ => .inl (by simp)) harr⟩
  | ret => exact ⟨_, a₁, w₁, hq, .pass (x := .inLoop c) rfl (fun _ _ => .inl (by simp)) harr⟩
  | panic ch => exact ⟨_, a₁, w₁, hq, .pass (x := .inLoop c) rfl (fun _ _ => .inl (by simp)) harr⟩
  | outgrown => exact ⟨_, a₁, w₁, hq, .pass (x := .inLoop c) rfl (fun _ _ => .inl (by simp)) harr⟩

theorem LW.loop {c : Code} {a : Act} {w : World} (h : LW F n P Q c a w) : (Code.loop c).wpIn F n P Q a w := by
  intro b k cs hro hb hr
  obtain ⟨e, a', w', hq, harr⟩ := h b k cs hro hb hr
  exact ⟨e, a', w', hq, .of_steps (.one (fenced_calm hb hr rfl) stepR_loop) harr⟩

theorem stepR_scope {b : Frame} {a : Act} {k : List Item} {cs : List Frame} {w : World} {c : Code} : step P (lone (b.atR a (.code (.scope c) :: k)) cs w) = .next (lone (b.atR a (.code c :: .inScope c :: k)) cs w) :=
  step_lone_go (by simp [stepG, stepG.exec, Frame.atR])
theorem stepR_inScope {b : Frame} {a : Act} {k : List Item} {cs : List Frame} {w : World} {c : Code} : step P (lone (b.atR a (.inScope c :: k)) cs w) = .next (lone (b.atR a k) cs w) :=
  step_lone_go (by simp [stepG, stepG.exec, Frame.atR])

theorem wpIn_scope {c : Code} {a : Act} {w : World} (h : c.wpIn F n P (Exit.noGoto Q) a w) : (Code.scope c).wpIn F n P Q a w := by
  intro b k cs hro hb hr
  have h0 : (lone (b.atR a (.code (.scope c) :: k)) cs w).fenced P F := fenced_calm hb hr rfl
  obtain ⟨e, a₁, w₁, hq, harr⟩ := h b (.inScope c :: k) cs hro hb hr
  cases e with
  | normal => exact ⟨.normal, a₁, w₁, hq, .head h0 stepR_scope (StepsIn.trans harr (.one (fenced_calm hb hr rfl) stepR_inScope))⟩
  | exit id =>
    have hx : exitTo id (.inScope c :: k) = exitTo id k := by simp [exitTo]
    exact ⟨.exit id, a₁, w₁, hq, fun k' hk => .head h0 stepR_scope (harr.1 k' (by rw [hx]; exact hk)),
      fun hr' hk => let ⟨k₁, h1, h2⟩ := harr.2 hr' (by rw [hx]; exact hk); ⟨k₁, h1, .head h0 stepR_scope h2⟩⟩
  | goto l => exact hq.elim
  | ret => exact ⟨_, a₁, w₁, hq, .of_steps (.one h0 stepR_scope) harr⟩
  | panic ch => exact ⟨_, a₁, w₁, hq, .of_steps (.one h0 stepR_scope) harr⟩
  | outgrown => exact ⟨_, a₁, w₁, hq, .of_steps (.one h0 stepR_scope) harr⟩
end

section
variable {P : Program} {g : G} {cf : CF} {nt : Nat}

theorem Free.le {β : Ren} {s t u : S} (h : Free β s u) (k : t.n ≤ u.n) : Free β s t := fun b h1 h2 => h b h1 (Nat.lt_of_lt_of_le h2 k)

theorem Free.next {β γ : Ren} {s t u : S} {w v : World} (h : Free β s u) (k : Step β s w γ t v) : Free γ t u := by
  intro b h1 h2
  cases hb : γ b with
  | none => rfl
  | some i =>
    rcases k.dom b i hb with h3 | h3
    · rw [h b (Nat.le_trans k.n h1) h2] at h3; cases h3
    · omega

/-- The loop's record is laid. -/
theorem enterL_sound {s s1 : S} {rd : Option Nat} {mark : List AD} (h : enterL s rd = some (s1, mark)) {ro : Option Nat} {β : Ren} {w : World} (hro : IR β rd ro) (hs : Rel β s w) {r : Regs} {tmps : Array Value} (hr : RR β r tmps) (hnt : nt ≤ tmps.size)
    (ps : Array Tmp) (as bd : Code) (hf : Free β s (Ev.new s1 (.loop { st := .ready, pend := none, nt := nt, r := r, ps := ps, assign := as, body := bd }))) (fn : FuncId) :
    ∃ γ i mk w₁, (Instr.enterLoop fn tmps ps as bd ro).run P w = .ok (i.blk, mk) w₁ ∧ Rel γ (Ev.new s1 (.loop { st := .ready, pend := none, nt := nt, r := r, ps := ps, assign := as, body := bd })) w₁ ∧
      Step β s w γ (Ev.new s1 (.loop { st := .ready, pend := none, nt := nt, r := r, ps := ps, assign := as, body := bd })) w₁ ∧ γ s1.n = some i ∧ DR γ mark mk := by
  have push_old : ∀ (W : World) (o : Obj) (k : Nat), k < W.heap.size → (W.alloc o).heap[k]? = W.heap[k]? := fun W o k hk => by
    show (W.heap.push o)[k]? = _
    rw [Array.getElem?_push_lt hk, Array.getElem?_eq_getElem hk]
  have push_new : ∀ (W : World) (o : Obj), (W.alloc o).heap[W.heap.size]? = some o := fun W o => by
    show (W.heap.push o)[W.heap.size]? = _
    simp
  have psz : ∀ (W : World) (o : Obj), (W.alloc o).heap.size = W.heap.size + 1 := fun W o => by
    show (W.heap.push o).size = _
    simp
  unfold enterL at h
  split at h
  · simp only [IR] at hro
    subst hro
    injection h with h
    injection h with h1 h2
    subst h1; subst h2
    have hn1 : β s.n = none := hf s.n (Nat.le_refl _) (by show s.n < s.n + 1 + 1; omega)
    obtain ⟨k1, k2⟩ := hs.new (i := ⟨w.heap.size, 0, 0, 0, 0⟩) (o := .dfr true) (w' := w.alloc (.deferred (some []))) hn1 (Nat.le_refl _) ⟨push_new _ _, rfl⟩ (by rw [psz]; omega) (push_old _ _) ⟨rfl, rfl, rfl⟩
    have hn2 : upd β s.n ⟨w.heap.size, 0, 0, 0, 0⟩ (s.n + 1) = none := by
      unfold upd
      rw [if_neg (by omega)]
      exact hf (s.n + 1) (by omega) (by show s.n + 1 < s.n + 1 + 1; omega)
    obtain ⟨k3, k4⟩ := k1.new (i := ⟨w.heap.size + 1, 0, 0, 0, 0⟩) (o := .loop { st := .ready, pend := none, nt := nt, r := r, ps := ps, assign := as, body := bd })
      (w' := (w.alloc (.deferred (some []))).alloc (.loop { state := .ready, pending := none, fn, tmps, params := ps, assign := as, body := bd, defers := w.heap.size })) hn2 (by rw [psz]; exact Nat.le_refl _)
      ⟨fn, tmps, w.heap.size, (by
        have := push_new (w.alloc (.deferred (some []))) (.loop { state := .ready, pending := none, fn, tmps, params := ps, assign := as, body := bd, defers := w.heap.size })
        rw [psz] at this
        exact this), hr.mono ((upd_le hn1).trans (upd_le hn2)), hnt, rfl⟩ (by simp only [psz]; omega) (push_old _ _) ⟨rfl, rfl, rfl⟩
    refine ⟨_, ⟨w.heap.size + 1, 0, 0, 0, 0⟩, _, _, run_enterLoop_outer fn tmps ps as bd, k3, k2.trans k4, upd_same .., _, [], ⟨⟨w.heap.size, 0, 0, 0, 0⟩, upd_le hn2 _ _ (upd_same ..), rfl⟩, rfl, rfl⟩
  · rename_i b
    split at h
    · rename_i L hb
      injection h with h
      injection h with h1 h2
      subst h1; subst h2
      obtain ⟨i, hi, rfl⟩ := hro
      obtain ⟨_, j, hj, f0, t0, d0, hh, _⟩ := hs.obj _ _ hb
      rw [hi] at hj
      injection hj with hj
      subst hj
      have hn1 : β s.n = none := hf s.n (Nat.le_refl _) (by show s.n < s.n + 1; omega)
      obtain ⟨k3, k4⟩ := hs.new (i := ⟨w.heap.size, 0, 0, 0, 0⟩) (o := .loop { st := .ready, pend := none, nt := nt, r := r, ps := ps, assign := as, body := bd })
        (w' := w.alloc (.loop { state := .ready, pending := none, fn, tmps, params := ps, assign := as, body := bd, defers := d0 })) hn1 (Nat.le_refl _)
        ⟨fn, tmps, d0, push_new _ _, hr.mono (upd_le hn1), hnt, rfl⟩ (by rw [psz]; omega) (push_old _ _) ⟨rfl, rfl, rfl⟩
      refine ⟨_, ⟨w.heap.size, 0, 0, 0, 0⟩, [], _, ?_, k3, k4, upd_same .., rfl⟩
      unfold Instr.enterLoop
      simp only [Sem.run_bind, run_getLoop hh, Result.andThen, Sem.run_pure, run_newObj_alloc]
    · cases h

/-- What code's evaluation is worth. -/
def Good (P : Program) (g : G) (rd : Option Nat) (nt : Nat) (c : Code) (a : A) (x : X) (a1 : A) : Prop :=
  a.s.n ≤ a1.s.n ∧ ∀ {ro : Option Nat} {β : Ren} {w : World} {act : Act}, IR β rd ro → RR β a.r act.tmps → Rel β a.s w → GloOK g β → Free β a.s a1.s → DR β a.d act.defers → nt ≤ act.tmps.size → ∀ {Q : Exit → Act → World → Prop},
    (∀ γ w' act', RR γ a1.r act'.tmps → Rel γ a1.s w' → Step β a.s w γ a1.s w' → DR γ a1.d act'.defers → act'.tmps.size = act.tmps.size → Q x.toExit act' w') → c.wpIn (Wd ro) 0 P Q act w

/-- .. and a loop's, from a round's beginning. -/
def GoodL (P : Program) (g : G) (rd : Option Nat) (nt : Nat) (c : Code) (a : A) (x : X) (a1 : A) : Prop :=
  a.s.n ≤ a1.s.n ∧ ∀ {ro : Option Nat} {β : Ren} {w : World} {act : Act}, IR β rd ro → RR β a.r act.tmps → Rel β a.s w → GloOK g β → Free β a.s a1.s → DR β a.d act.defers → nt ≤ act.tmps.size → ∀ {Q : Exit → Act → World → Prop},
    (∀ γ w' act', RR γ a1.r act'.tmps → Rel γ a1.s w' → Step β a.s w γ a1.s w' → DR γ a1.d act'.defers → act'.tmps.size = act.tmps.size → Q x.toExit act' w') → LW (Wd ro) 0 P Q c act w

theorem X.toCode_wp {x : X} {F : Fence} {Q : Exit → Act → World → Prop} {a : Act} {w : World} (h : Q x.toExit a w) : x.toCode.wpIn F 0 P Q a w := by
  cases x with
  | normal => exact wpIn_skip h
  | exit i => exact wpIn_exit h
  | ret => exact wpIn_ret h

theorem enterL_n {s s1 : S} {rd : Option Nat} {mark : List AD} (h : enterL s rd = some (s1, mark)) : s.n ≤ s1.n := by
  unfold enterL at h
  split at h
  · injection h with h; injection h with h1 h2; subst h1; exact Nat.le_succ _
  · split at h
    · injection h with h; injection h with h1 h2; subst h1; exact Nat.le_refl _
    · cases h

theorem over_sound (hg : GOK P g) (hcf : CS P g cf) {rd : Option Nat} {x : Operand} {ps : Array Tmp} {as bd : Code} {a : A} {y : X} {a1 : A} (h : over_ g cf rd nt x ps as bd a = some (y, a1)) : Good P g rd nt (.rangeFunc x ps as bd) a y a1 := by
  unfold over_ at h
  split at h
  · rename_i f first captured s1 mark hx he
    split at h
    · rename_i f' args s2 hcall
      split at h
      · rename_i v s3 hcf'
        split at h
        · rename_i l hl
          have hs2 : (Ev.new s1 (.loop { st := .ready, pend := none, nt := nt, r := a.r, ps := ps, assign := as, body := bd })).n ≤ s2.n := callFn_n hcall
          obtain ⟨hn3, hc⟩ := hcf _ _ _ _ hcf'
          have hn1 := enterL_n he
          have hnew : s1.n < (Ev.new s1 (.loop { st := .ready, pend := none, nt := nt, r := a.r, ps := ps, assign := as, body := bd })).n := Nat.lt_succ_self _
          have fin : l.st ≠ .busy → (match l.pend with | none => X.normal | some y => y) = y → a1 = { r := a.r, s := { h := s3.h.set s1.n (some (.loop { l with st := .exhausted })), n := s3.n }, d := mark ++ a.d } → Good P g rd nt (.rangeFunc x ps as bd) a y a1 := by
            rintro hbusy hy rfl
            have hnn : a.s.n ≤ s3.n := by omega
            refine ⟨hnn, fun {ro β w act} hro hr hs hgl hf hdr hnt Q hQ => wpIn_rangeFunc fun fn _ => ?_⟩
            have hf' : Free β a.s s3 := hf
            obtain ⟨γ, i, mk, w₁, hent, hrel, hst, hi, hmk⟩ := enterL_sound (P := P) he hro hs hr hnt ps as bd (hf'.le (by omega)) fn
            obtain ⟨first', cap', hfv, hcv, hev⟩ := (val_rel hgl hr hx).mono hst.le _ _
            have hyv : VR γ (.yield s1.n) (.func (.yield i.blk) #[] #[]) := by simp only [VR]; exact ⟨i, hi, rfl⟩
            have hxs : VRs γ (first ++ [.yield s1.n] ++ captured) (first' ++ [.func (.yield i.blk) #[] #[]] ++ cap') := (hfv.append (VRs.cons hyv VRs.nil)).append hcv
            obtain ⟨args', hrun, hva, hs2e⟩ := ex_callFn (w := w₁) hg hrel hcall hxs (by
              have : R.st (R.enter f' args s2) = s2 := rfl
              rw [this]
              exact (hf'.next hst).le hn3)
            subst hs2e
            refine ⟨i.blk, mk, w₁, { target := .fn (.func f) cap'.toArray, args := first'.toArray ++ #[Value.func (.yield i.blk) #[] #[]] }, w₁, f', args'.toArray, w₁, hent, ?_, fun _ _ => trivial, ?_, fun h => by simp [Wd, Fence.wide] at h, ?_⟩
            · simp [resolve, hev, Deferred.ofValue]
              rfl
            · have : first'.toArray ++ #[Value.func (.yield i.blk) #[] #[]] ++ cap'.toArray = (first' ++ [Value.func (.yield i.blk) #[] #[]] ++ cap').toArray := by simp
              simp only [Go.invoke]
              rw [this]
              exact hrun
            · refine calls_wd ((hc γ w₁ hrel (hgl.mono hst.le) (hf'.next hst) args' hva).mono ?_)
              rintro e w₃ ⟨δ, z, rfl, _, hrel3, hst3⟩
              obtain ⟨_, j, hj, f0, t0, d0, hh, hrr, hntt, hxt⟩ := hrel3.obj _ _ hl
              have hj' := hst3.le _ _ hi
              rw [hj] at hj'
              injection hj' with hj'
              subst hj'
              have hend := run_endLoop (P := P) hh (by simpa using hbusy)
              refine ⟨_, _, hend, ?_⟩
              have hlt : j.blk < w₃.heap.size := (Array.getElem?_eq_some_iff.1 hh).1
              obtain ⟨k1, k2⟩ := hrel3.change (o' := .loop { l with st := .exhausted }) (w' := w₃.putObj j.blk (.loop { state := .exhausted, pending := l.pend.map X.toCode, fn := f0, tmps := t0, params := l.ps, assign := l.assign, body := l.body, defers := d0 })) hl hj
                ⟨f0, t0, d0, World.putObj_heap_same hlt, hrr, hntt, hxt⟩ World.putObj_size (fun q hq => World.putObj_heap_other hq) ⟨rfl, rfl, rfl⟩
              have hQ' := hQ δ _ { act with defers := mk ++ act.defers } (hr.mono (hst.le.trans hst3.le)) k1 ((hst.trans hst3).trans k2) ((hmk.mono hst3.le).append (hdr.mono (hst.le.trans hst3.le))) rfl
              cases hp : l.pend with
              | none =>
                rw [hp] at hy
                dsimp only at hy
                subst hy
                simp only [hp, Option.map_none] at hQ' ⊢
                exact hQ'
              | some z =>
                rw [hp] at hy
                dsimp only at hy
                subst hy
                simp only [hp, Option.map_some] at hQ' ⊢
                exact X.toCode_wp hQ'
          split at h
          · cases h
          · rename_i hb
            split at h
            · rename_i hp
              injection h with h
              injection h with h1 h2
              exact fin (fun e => hb e) (by rw [hp]; exact h1) h2.symm
            · rename_i z hp
              injection h with h
              injection h with h1 h2
              exact fin (fun e => hb e) (by rw [hp]; exact h1) h2.symm
        · cases h
      · cases h
    · cases h
  · cases h

theorem code_sound (hg : GOK P g) (hcf : CS P g cf) {rd : Option Nat} : ∀ (f : Nat) (c : Code) (a : A) (x : X) (a1 : A), code g cf rd nt f c a = some (x, a1) →
    Good P g rd nt c a x a1 ∧ ∀ b, c = .loop b → GoodL P g rd nt b a x a1
  | 0, c, a, x, a1, h => by simp [code] at h
  | f + 1, c, a, x, a1, h => by
    have ih : ∀ (c : Code) (a : A) (x : X) (a1 : A), code g cf rd nt f c a = some (x, a1) → Good P g rd nt c a x a1 := fun c a x a1 h => (code_sound hg hcf f c a x a1 h).1
    cases c with
    | skip =>
      simp only [code, Option.some.injEq, Prod.mk.injEq] at h
      obtain ⟨rfl, rfl⟩ := h
      exact ⟨⟨Nat.le_refl _, fun _ hr hs _ _ hd _ Q hQ => wpIn_skip (hQ _ _ _ hr hs .refl hd rfl)⟩, fun b h => by cases h⟩
    | label l =>
      simp only [code, Option.some.injEq, Prod.mk.injEq] at h
      obtain ⟨rfl, rfl⟩ := h
      exact ⟨⟨Nat.le_refl _, fun _ hr hs _ _ hd _ Q hQ => wpIn_label (hQ _ _ _ hr hs .refl hd rfl)⟩, fun b h => by cases h⟩
    | exit i =>
      simp only [code, Option.some.injEq, Prod.mk.injEq] at h
      obtain ⟨rfl, rfl⟩ := h
      exact ⟨⟨Nat.le_refl _, fun _ hr hs _ _ hd _ Q hQ => wpIn_exit (hQ _ _ _ hr hs .refl hd rfl)⟩, fun b h => by cases h⟩
    | ret =>
      simp only [code, Option.some.injEq, Prod.mk.injEq] at h
      obtain ⟨rfl, rfl⟩ := h
      exact ⟨⟨Nat.le_refl _, fun _ hr hs _ _ hd _ Q hQ => wpIn_ret (hQ _ _ _ hr hs .refl hd rfl)⟩, fun b h => by cases h⟩
    | region id l dr =>
      refine ⟨?_, fun b h => by cases h⟩
      cases dr with
      | true =>
        simp only [code] at h
        split at h
        · rename_i a2 hd
          simp only [Option.some.injEq, Prod.mk.injEq] at h
          obtain ⟨rfl, rfl⟩ := h
          obtain ⟨hn, hd⟩ := drawn_sound hg hcf hd
          exact ⟨hn, fun {ro β w act} hro hr hs hgl hf hdr hnt Q hQ => wpIn_region_any hg.mixed (hd hr (hs.drew _) hgl hf hdr hnt fun γ w' act' h1 h2 h3 h4 h5 => hQ γ w' act' h1 h2 ((Step.drew _).trans h3) h4 h5)⟩
        · cases h
      | false =>
        simp only [code] at h
        split at h
        · rename_i a2 hd
          simp only [Option.some.injEq, Prod.mk.injEq] at h
          obtain ⟨rfl, rfl⟩ := h
          obtain ⟨hn, hd⟩ := ops_sound hg hcf (k := 0) (by simp) hd
          exact ⟨hn, fun {ro β w act} hro hr hs hgl hf hdr hnt Q hQ => wpIn_region (by simpa using hd hro hr hs hgl hf hdr hnt hQ)⟩
        · cases h
    | seq y z =>
      refine ⟨?_, fun b h => by cases h⟩
      simp only [code] at h
      split at h
      · rename_i a2 h1
        obtain ⟨n1, g1⟩ := ih _ _ _ _ h1
        obtain ⟨n2, g2⟩ := ih _ _ _ _ h
        refine ⟨Nat.le_trans n1 n2, fun {ro β w act} hro hr hs hgl hf hdr hnt Q hQ => wpIn_seq (g1 hro hr hs hgl (hf.le n2) hdr hnt fun γ w' act' q1 q2 q3 q4 q5 => ?_)⟩
        exact g2 (hro.mono q3.le) q1 q2 (hgl.mono q3.le) (hf.next q3) q4 (by rw [q5]; exact hnt) fun δ w'' act'' p1 p2 p3 p4 p5 => hQ δ w'' act'' p1 p2 (q3.trans p3) p4 (p5.trans q5)
      · rename_i o hno
        obtain ⟨n1, g1⟩ := ih _ _ _ _ h
        refine ⟨n1, fun {ro β w act} hro hr hs hgl hf hdr hnt Q hQ => wpIn_seq (g1 hro hr hs hgl hf hdr hnt fun γ w' act' q1 q2 q3 q4 q5 => ?_)⟩
        have := hQ γ w' act' q1 q2 q3 q4 q5
        cases x with
        | normal => exact absurd h (hno _)
        | exit i => exact this
        | ret => exact this
    | cond c y z =>
      refine ⟨?_, fun b h => by cases h⟩
      simp only [code] at h
      split at h
      · rename_i hc
        obtain ⟨n1, g1⟩ := ih _ _ _ _ h
        exact ⟨n1, fun {ro β w act} hro hr hs hgl hf hdr hnt Q hQ => wpIn_cond_true (by simpa [VR] using val_rel hgl hr hc) (g1 hro hr hs hgl hf hdr hnt hQ)⟩
      · rename_i hc
        obtain ⟨n1, g1⟩ := ih _ _ _ _ h
        exact ⟨n1, fun {ro β w act} hro hr hs hgl hf hdr hnt Q hQ => wpIn_cond_false (by simpa [VR] using val_rel hgl hr hc) (g1 hro hr hs hgl hf hdr hnt hQ)⟩
      · cases h
    | block id b =>
      refine ⟨?_, fun b h => by cases h⟩
      simp only [code] at h
      split at h
      · rename_i i a2 h1
        obtain ⟨n1, g1⟩ := ih _ _ _ _ h1
        split at h
        · rename_i e
          simp only [Option.some.injEq, Prod.mk.injEq] at h
          obtain ⟨rfl, rfl⟩ := h
          refine ⟨n1, fun {ro β w act} hro hr hs hgl hf hdr hnt Q hQ => wpIn_block (g1 hro hr hs hgl hf hdr hnt fun γ w' act' q1 q2 q3 q4 q5 => ?_)⟩
          have := hQ γ w' act' q1 q2 q3 q4 q5
          simp only [X.toExit, Exit.inBlock, e, if_true] at this ⊢
          exact this
        · rename_i e
          simp only [Option.some.injEq, Prod.mk.injEq] at h
          obtain ⟨rfl, rfl⟩ := h
          refine ⟨n1, fun {ro β w act} hro hr hs hgl hf hdr hnt Q hQ => wpIn_block (g1 hro hr hs hgl hf hdr hnt fun γ w' act' q1 q2 q3 q4 q5 => ?_)⟩
          have := hQ γ w' act' q1 q2 q3 q4 q5
          simp only [X.toExit, Exit.inBlock, e, if_false] at this ⊢
          exact this
      · rename_i o hno
        obtain ⟨n1, g1⟩ := ih _ _ _ _ h
        refine ⟨n1, fun {ro β w act} hro hr hs hgl hf hdr hnt Q hQ => wpIn_block (g1 hro hr hs hgl hf hdr hnt fun γ w' act' q1 q2 q3 q4 q5 => ?_)⟩
        have := hQ γ w' act' q1 q2 q3 q4 q5
        cases x with
        | normal => exact this
        | exit i => exact absurd h (hno _ _)
        | ret => exact this
    | loop b =>
      have key : GoodL P g rd nt b a x a1 := by
        simp only [code] at h
        split at h
        · rename_i a2 h1
          obtain ⟨n1, g1⟩ := ih _ _ _ _ h1
          obtain ⟨n2, g2⟩ := (code_sound hg hcf f _ _ _ _ h).2 b rfl
          refine ⟨Nat.le_trans n1 n2, fun {ro β w act} hro hr hs hgl hf hdr hnt Q hQ => LW.round (g1 hro hr hs hgl (hf.le n2) hdr hnt fun γ w' act' q1 q2 q3 q4 q5 => ?_)⟩
          exact g2 (hro.mono q3.le) q1 q2 (hgl.mono q3.le) (hf.next q3) q4 (by rw [q5]; exact hnt) fun δ w'' act'' p1 p2 p3 p4 p5 => hQ δ w'' act'' p1 p2 (q3.trans p3) p4 (p5.trans q5)
        · rename_i o hno
          obtain ⟨n1, g1⟩ := ih _ _ _ _ h
          refine ⟨n1, fun {ro β w act} hro hr hs hgl hf hdr hnt Q hQ => LW.round (g1 hro hr hs hgl hf hdr hnt fun γ w' act' q1 q2 q3 q4 q5 => ?_)⟩
          have := hQ γ w' act' q1 q2 q3 q4 q5
          cases x with
          | normal => exact absurd h (hno _)
          | exit i => exact this
          | ret => exact this
      exact ⟨⟨key.1, fun hro hr hs hgl hf hdr hnt Q hQ => (key.2 hro hr hs hgl hf hdr hnt hQ).loop⟩, fun b' e => by injection e with e; subst e; exact key⟩
    | scope b =>
      refine ⟨?_, fun b h => by cases h⟩
      simp only [code] at h
      obtain ⟨n1, g1⟩ := ih _ _ _ _ h
      refine ⟨n1, fun {ro β w act} hro hr hs hgl hf hdr hnt Q hQ => wpIn_scope (g1 hro hr hs hgl hf hdr hnt fun γ w' act' q1 q2 q3 q4 q5 => ?_)⟩
      have := hQ γ w' act' q1 q2 q3 q4 q5
      cases x <;> exact this
    | goto l => simp [code] at h
    | rangeFunc _ _ _ _ => exact ⟨over_sound hg hcf (by simpa [code] using h), fun b h => by cases h⟩
    | refuse _ => simp [code] at h

end
end Go.Proofs.YtgfbjbdfckgdjaaGreatDoor.Ev

namespace Go.Proofs.YtgfbjbdfckgdjaaGreatDoor.Ev
open Go.RowKit

def fillR (r : Regs) : List Tmp → List AV → Regs
  | p :: ps, v :: vs => fillR (T.set r p (some v)) ps vs
  | _, _ => r

def isRecover : Op → Bool
  | .call c => match c.callee with
    | .builtin .recover => true
    | _ => false
  | _ => false

/-- A round. -/
def roundE (g : G) (cf : CF) (fuel : Nat) (b : Nat) (args : List AV) (s : S) : Option (AV × S) :=
  match s.h.get b with
  | some (.loop l) => match l.st, Nat.beq args.length l.ps.size && l.ps.toList.all (fun p => Nat.blt p l.nt) with
    | .ready, true => match code g cf (some b) l.nt fuel l.assign { r := fillR l.r l.ps.toList args, s := s, d := [] } with
      | some (.normal, a1) => match a1.s.h.get b with
        | some (.loop l1) => match l1.st with
          | .ready => match code g cf (some b) l.nt fuel l.body { r := a1.r, s := { h := a1.s.h.set b (some (.loop { l1 with st := .busy })), n := a1.s.n }, d := a1.d } with
            | some (x, a2) => match a2.s.h.get b with
              | some (.loop l2) => match x with
                | .normal => some (.bool true, { h := a2.s.h.set b (some (.loop { l2 with st := .ready, pend := none })), n := a2.s.n })
                | x => some (.bool false, { h := a2.s.h.set b (some (.loop { l2 with st := .done, pend := some x })), n := a2.s.n })
              | _ => none
            | none => none
          | _ => none
        | _ => none
      | _ => none
    | _, _ => none
  | _ => none

/-- A region of a deferred function's in which 'recover' may stand (nothing panics: it hands back nil). -/
def opsD (g : G) (nt : Nat) (all : Array Oper) : List Oper → A → Option A
  | [], a => some a
  | o :: rest, a => match dstOk nt o.dst with
    | false => none
    | true => match wants all a.r o with
      | false => opsD g nt all rest { r := put a.r o.dst undef, s := a.s, d := a.d }
      | true => match isRecover o.op with
        | true => opsD g nt all rest { r := put a.r o.dst .nilIface, s := a.s, d := a.d }
        | false => match vals g a.r o.op.operands.toList with
          | none => none
          | some vs => match exec g a.s o.op vs with
            | some (.val v t) => opsD g nt all rest { r := put a.r o.dst v, s := t, d := a.d }
            | some (.skip t) => opsD g nt all rest { r := put a.r o.dst undef, s := t, d := a.d }
            | _ => none

/-- A deferred function's code. -/
def codeD (g : G) (cf : CF) (nt : Nat) : Nat → Code → A → Option (X × A)
  | 0, _, _ => none
  | f + 1, c, a => match c with
    | .seq x y => match codeD g cf nt f x a with
      | some (.normal, a) => codeD g cf nt f y a
      | o => o
    | .cond c x y => match val g a.r c with
      | some (.bool true) => codeD g cf nt f x a
      | some (.bool false) => codeD g cf nt f y a
      | _ => none
    | .region i l false => match l.any (fun o => isRecover o.op) with
      | true => match opsD g nt l l.toList a with
        | some a => some (.normal, a)
        | none => none
      | false => code g cf none nt f (.region i l false) a
    | c => code g cf none nt f c a

/-- A deferred function's call. -/
def callD (g : G) (cf : CF) (fuel : Nat) (fn : FuncId) (args : List AV) (s : S) : Option S :=
  match g.fns.get fn with
  | none => none
  | some F => match F.body with
    | none => none
    | some b => match codeD g cf F.ntmps fuel b { r := T.ofList args 0 .e, s := s, d := [] } with
      | some (.normal, a) => match a.d, results g a.r a.s F.results.toList with
        | [], some _ => some a.s
        | _, _ => none
      | some (.ret, a) => match a.d, results g a.r a.s F.results.toList with
        | [], some _ => some a.s
        | _, _ => none
      | _ => none

/-- What is deferred is done. -/
def leave (g : G) (cf : CF) (fuel : Nat) : List AD → S → Option S
  | [], s => some s
  | .coll b :: ds, s => match s.h.get b with
    | some (.dfr true) => leave g cf fuel ds { h := s.h.set b (some (.dfr false)), n := s.n }
    | _ => none
  | .fn f args cap :: ds, s => match callFn g s f (args ++ cap) with
    | some (.enter f args s) => match callD g cf fuel f args s with
      | some s => leave g cf fuel ds s
      | none => none
    | _ => none

/-- A function's end. -/
def ends (g : G) (cf : CF) (fuel : Nat) (F : Func) (a : A) : Option (AV × S) :=
  match leave g cf fuel a.d a.s with
  | some s => match results g a.r s F.results.toList with
    | some l => some (tup l, s)
    | none => none
  | none => none

/-- A call or a round, with what is done for the calls in it. -/
def callB (g : G) (cf : CF) (fuel : Nat) : CF := fun j s => match j with
  | .rnd b args => roundE g cf fuel b args s
  | .fn fn args => match g.fns.get fn with
    | none => none
    | some F => match F.body with
      | none => none
      | some b => match code g cf none F.ntmps fuel b { r := T.ofList args 0 .e, s := s, d := [] } with
        | some (.normal, a) => ends g cf fuel F a
        | some (.ret, a) => ends g cf fuel F a
        | _ => none

/-- Calls: 'fuel' is for loops, the number for how deep calls go. -/
def call (g : G) (fuel : Nat) : Nat → CF
  | 0 => fun _ _ => none
  | d + 1 => callB g (call g fuel d) fuel

def ofProg (P : Program) : G := { P := P, fns := T.ofList P.funcs.toList 0 .e, tys := T.ofList P.types.toList 0 .e, glo := .e, ix := none }
def s0 : S := { h := .e, n := 0 }


section
variable {P : Program} {g : G} {cf : CF}

theorem ofList_get {α : Type} : ∀ (l : List α) (k : Nat) (t : T α) (j : Nat), (T.ofList l k t).get j = if k ≤ j ∧ j < k + l.length then l[j - k]? else t.get j
  | [], k, t, j => by simp [T.ofList]; omega
  | a :: l, k, t, j => by
    simp only [T.ofList]
    rw [ofList_get l (k + 1) (t.set k (some a)) j, T.get_set]
    by_cases h1 : j = k
    · subst h1
      rw [if_neg (by omega), if_pos rfl, if_pos (by simp), Nat.sub_self]
      rfl
    · by_cases h2 : k + 1 ≤ j ∧ j < k + 1 + l.length
      · have h3 : k ≤ j ∧ j < k + (a :: l).length := by simp; omega
        rw [if_pos h2, if_pos h3]
        have : j - k = (j - (k + 1)) + 1 := by omega
        rw [this]
        simp
      · have h3 : ¬ (k ≤ j ∧ j < k + (a :: l).length) := by simp; omega
        rw [if_neg h2, if_neg h3, if_neg h1]

theorem RR.enter {β : Ren} {args : List AV} {args' : List Value} (h : VRs β args args') (n : Nat) : RR β (T.ofList args 0 .e) (args'.toArray ++ Array.replicate n Go.undef) := by
  intro t
  rw [ofList_get]
  have hl := h.length
  have past : args'.length ≤ t → (args'.toArray ++ Array.replicate n Go.undef).getD t Go.undef = Go.undef := by
    intro hge
    simp only [Array.getD_eq_getD_getElem?]
    rw [Array.getElem?_append_right (by simpa using hge)]
    rw [Array.getElem?_replicate]
    split <;> rfl
  by_cases ht : 0 ≤ t ∧ t < 0 + args.length
  · rw [if_pos ht]
    refine ⟨fun v hv => ?_, fun hn => ?_⟩
    · obtain ⟨x, hx, hvx⟩ := h.get _ _ hv
      have : (args'.toArray ++ Array.replicate n Go.undef).getD t Go.undef = x := by
        simp only [Array.getD_eq_getD_getElem?]
        rw [Array.getElem?_append_left (by simp; omega)]
        simp only [List.getElem?_toArray, Nat.sub_zero] at hx ⊢
        rw [hx]
        rfl
      rw [this]
      exact hvx
    · have := List.getElem?_eq_none_iff.1 hn
      exact past (by omega)
  · rw [if_neg ht]
    exact ⟨fun v hv => by simp [T.get] at hv, fun _ => past (by omega)⟩

theorem run_results (hg : GOK P g) {β : Ren} {s : S} {w : World} (hs : Rel β s w) (hgl : GloOK g β) {r : Regs} {a : Act} (hr : RR β r a.tmps) : ∀ {l : List ResultVar} {vs : List AV}, results g r s l = some vs →
    ∃ xs : List Value, (l.mapM (fun | .tmp t => pure (a.tmps.getD t Go.undef) | .cell b t => do Go.loadVar t (← asAddr (a.tmps.getD b Go.undef)) : ResultVar → Sem Value)).run P w = .ok xs w ∧ VRs β vs xs
  | [], vs, h => by simp only [results, Option.some.injEq] at h; subst h; exact ⟨[], by simp, VRs.nil⟩
  | .tmp t :: l, vs, h => by
    simp only [results] at h
    split at h
    · rename_i v vs' h1 h2
      injection h with h
      subst h
      obtain ⟨xs, hx, hv⟩ := run_results hg hs hgl hr h2
      have hv1 := val_rel hgl hr h1
      exact ⟨_ :: xs, by simp only [List.mapM_cons, Sem.run_bind, Sem.run_pure, Result.andThen_ok, hx]; rfl, VRs.cons hv1 hv⟩
    · cases h
  | .cell b t :: l, vs, h => by
    simp only [results] at h
    split at h
    · rename_i p hp
      split at h
      · rename_i v vs' h1 h2
        injection h with h
        subst h
        obtain ⟨xs, hx, hv⟩ := run_results hg hs hgl hr h2
        have hp1 := val_rel hgl hr hp
        obtain ⟨pb, po⟩ := p
        obtain ⟨i, hi, e⟩ := hp1
        obtain ⟨j, y, hj, hrun, hy⟩ := loadVar_row hg h1 hs
        dsimp only at hj hrun
        rw [hi] at hj
        injection hj with hj
        subst hj
        have e' : a.tmps.getD b Go.undef = .pointer (some ⟨i.blk, i.off + po, none⟩) := e
        have ea : (asAddr (a.tmps.getD b Go.undef)).run P w = .ok ⟨i.blk, i.off + po, none⟩ w := by rw [e']; rfl
        exact ⟨y :: xs, by simp only [List.mapM_cons, Sem.run_bind, ea, Sem.run_pure, Result.andThen_ok, hrun, hx], VRs.cons hy hv⟩
      · cases h
    · cases h

theorem tup_rel {β : Ren} {vs : List AV} {xs : List Value} (h : VRs β vs xs) : VR β (tup vs) (if h : xs.toArray.size = 1 then xs.toArray[0] else .tuple xs.toArray) := by
  cases vs with
  | nil => simp only [VRs] at h; subst h; exact ⟨[], VRs.nil, rfl⟩
  | cons v vs =>
    obtain ⟨a, r, ha, hr, rfl⟩ := h
    cases vs with
    | nil => simp only [VRs] at hr; subst hr; exact ha
    | cons u us =>
      obtain ⟨b, q, hb, hq, rfl⟩ := hr
      exact ⟨a :: b :: q, VRs.cons ha (VRs.cons hb hq), by simp⟩

theorem run_results_all (hg : GOK P g) {β : Ren} {s : S} {w : World} (hs : Rel β s w) (hgl : GloOK g β) {r : Regs} {a : Act} (hr : RR β r a.tmps) {fn : Func} {vs : List AV} (h : results g r s fn.results.toList = some vs) :
    ∃ x, (Go.results fn a.tmps).run P w = .ok x w ∧ VR β (tup vs) x := by
  obtain ⟨xs, hx, hv⟩ := run_results hg hs hgl hr h
  refine ⟨_, ?_, tup_rel hv⟩
  have := run_mapM_array hx
  unfold Go.results
  rw [Sem.run_bind]
  refine (congrArg (fun r => Result.andThen r _) this).trans ?_
  rfl

theorem fillR_rel {β : Ren} : ∀ {ps : List Tmp} {args : List AV} {args' : List Value} {r : Regs} {tmps : Array Value} {nt : Nat}, RR β r tmps → VRs β args args' → (∀ p ∈ ps, p < nt) → nt ≤ tmps.size →
    RR β (fillR r ps args) ((ps.zip args').foldl (fun tmps (t, a) => tmps.setIfInBounds t a) tmps) ∧ ((ps.zip args').foldl (fun tmps (t, a) => tmps.setIfInBounds t a) tmps).size = tmps.size
  | [], _, _, _, _, _, hr, _, _, _ => by simp [fillR]; exact hr
  | _ :: _, [], _, _, _, _, hr, hv, _, _ => by simp only [VRs] at hv; subst hv; simp [fillR]; exact hr
  | p :: ps, a :: args, _, r, tmps, nt, hr, hv, hp, hn => by
    obtain ⟨x, xs, hx, hxs, rfl⟩ := hv
    have h1 := RR.put hr hx (d := p) (Nat.lt_of_lt_of_le (hp p List.mem_cons_self) hn)
    obtain ⟨k1, k2⟩ := fillR_rel (nt := nt) h1 hxs (fun q hq => hp q (List.mem_cons_of_mem _ hq)) (by simpa using hn)
    simp only [List.zip_cons_cons, List.foldl_cons, fillR]
    exact ⟨k1, by rw [k2]; simp⟩

theorem putObj_same (w : World) (b : Nat) (o : Obj) : Same w (w.putObj b o) := ⟨rfl, rfl, rfl⟩

/-- The loop's record turns. -/
theorem loop_turn {β : Ren} {s : S} {w : World} {b : Nat} {i : Info} {l : LA} (hs : Rel β s w) (hb : s.h.get b = some (.loop l)) (hi : β b = some i) :
    ∃ f0 t0 d0, w.heap[i.blk]? = some (.loop { state := l.st, pending := l.pend.map X.toCode, fn := f0, tmps := t0, params := l.ps, assign := l.assign, body := l.body, defers := d0 }) ∧ RR β l.r t0 ∧ l.nt ≤ t0.size ∧
      ∀ (st : LoopState) (pd : Option X), Rel β { h := s.h.set b (some (.loop { l with st := st, pend := pd })), n := s.n } (w.putObj i.blk (.loop { state := st, pending := pd.map X.toCode, fn := f0, tmps := t0, params := l.ps, assign := l.assign, body := l.body, defers := d0 })) ∧
        Step β s w β { h := s.h.set b (some (.loop { l with st := st, pend := pd })), n := s.n } (w.putObj i.blk (.loop { state := st, pending := pd.map X.toCode, fn := f0, tmps := t0, params := l.ps, assign := l.assign, body := l.body, defers := d0 })) := by
  obtain ⟨_, j, hj, f0, t0, d0, hh, hrr, hnt, hxt⟩ := hs.obj _ _ hb
  rw [hi] at hj
  injection hj with hj
  subst hj
  have hlt : i.blk < w.heap.size := (Array.getElem?_eq_some_iff.1 hh).1
  exact ⟨f0, t0, d0, hh, hrr, hnt, fun st pd => hs.change (o' := .loop { l with st := st, pend := pd }) hb hi ⟨f0, t0, d0, World.putObj_heap_same hlt, hrr, hnt, hxt⟩ World.putObj_size (fun q hq => World.putObj_heap_other hq) (putObj_same _ _ _)⟩

def X.nrm : X → Bool
  | .normal => true
  | _ => false
def X.ls : X → LoopState
  | .normal => .ready
  | _ => .done
def X.pd : X → Option X
  | .normal => none
  | x => some x

theorem round_sound (hg : GOK P g) (hcf : CS P g cf) {fuel b : Nat} {args : List AV} {s t : S} {v : AV} (h : roundE g cf fuel b args s = some (v, t)) :
    s.n ≤ t.n ∧ ∀ β w, Rel β s w → GloOK g β → Free β s t → ∀ args' i, VRs β args args' → β b = some i → ∃ l f tmps assign body, (Instr.yield i.blk args'.toArray).run P w = .ok (.round l f tmps assign body) w ∧ RoundIn Fence.wide 0 P l f tmps assign body w (EndR β s w v t) := by
  unfold roundE at h
  split at h
  · rename_i l hl
    split at h
    · rename_i hst hok
      split at h
      · rename_i a1 hc1
        split at h
        · rename_i l1 hl1
          split at h
          · rename_i hst1
            split at h
            · rename_i x a2 hc2
              split at h
              · rename_i l2 hl2
                have key : v = .bool x.nrm → t = { h := a2.s.h.set b (some (.loop { l2 with st := x.ls, pend := x.pd })), n := a2.s.n } →
                    s.n ≤ t.n ∧ ∀ β w, Rel β s w → GloOK g β → Free β s t → ∀ args' i, VRs β args args' → β b = some i → ∃ l f tmps assign body, (Instr.yield i.blk args'.toArray).run P w = .ok (.round l f tmps assign body) w ∧ RoundIn Fence.wide 0 P l f tmps assign body w (EndR β s w v t) := by
                  rintro rfl rfl
                  obtain ⟨n1, g1⟩ := (code_sound hg hcf fuel _ _ _ _ hc1).1
                  obtain ⟨n2, g2⟩ := (code_sound hg hcf fuel _ _ _ _ hc2).1
                  dsimp only at n1 n2
                  refine ⟨Nat.le_trans n1 n2, fun β w hs hgl hf args' i hv hi => ?_⟩
                  obtain ⟨f0, t0, d0, hh, hrr, hnt, _⟩ := loop_turn hs hl hi
                  simp only [Bool.and_eq_true, List.all_eq_true] at hok
                  have hsz : args'.toArray.size = l.ps.size := by
                    have := Nat.eq_of_beq_eq_true hok.1
                    rw [← this, hv.length]; simp
                  obtain ⟨k1, k2⟩ := fillR_rel (ps := l.ps.toList) (nt := l.nt) hrr hv (fun p hp => by have := hok.2 p hp; simpa [Nat.blt_eq] using this) hnt
                  have hfold : (l.ps.zip args'.toArray).foldl (fun tmps (t, a) => tmps.setIfInBounds t a) t0 = (l.ps.toList.zip args').foldl (fun tmps (t, a) => tmps.setIfInBounds t a) t0 := by
                    rw [← Array.foldl_toList, Array.toList_zip]
                  refine ⟨_, _, _, _, _, run_yield hh hsz, roundIn_of_wpIn trivial ?_⟩
                  dsimp only
                  rw [hfold]
                  refine g1 (ro := some i.blk) (act := { tmps := _, defers := [] }) ⟨i, hi, rfl⟩ k1 hs hgl (hf.le n2) rfl (by rw [k2]; exact hnt) fun γ w1 act1 q1 q2 q3 q4 q5 => ?_
                  have hi1 := q3.le _ _ hi
                  obtain ⟨f1, t1, d1, hh1, hrr1, hnt1, turn1⟩ := loop_turn q2 hl1 hi1
                  obtain ⟨r1, r2⟩ := turn1 .busy l1.pend
                  refine ⟨_, run_beginRound hh1 (by simpa using hst1), ?_⟩
                  refine g2 (ro := some i.blk) ⟨i, hi1, rfl⟩ q1 r1 (hgl.mono q3.le) (hf.next (q3.trans r2)) q4 (by rw [q5]; exact Nat.le_trans hnt (by rw [k2]; exact Nat.le_refl _)) fun δ w2 act2 p1 p2 p3 p4 p5 => ?_
                  have hi2 := p3.le _ _ hi1
                  obtain ⟨f2, t2, d2, hh2, hrr2, hnt2, turn2⟩ := loop_turn p2 hl2 hi2
                  have hall := (q3.trans r2).trans p3
                  cases x with
                  | normal =>
                    obtain ⟨u1, u2⟩ := turn2 .ready none
                    exact ⟨_, _, run_endRound none hh2, δ, _, rfl, by simp [VR, X.nrm], u1, hall.trans u2⟩
                  | ret =>
                    obtain ⟨u1, u2⟩ := turn2 .done (some .ret)
                    exact ⟨_, _, run_endRound (some .ret) hh2, δ, _, rfl, by simp [VR, X.nrm], u1, hall.trans u2⟩
                  | exit id =>
                    obtain ⟨u1, u2⟩ := turn2 .done (some (.exit id))
                    exact ⟨_, _, run_endRound (some (.exit id)) hh2, δ, _, rfl, by simp [VR, X.nrm], u1, hall.trans u2⟩
                split at h
                · injection h with h
                  injection h with h1 h2
                  exact key h1.symm h2.symm
                · rename_i hx
                  injection h with h
                  injection h with h1 h2
                  cases x with
                  | normal => exact absurd rfl hx
                  | ret => exact key h1.symm h2.symm
                  | exit id => exact key h1.symm h2.symm
              · cases h
            · cases h
          · cases h
        · cases h
      · cases h
    · cases h
  · cases h

end
theorem gok_ofProg {P : Program} (hm : P.follows .mixedOrders = true) : GOK P (ofProg P) where
  prog := rfl
  ix := fun fi h => by simp [ofProg] at h
  fns := fun f F h => by
    unfold ofProg at h
    dsimp only at h
    rw [ofList_get] at h
    split at h
    · simpa using h
    · simp [T.get] at h
  tys := fun t i h => by
    unfold ofProg at h
    dsimp only at h
    rw [ofList_get] at h
    split at h
    · have ht : P.types[t]? = some i := by simpa using h
      have hlt := (Array.getElem?_eq_some_iff.1 ht).1
      unfold Tables.info?
      rw [if_pos hlt]
      exact ht
    · simp [T.get] at h
  mixed := hm


section
variable {P : Program} {g : G} {cf : CF}

theorem recover_run {o : Oper} (h : isRecover o.op = true) (ρ : Operand → Value) (w : World) : (Go.execOp ρ o).run P w = .ok .recover w := by
  obtain ⟨dst, op, type, pos, after, guard⟩ := o
  cases op <;> simp only [isRecover] at h <;> try cases h
  rename_i c
  obtain ⟨callee, args, ats⟩ := c
  cases callee with
  | value f => cases h
  | invoke x m => cases h
  | builtin b =>
    cases b <;> simp only [] at h <;> try cases h
    simp [Go.execOp, resolve, Go.invoke, Sem.run_bind, Result.andThen]
    rfl

theorem recoverD_none {c : Frame} {cs : List Frame} (h : c.mode = .returning) : recoverD (c :: cs) = none := by
  simp [recoverD, h]

/-- A deferred function's region. -/
theorem opsD_sound (hg : GOK P g) {nt : Nat} {all : Array Oper} : ∀ {rest : List Oper} {k : Nat}, all.toList.drop k = rest → ∀ {a a1 : A}, opsD g nt all rest a = some a1 → a.s.n ≤ a1.s.n ∧ ∀ {β : Ren} {w : World} {act : Act},
    RR β a.r act.tmps → Rel β a.s w → GloOK g β → Free β a.s a1.s → DR β a.d act.defers → nt ≤ act.tmps.size → ∀ {c₀ : Frame} {cs : List Frame} {Q : Exit → Act → List Frame → World → Prop}, c₀.mode = .returning →
    (∀ γ w' act', RR γ a1.r act'.tmps → Rel γ a1.s w' → Step β a.s w γ a1.s w' → DR γ a1.d act'.defers → act'.tmps.size = act.tmps.size → Q .normal act' (c₀ :: cs) w') →
    wpOpsSIn Fence.wide 0 P all Q ((List.range all.size).drop k) act (c₀ :: cs) w
  | [], k, hk, a, a1, h => by
    simp only [opsD, Option.some.injEq] at h
    subst h
    refine ⟨Nat.le_refl _, fun hr hs _ _ hd _ _ _ Q _ hQ => ?_⟩
    have hle : all.size ≤ k := by
      have := List.drop_eq_nil_iff.1 hk
      simpa using this
    rw [List.drop_eq_nil_of_le (by simpa using hle)]
    exact hQ _ _ _ hr hs .refl hd rfl
  | o :: rest, k, hk, a, a1, h => by
    have hlt : k < all.size := by
      rcases Nat.lt_or_ge k all.size with h' | h'
      · exact h'
      · rw [List.drop_eq_nil_of_le (by simpa using h')] at hk; cases hk
    have hcons : (List.range all.size).drop k = k :: (List.range all.size).drop (k + 1) := by
      rw [List.drop_eq_getElem_cons (by simpa using hlt)]
      simp
    have hk' := hk
    rw [List.drop_eq_getElem_cons (by simpa using hlt)] at hk'
    injection hk' with ho hrest
    have hoo : all[k]? = some o := by rw [← ho]; simp [hlt]
    simp only [opsD] at h
    split at h
    · cases h
    · rename_i hd
      split at h
      · rename_i hw
        obtain ⟨hn, ih⟩ := opsD_sound hg hrest h
        refine ⟨hn, fun {β w act} hr hs hgl hf hdr hnt c₀ cs Q hm hQ => ?_⟩
        rw [hcons]
        simp only [wpOpsSIn, hoo, wants_rel hr, hw, Bool.false_eq_true, if_false]
        exact ⟨fun _ _ => trivial, ih (hr.put' VR.undef hd hnt) hs hgl hf (by rw [put_defers]; exact hdr) (by rw [put_size]; exact hnt) hm fun γ w' act' h1 h2 h3 h4 h5 => hQ γ w' act' h1 h2 h3 h4 (by rw [h5, put_size])⟩
      · rename_i hw
        split at h
        · rename_i hrec
          obtain ⟨hn, ih⟩ := opsD_sound hg hrest h
          refine ⟨hn, fun {β w act} hr hs hgl hf hdr hnt c₀ cs Q hm hQ => ?_⟩
          rw [hcons]
          simp only [wpOpsSIn, hoo, wants_rel hr, hw, if_true, recover_run hrec, recoverD_none hm]
          exact ⟨fun _ _ => trivial, ih (hr.put' (by simp [VR]) hd hnt) hs hgl hf (by rw [put_defers]; exact hdr) (by rw [put_size]; exact hnt) hm fun γ w' act' h1 h2 h3 h4 h5 => hQ γ w' act' h1 h2 h3 h4 (by rw [h5, put_size])⟩
        · split at h
          · cases h
          · rename_i vs hvs
            split at h
            · rename_i v t hst
              have hn1 := exec_n hst
              obtain ⟨hn, ih⟩ := opsD_sound hg hrest h
              dsimp only [R.st] at hn hn1
              refine ⟨Nat.le_trans hn1 hn, fun {β w act} hr hs hgl hf hdr hnt c₀ cs Q hm hQ => ?_⟩
              obtain ⟨γ, x, w', hrun, hx, hrel, hstep⟩ := exec_sound hg hs hst (vals_rel hgl hr hvs) (fun b h1 h2 => hf b h1 (Nat.lt_of_lt_of_le h2 hn))
              rw [hcons]
              simp only [wpOpsSIn, hoo, wants_rel hr, hw, if_true, hrun]
              exact ⟨fun _ _ => trivial, ih ((hr.mono hstep.le).put' hx hd hnt) hrel (hgl.mono hstep.le) (hf.next hstep) (by rw [put_defers]; exact hdr.mono hstep.le) (by rw [put_size]; exact hnt) hm fun δ w'' act' h1 h2 h3 h4 h5 => hQ δ w'' act' h1 h2 (hstep.trans h3) h4 (by rw [h5, put_size])⟩
            · rename_i t hst
              have hn1 := exec_n hst
              obtain ⟨hn, ih⟩ := opsD_sound hg hrest h
              dsimp only [R.st] at hn hn1
              refine ⟨Nat.le_trans hn1 hn, fun {β w act} hr hs hgl hf hdr hnt c₀ cs Q hm hQ => ?_⟩
              obtain ⟨γ, w', hrun, hrel, hstep⟩ := exec_sound hg hs hst (vals_rel hgl hr hvs) (fun b h1 h2 => hf b h1 (Nat.lt_of_lt_of_le h2 hn))
              rw [hcons]
              simp only [wpOpsSIn, hoo, wants_rel hr, hw, if_true, hrun]
              exact ⟨fun _ _ => trivial, ih ((hr.mono hstep.le).put' VR.undef hd hnt) hrel (hgl.mono hstep.le) (hf.next hstep) (by rw [put_defers]; exact hdr.mono hstep.le) (by rw [put_size]; exact hnt) hm fun δ w'' act' h1 h2 h3 h4 h5 => hQ δ w'' act' h1 h2 (hstep.trans h3) h4 (by rw [h5, put_size])⟩
            · cases h

/-- What a deferred function's code is worth. -/
def GoodD (P : Program) (g : G) (nt : Nat) (c : Code) (a : A) (x : X) (a1 : A) : Prop :=
  a.s.n ≤ a1.s.n ∧ ∀ {β : Ren} {w : World} {act : Act}, RR β a.r act.tmps → Rel β a.s w → GloOK g β → Free β a.s a1.s → DR β a.d act.defers → nt ≤ act.tmps.size → ∀ {c₀ : Frame} {cs : List Frame} {Q : Exit → Act → List Frame → World → Prop}, c₀.mode = .returning →
    (∀ γ w' act', RR γ a1.r act'.tmps → Rel γ a1.s w' → Step β a.s w γ a1.s w' → DR γ a1.d act'.defers → act'.tmps.size = act.tmps.size → Q x.toExit act' (c₀ :: cs) w') → c.wpSIn Fence.wide 0 P Q act (c₀ :: cs) w

theorem codeD_plain (hg : GOK P g) (hcf : CS P g cf) {nt f : Nat} {c : Code} {a a1 : A} {x : X} (h : code g cf none nt f c a = some (x, a1)) : GoodD P g nt c a x a1 := by
  obtain ⟨n1, g1⟩ := (code_sound hg hcf f c a x a1 h).1
  exact ⟨n1, fun {β w act} hr hs hgl hf hdr hnt c₀ cs Q hm hQ => wpSIn_of_wpIn rfl (g1 (ro := none) rfl hr hs hgl hf hdr hnt hQ)⟩

theorem codeD_sound (hg : GOK P g) (hcf : CS P g cf) {nt : Nat} : ∀ (f : Nat) (c : Code) (a : A) (x : X) (a1 : A), codeD g cf nt f c a = some (x, a1) → GoodD P g nt c a x a1
  | 0, c, a, x, a1, h => by simp [codeD] at h
  | f + 1, c, a, x, a1, h => by
    simp only [codeD] at h
    split at h
    · rename_i y z
      split at h
      · rename_i a2 h1
        obtain ⟨n1, g1⟩ := codeD_sound hg hcf f _ _ _ _ h1
        obtain ⟨n2, g2⟩ := codeD_sound hg hcf f _ _ _ _ h
        refine ⟨Nat.le_trans n1 n2, fun {β w act} hr hs hgl hf hdr hnt c₀ cs Q hm hQ => wpSIn_seq (g1 hr hs hgl (hf.le n2) hdr hnt hm fun γ w' act' q1 q2 q3 q4 q5 => ?_)⟩
        exact g2 q1 q2 (hgl.mono q3.le) (hf.next q3) q4 (by rw [q5]; exact hnt) hm fun δ w'' act'' p1 p2 p3 p4 p5 => hQ δ w'' act'' p1 p2 (q3.trans p3) p4 (p5.trans q5)
      · rename_i o hno
        obtain ⟨n1, g1⟩ := codeD_sound hg hcf f _ _ _ _ h
        refine ⟨n1, fun {β w act} hr hs hgl hf hdr hnt c₀ cs Q hm hQ => wpSIn_seq (g1 hr hs hgl hf hdr hnt hm fun γ w' act' q1 q2 q3 q4 q5 => ?_)⟩
        have := hQ γ w' act' q1 q2 q3 q4 q5
        cases x with
        | normal => exact absurd h (hno _)
        | exit i => exact this
        | ret => exact this
    · rename_i cnd y z
      split at h
      · rename_i hc
        obtain ⟨n1, g1⟩ := codeD_sound hg hcf f _ _ _ _ h
        exact ⟨n1, fun {β w act} hr hs hgl hf hdr hnt c₀ cs Q hm hQ => wpSIn_cond (t := true) (by simpa [VR] using val_rel hgl hr hc) (g1 hr hs hgl hf hdr hnt hm hQ)⟩
      · rename_i hc
        obtain ⟨n1, g1⟩ := codeD_sound hg hcf f _ _ _ _ h
        exact ⟨n1, fun {β w act} hr hs hgl hf hdr hnt c₀ cs Q hm hQ => wpSIn_cond (t := false) (by simpa [VR] using val_rel hgl hr hc) (g1 hr hs hgl hf hdr hnt hm hQ)⟩
      · cases h
    · rename_i i l
      split at h
      · split at h
        · rename_i a2 hd
          simp only [Option.some.injEq, Prod.mk.injEq] at h
          obtain ⟨rfl, rfl⟩ := h
          obtain ⟨hn, hd⟩ := opsD_sound hg (k := 0) (by simp) hd
          exact ⟨hn, fun {β w act} hr hs hgl hf hdr hnt c₀ cs Q hm hQ => wpSIn_region (by simpa using hd hr hs hgl hf hdr hnt hm hQ)⟩
        · cases h
      · exact codeD_plain hg hcf h
    · exact codeD_plain hg hcf h

theorem callD_sound (hg : GOK P g) (hcf : CS P g cf) {fuel : Nat} {fn : FuncId} {args : List AV} {s t : S} (h : callD g cf fuel fn args s = some t) : s.n ≤ t.n ∧ ∀ {β : Ren} {w : World} {args' : List Value},
    VRs β args args' → Rel β s w → GloOK g β → Free β s t → CallsDIn Fence.wide 0 P fn args'.toArray .returning w fun e u' w' => ∃ v, e = .returned v ∧ u' = .returning ∧ ∃ γ, Rel γ t w' ∧ Step β s w γ t w' := by
  unfold callD at h
  split at h
  · cases h
  · rename_i F hF
    split at h
    · cases h
    · rename_i b hb
      have fin : ∀ x a1, (x = .normal ∨ x = .ret) → codeD g cf F.ntmps fuel b { r := T.ofList args 0 .e, s := s, d := [] } = some (x, a1) → a1.d = [] → (∃ l, results g a1.r a1.s F.results.toList = some l) → t = a1.s →
          s.n ≤ t.n ∧ ∀ {β : Ren} {w : World} {args' : List Value}, VRs β args args' → Rel β s w → GloOK g β → Free β s t → CallsDIn Fence.wide 0 P fn args'.toArray .returning w fun e u' w' => ∃ v, e = .returned v ∧ u' = .returning ∧ ∃ γ, Rel γ t w' ∧ Step β s w γ t w' := by
        rintro x a1 hx hc hd ⟨l, hl⟩ rfl
        obtain ⟨n1, g1⟩ := codeD_sound hg hcf fuel _ _ _ _ hc
        refine ⟨n1, fun {β w args'} hv hs hgl hf => callsDIn_of_wpSIn (hg.fns _ _ hF) hb trivial fun c₀ cs hm => g1 (act := { tmps := args'.toArray ++ Array.replicate (F.ntmps - args'.toArray.size) Go.undef, defers := [] }) (RR.enter hv _) hs hgl hf rfl ?_ hm fun γ w' act' q1 q2 q3 q4 q5 => ?_⟩
        · simp; omega
        · obtain ⟨y, hy, hvy⟩ := run_results_all hg q2 (hgl.mono q3.le) q1 hl
          rw [hd] at q4
          have hc₀ : c₀ :: cs = { c₀ with mode := .returning } :: cs := by rw [← hm]
          rcases hx with rfl | rfl
          · exact ⟨q4, .returning, hc₀, y, hy, y, rfl, rfl, γ, q2, q3⟩
          · exact ⟨q4, .returning, hc₀, y, hy, y, rfl, rfl, γ, q2, q3⟩
      split at h
      · rename_i a1 hc
        split at h
        · rename_i hd hl
          injection h with h
          exact fin .normal a1 (.inl rfl) hc hd ⟨_, hl⟩ h.symm
        · cases h
      · rename_i a1 hc
        split at h
        · rename_i hd hl
          injection h with h
          exact fin .ret a1 (.inr rfl) hc hd ⟨_, hl⟩ h.symm
        · cases h
      · cases h

theorem leave_sound (hg : GOK P g) (hcf : CS P g cf) {fuel : Nat} : ∀ {ds : List AD} {s t : S}, leave g cf fuel ds s = some t → s.n ≤ t.n ∧ ∀ {β : Ren} {w : World} {ds' : List Deferred} {fn : Func} {tmps : Array Value} {R : Ending → World → Prop},
    DR β ds ds' → Rel β s w → GloOK g β → Free β s t → (∀ γ w', Rel γ t w' → Step β s w γ t w' → ∃ v, (Go.results fn tmps).run P w' = .ok v w' ∧ R (.returned v) w') → LeavesInM Fence.wide 0 P fn tmps R ds' .returning w
  | [], s, t, h => by
    simp only [leave, Option.some.injEq] at h
    subst h
    refine ⟨Nat.le_refl _, fun {β w ds' fn tmps R} hd hs _ _ hR => ?_⟩
    simp only [DR] at hd
    subst hd
    exact hR _ _ hs .refl
  | .coll b :: ds, s, t, h => by
    simp only [leave] at h
    split at h
    · rename_i hb
      obtain ⟨n1, ih⟩ := leave_sound hg hcf h
      refine ⟨n1, fun {β w ds' fn tmps R} hd hs hgl hf hR => ?_⟩
      obtain ⟨d, r, ⟨i, hi, rfl⟩, hr, rfl⟩ := hd
      obtain ⟨_, j, hj, hh, hxt⟩ := hs.obj _ _ hb
      rw [hi] at hj
      injection hj with hj
      subst hj
      simp only [if_true] at hh
      have hlt : i.blk < w.heap.size := (Array.getElem?_eq_some_iff.1 hh).1
      obtain ⟨k1, k2⟩ := hs.change (o' := .dfr false) (w' := w.putObj i.blk (.deferred none)) hb hi ⟨by simpa using World.putObj_heap_same hlt, hxt⟩ World.putObj_size (fun q hq => World.putObj_heap_other hq) (putObj_same _ _ _)
      refine ⟨by simp, .inl ⟨i.blk, _, rfl, run_takeDeferred hh, ih hr k1 hgl hf fun γ w' h1 h2 => hR γ w' h1 (k2.trans h2)⟩⟩
    · cases h
  | .fn f args cap :: ds, s, t, h => by
    simp only [leave] at h
    split at h
    · rename_i f' args2 s2 hcall
      split at h
      · rename_i s3 hcd
        obtain ⟨n1, ih⟩ := leave_sound hg hcf h
        obtain ⟨n2, hc⟩ := callD_sound hg hcf hcd
        have n3 : s.n ≤ s2.n := callFn_n hcall
        refine ⟨by omega, fun {β w ds' fn tmps R} hd hs hgl hf hR => ?_⟩
        obtain ⟨d, r, ⟨xs, ys, hxs, hys, rfl⟩, hr, rfl⟩ := hd
        obtain ⟨args', hrun, hva, hs2e⟩ := ex_callFn (w := w) hg hs hcall (hxs.append hys) (by
          have : Ev.R.st (Ev.R.enter f' args2 s2) = s2 := rfl
          rw [this]
          exact hf.le (by omega))
        subst hs2e
        have hinv : (Go.invoke (.fn (.func f) ys.toArray) xs.toArray).run P w = .ok (.enter f' args'.toArray) w := by
          have : xs.toArray ++ ys.toArray = (xs ++ ys).toArray := by simp
          simp only [Go.invoke]
          rw [this]
          exact hrun
        refine ⟨by simp, .inr ⟨fun h => by simp [Fence.wide] at h, .func f, ys.toArray, f', args'.toArray, rfl, hinv, fun _ _ => trivial, (hc hva hs hgl (hf.le n1)).mono ?_⟩⟩
        rintro e u' w' ⟨v, rfl, rfl, γ, h1, h2⟩
        exact ih (hr.mono h2.le) h1 (hgl.mono h2.le) (hf.next h2) fun δ w'' h3 h4 => hR δ w'' h3 (h2.trans h4)
      · cases h
    · cases h

theorem callB_sound (hg : GOK P g) {cf : CF} (ih : CS P g cf) (fuel : Nat) : CS P g (callB g cf fuel) := by
    intro j s v t h
    simp only [callB] at h
    split at h
    · exact round_sound hg ih h
    · rename_i fn args
      split at h
      · cases h
      · rename_i F hF
        split at h
        · cases h
        · rename_i b hb
          have fin : ∀ x a1, (x = .normal ∨ x = .ret) → code g cf none F.ntmps fuel b { r := T.ofList args 0 .e, s := s, d := [] } = some (x, a1) → ends g cf fuel F a1 = some (v, t) →
              s.n ≤ t.n ∧ ∀ β w, Rel β s w → GloOK g β → Free β s t → ∀ args', VRs β args args' → Calls P fn args'.toArray w (EndR β s w v t) := by
            intro x a1 hx hc he
            obtain ⟨n1, g1⟩ := (code_sound hg ih fuel _ _ _ _ hc).1
            unfold ends at he
            split at he
            · rename_i s' hlv
              split at he
              · rename_i l hl
                injection he with he
                injection he with e1 e2
                subst e1; subst e2
                obtain ⟨n2, g2⟩ := leave_sound hg ih hlv
                refine ⟨Nat.le_trans n1 n2, fun β w hs hgl hf args' hv => callsIn_wide.1 (callsIn_of_wp_marks (hg.fns _ _ hF) hb trivial (g1 (ro := none) (act := { tmps := args'.toArray ++ Array.replicate (F.ntmps - args'.toArray.size) Go.undef, defers := [] }) rfl (RR.enter hv _) hs hgl (hf.le n2) rfl ?_ fun γ w' act' q1 q2 q3 q4 q5 => ?_))⟩
                · simp; omega
                · have key : LeavesInM Fence.wide 0 P F act'.tmps (EndR β s w (tup l) s') act'.defers .returning w' := by
                    refine g2 q4 q2 (hgl.mono q3.le) (hf.next q3) fun δ w'' p1 p2 => ?_
                    obtain ⟨y, hy, hvy⟩ := run_results_all hg p1 (hgl.mono (q3.le.trans p2.le)) (q1.mono p2.le) hl
                    exact ⟨y, hy, δ, y, rfl, hvy, p1, q3.trans p2⟩
                  rcases hx with rfl | rfl
                  · exact key
                  · exact key
              · cases he
            · cases he
          split at h
          · rename_i a1 hc
            exact fin .normal a1 (.inl rfl) hc h
          · rename_i a1 hc
            exact fin .ret a1 (.inr rfl) hc h
          · cases h

theorem call_sound (hg : GOK P g) (fuel : Nat) : ∀ d, CS P g (call g fuel d)
  | 0 => fun _ _ _ _ h => by simp [call] at h
  | d + 1 => callB_sound hg (call_sound hg fuel d) fuel
end

/-- Does the evaluator say that the call returns true? -/
def saysTrue (P : Program) (fuel d : Nat) (f : FuncId) : Bool := match call (ofProg P) fuel d (.fn f []) s0 with
  | some (.bool true, _) => true
  | _ => false

/-- A CALL WITHOUT ARGUMENTS OF WHICH THE EVALUATOR SAYS THAT IT RETURNS TRUE DOES SO, in whatever world; what there was stands. -/
theorem calls_true {P : Program} (hm : P.follows .mixedOrders = true) {fuel d : Nat} {f : FuncId} (h : saysTrue P fuel d f = true) (w : World) :
    Calls P f #[] w fun e w' => e = .returned (.bool true) ∧ Below w.heap.size w w' := by
  unfold saysTrue at h
  split at h
  · rename_i t hc
    have hs : Rel (fun _ => none) s0 w := ⟨fun b o hb => by simp [s0, T.get] at hb, fun b c o p i j hb => by simp [s0, T.get] at hb⟩
    refine ((call_sound (gok_ofProg hm) fuel d (.fn f []) s0 _ _ hc).2 (fun _ => none) w hs (fun x b hb => by simp [ofProg, T.get] at hb) (fun _ _ _ => rfl) [] VRs.nil).mono ?_
    rintro e w' ⟨γ, x, rfl, hx, hrel, hst⟩
    simp only [VR] at hx
    subst hx
    exact ⟨rfl, hst.env.1, hst.env.2.1, hst.env.2.2, hst.size, fun k hk => hst.keep k hk fun b o i hb => by simp [s0, T.get] at hb⟩
  · cases h

end Go.Proofs.YtgfbjbdfckgdjaaGreatDoor.Ev

namespace Go.Proofs.YtgfbjbdfckgdjaaGreatDoor.Ev
open Go.RowKit

/-- A call that was evaluated by itself: what it looks at; what it gives; the new objects that count. -/
structure Memo where
  f : FuncId
  args : List AV
  n : Nat
  old : List (Nat × AO)
  v : AV
  m : Nat
  new : List (Nat × AO)

def setAll : List (Nat × AO) → T AO → T AO
  | [], h => h
  | p :: l, h => setAll l (h.set p.1 (some p.2))

def allAt (h : T AO) (l : List (Nat × AO)) : Bool := l.all fun p => AO.beq (h.get p.1) (some p.2)

def Memo.st (m : Memo) : S := { h := setAll m.old .e, n := m.n }
def Memo.fin (m : Memo) (s : S) : S := { h := setAll m.new s.h, n := m.m }

def look : List Memo → Job → S → Option (AV × S)
  | [], _, _ => none
  | m :: M, j, s => match j with
    | .fn f args => match Nat.beq f m.f && Nat.beq s.n m.n with
      | true => match AV.beqs args m.args && allAt s.h m.old with
        | true => some (m.v, m.fin s)
        | false => look M j s
      | false => look M j s
    | .rnd _ _ => none

/-- The library's search for a text in a text (it reads a variable whose value is not known: object 0). -/
def orc (g : G) (j : Job) (s : S) : Option (AV × S) := match g.ix with
  | none => none
  | some fi => match j with
    | .fn f args => match Nat.beq f fi with
      | false => none
      | true => match args with
        | [.str l, .str sub] => match Nat.blt l.length 4294967281 with
          | true => match s.h.get 0 with
            | some .anyInt => some (.int .i64 (Lib.index l sub), s)
            | _ => none
          | false => none
        | _ => none
    | .rnd _ _ => none

/-- Calls, of which some were evaluated by themselves. -/
def callM (g : G) (M : List Memo) (fuel : Nat) : Nat → CF
  | 0 => fun _ _ => none
  | d + 1 => fun j s => match orc g j s with
    | some r => some r
    | none => match look M j s with
      | some r => some r
      | none => callB g (callM g M fuel d) fuel j s

/-- Does the evaluator say what is noted of a call? -/
def Memo.says (g : G) (M : List Memo) (fuel d : Nat) (m : Memo) : Bool := match callM g M fuel d (.fn m.f m.args) m.st with
  | some (v, t) => AV.beq v m.v && Nat.beq t.n m.m && allAt t.h m.old && allAt t.h m.new && (m.old.all fun p => Nat.blt p.1 m.n) && m.new.all fun p => Nat.ble m.n p.1 && Nat.blt p.1 m.m
  | none => false

/-- What is noted of a call is right. -/
structure MemoOK (P : Program) (g : G) (m : Memo) : Prop where
  le : m.n ≤ m.m
  old : ∀ p ∈ m.old, p.1 < m.n
  new : ∀ p ∈ m.new, m.n ≤ p.1 ∧ p.1 < m.m
  call : ∀ β w, Rel β m.st w → GloOK g β → (∀ b, m.n ≤ b → b < m.m → β b = none) → ∀ args', VRs β m.args args' →
    Calls P m.f args'.toArray w fun e w' => ∃ γ x t, e = .returned x ∧ VR γ m.v x ∧ Rel γ t w' ∧ Step β m.st w γ t w' ∧ t.n = m.m ∧ (∀ p ∈ m.old, t.h.get p.1 = some p.2) ∧ ∀ p ∈ m.new, t.h.get p.1 = some p.2

theorem setAll_get : ∀ (l : List (Nat × AO)) (h : T AO) (b : Nat) (o : AO), (setAll l h).get b = some o → (b, o) ∈ l ∨ h.get b = some o
  | [], h, b, o, hb => .inr hb
  | p :: l, h, b, o, hb => by
    rcases setAll_get l _ b o hb with h1 | h1
    · exact .inl (List.mem_cons_of_mem _ h1)
    · rw [T.get_set] at h1
      split at h1
      · rename_i e
        injection h1 with h1
        subst e; subst h1
        exact .inl List.mem_cons_self
      · exact .inr h1

theorem allAt_spec {h : T AO} {l : List (Nat × AO)} (k : allAt h l = true) : ∀ p ∈ l, h.get p.1 = some p.2 := fun p hp => AO.beq_eq (List.all_eq_true.1 k p hp)

section
variable {P : Program} {g : G}

theorem Memo.frame {m : Memo} (hm : MemoOK P g m) {s : S} (hn : s.n = m.n) (ho : ∀ p ∈ m.old, s.h.get p.1 = some p.2) :
    s.n ≤ (m.fin s).n ∧ ∀ β w, Rel β s w → GloOK g β → Free β s (m.fin s) → ∀ args', VRs β m.args args' → Calls P m.f args'.toArray w (EndR β s w m.v (m.fin s)) := by
  refine ⟨by rw [hn]; exact hm.le, fun β w hs hgl hf args' hv => ?_⟩
  have hRget : ∀ b q, m.st.h.get b = some q → (b, q) ∈ m.old := by
    intro b q hb
    rcases setAll_get _ _ _ _ hb with h1 | h1
    · exact h1
    · simp [T.get] at h1
  have hRs : ∀ b q, m.st.h.get b = some q → s.h.get b = some q := fun b q hb => ho _ (hRget b q hb)
  have hrelR : Rel β m.st w := ⟨fun b q hb => ⟨hm.old _ (hRget b q hb), (hs.obj b q (hRs b q hb)).2⟩, fun b d q p x y hb hd => hs.inj b d q p x y (hRs b q hb) (hRs d p hd)⟩
  refine (hm.call β w hrelR hgl (fun b h1 h2 => hf b (by rw [hn]; exact h1) h2) args' hv).mono ?_
  rintro e w' ⟨γ, x, t, rfl, hx, hrel, hstep, htn, hto, htw⟩
  have hfin : ∀ b q, (m.fin s).h.get b = some q → (b, q) ∈ m.new ∨ s.h.get b = some q := fun b q hb => setAll_get _ _ _ _ hb
  have hback : ∀ b q j, s.h.get b = some q → γ b = some j → β b = some j ∧ OR β j w q := by
    intro b q j hb hj
    obtain ⟨_, i0, hi0, hor0⟩ := hs.obj b q hb
    have := hstep.le _ _ hi0
    rw [hj] at this
    injection this with this
    subst this
    exact ⟨hi0, hor0⟩
  have hinto : ∀ b q, m.st.h.get b = some q → t.h.get b = some q := fun b q hb => hto _ (hRget b q hb)
  have hnewblk : ∀ b q j, (b, q) ∈ m.new → γ b = some j → w.heap.size ≤ j.blk := by
    intro b q j hb hj
    rcases Nat.lt_or_ge j.blk w.heap.size with h4 | h4
    · exfalso
      obtain ⟨d, r, y, hd, hy, ey⟩ := hstep.old _ _ _ (htw _ hb) hj h4
      have := hrel.inj d b r q y j (hinto d r hd) (htw _ hb) (hstep.le _ _ hy) hj ey
      have h5 := hm.old _ (hRget d r hd)
      have h6 := (hm.new _ hb).1
      dsimp only at h5 h6
      omega
    · exact h4
  have holdblk : ∀ b q j, s.h.get b = some q → γ b = some j → j.blk < w.heap.size := fun b q j hb hj => (hback b q j hb hj).2.lt
  refine ⟨γ, x, rfl, hx, ⟨fun b q hb => ?_, fun b d q r y z hb hd hy hz eyz => ?_⟩, ⟨hstep.le, by rw [hn]; exact hm.le, hstep.size, fun k hk hno => hstep.keep k hk fun b o i hb hi => hno b o i (hRs b o hb) hi, fun b q j hb hj hlt => ?_, fun b i hb => ?_, hstep.env⟩⟩
  · rcases hfin b q hb with h1 | h1
    · exact ⟨(hm.new _ h1).2, (hrel.obj b q (htw _ h1)).2⟩
    · obtain ⟨hlt, j, hj, hor⟩ := hs.obj b q h1
      refine ⟨Nat.lt_of_lt_of_le hlt (by rw [hn]; exact hm.le), j, hstep.le _ _ hj, ?_⟩
      by_cases hmem : ∃ q', m.st.h.get b = some q'
      · obtain ⟨q', hq'⟩ := hmem
        have e1 := hRs b q' hq'
        rw [h1] at e1
        injection e1 with e1
        subst e1
        obtain ⟨_, j', hj', hor'⟩ := hrel.obj b q (hinto b q hq')
        have := hstep.le _ _ hj
        rw [hj'] at this
        injection this with this
        subst this
        exact hor'
      · refine (hor.keep (hstep.keep _ hor.lt fun b' o' j' hb' hj' ej => ?_)).mono hstep.le
        have := hs.inj b' b o' q j' j (hRs b' o' hb') h1 hj' hj ej
        subst this
        exact hmem ⟨_, hb'⟩
  · rcases hfin b q hb with h1 | h1 <;> rcases hfin d r hd with h2 | h2
    · exact hrel.inj b d q r y z (htw _ h1) (htw _ h2) hy hz eyz
    · have := hnewblk b q y h1 hy
      have := holdblk d r z h2 hz
      omega
    · have := hnewblk d r z h2 hz
      have := holdblk b q y h1 hy
      omega
    · exact hs.inj b d q r y z h1 h2 (hback b q y h1 hy).1 (hback d r z h2 hz).1 eyz
  · rcases hfin b q hb with h1 | h1
    · have := hnewblk b q j h1 hj
      omega
    · exact ⟨b, q, j, h1, (hback b q j h1 hj).1, rfl⟩
  · rcases hstep.dom b i hb with h1 | ⟨h1, h2⟩
    · exact .inl h1
    · exact .inr ⟨by rw [hn]; exact h1, by rw [htn] at h2; exact h2⟩

theorem look_sound {M : List Memo} (hM : ∀ m ∈ M, MemoOK P g m) : CS P g (look M) := by
  induction M with
  | nil => intro j s v t h; simp [look] at h
  | cons m M ih =>
    intro j s v t h
    have ih' := ih fun m' h' => hM m' (List.mem_cons_of_mem _ h')
    simp only [look] at h
    split at h
    · rename_i f args
      split at h
      · rename_i hc1
        simp only [Bool.and_eq_true] at hc1
        split at h
        · rename_i hc2
          simp only [Bool.and_eq_true] at hc2
          injection h with h
          injection h with h1 h2
          subst h1; subst h2
          have e1 := Nat.eq_of_beq_eq_true hc1.1
          have e2 := Nat.eq_of_beq_eq_true hc1.2
          have e3 := AV.beqs_eq _ _ hc2.1
          subst e1; subst e3
          exact Memo.frame (hM m List.mem_cons_self) e2 (allAt_spec hc2.2)
        · exact ih' _ _ _ _ h
      · exact ih' _ _ _ _ h
    · cases h

theorem orc_sound (hg : GOK P g) : CS P g (orc g) := by
  intro j s v t h
  unfold orc at h
  split at h
  · cases h
  · rename_i fi hix
    split at h
    · rename_i f args
      split at h
      · cases h
      · rename_i hf
        have hf := Nat.eq_of_beq_eq_true hf
        subst hf
        split at h
        · rename_i l sub
          split at h
          · rename_i hlen
            split at h
            · rename_i h0
              injection h with h
              injection h with h1 h2
              subst h1; subst h2
              refine ⟨Nat.le_refl _, fun β w hs hgl hf args' hv => ?_⟩
              obtain ⟨gl, hg0, hc⟩ := hg.ix _ hix
              obtain ⟨i, hi, e⟩ := hgl gl 0 hg0
              obtain ⟨_, i', hi', hor⟩ := hs.obj _ _ h0
              rw [hi] at hi'
              injection hi' with hi'
              subst hi'
              obtain ⟨m, e', f1, f2, hb, _⟩ := hor
              rw [e.1] at hb
              obtain ⟨x, r, hx, ⟨y, r', hy, hr', rfl⟩, rfl⟩ := hv
              simp only [VR] at hx hy
              subst hx; subst hy
              simp only [VRs] at hr'
              subst hr'
              refine (hc l sub w m e' (f1, f2) (Nat.le_of_ble_eq_true hlen) hb).mono ?_
              rintro x' w' ⟨rfl, rfl⟩
              exact ⟨β, _, rfl, rfl, hs, .refl⟩
            · cases h
          · cases h
        · cases h
    · cases h

theorem callM_sound (hg : GOK P g) {M : List Memo} (hM : ∀ m ∈ M, MemoOK P g m) (fuel : Nat) : ∀ d, CS P g (callM g M fuel d)
  | 0 => fun _ _ _ _ h => by simp [callM] at h
  | d + 1 => by
    intro j s v t h
    simp only [callM] at h
    split at h
    · rename_i r hl
      injection h with h
      subst h
      exact orc_sound hg _ _ _ _ hl
    · split at h
      · rename_i r hl
        injection h with h
        subst h
        exact look_sound hM _ _ _ _ hl
      · exact callB_sound hg (callM_sound hg hM fuel d) fuel _ _ _ _ h

theorem Memo.ok (hg : GOK P g) {M : List Memo} (hM : ∀ m ∈ M, MemoOK P g m) {fuel d : Nat} {m : Memo} (h : m.says g M fuel d = true) : MemoOK P g m := by
  unfold Memo.says at h
  split at h
  · rename_i v t hc
    simp only [Bool.and_eq_true] at h
    obtain ⟨⟨⟨⟨⟨h1, h2⟩, h3⟩, h4⟩, h5⟩, h6⟩ := h
    have e1 := AV.beq_eq _ _ h1
    have e2 := Nat.eq_of_beq_eq_true h2
    subst e1
    obtain ⟨hle, hcs⟩ := callM_sound hg hM fuel d _ _ _ _ hc
    refine ⟨by rw [← e2]; exact hle, fun p hp => Nat.le_of_ble_eq_true (List.all_eq_true.1 h5 p hp), fun p hp => ?_, fun β w hs hgl hf args' hv => ?_⟩
    · have := List.all_eq_true.1 h6 p hp
      simp only [Bool.and_eq_true] at this
      exact ⟨Nat.le_of_ble_eq_true this.1, Nat.le_of_ble_eq_true this.2⟩
    · refine (hcs β w hs hgl (fun b k1 k2 => hf b k1 (by rw [← e2]; exact k2)) args' hv).mono ?_
      rintro e w' ⟨γ, x, rfl, hx, hrel, hstep⟩
      exact ⟨γ, x, t, rfl, hx, hrel, hstep, e2, allAt_spec h3, allAt_spec h4⟩
  · cases h
end

/-- Does the evaluator say that the call returns true? -/
def saysTrueM (P : Program) (M : List Memo) (fuel d : Nat) (f : FuncId) : Bool := match callM (ofProg P) M fuel d (.fn f []) s0 with
  | some (.bool true, _) => true
  | _ => false

/-- A CALL WITHOUT ARGUMENTS OF WHICH THE EVALUATOR SAYS THAT IT RETURNS TRUE DOES SO, in whatever world; what there was stands. -/
theorem callsM_true {P : Program} (hm : P.follows .mixedOrders = true) {M : List Memo} (hM : ∀ m ∈ M, MemoOK P (ofProg P) m) {fuel d : Nat} {f : FuncId} (h : saysTrueM P M fuel d f = true) (w : World) :
    Calls P f #[] w fun e w' => e = .returned (.bool true) ∧ Below w.heap.size w w' := by
  unfold saysTrueM at h
  split at h
  · rename_i t hc
    have hs : Rel (fun _ => none) s0 w := ⟨fun b o hb => by simp [s0, T.get] at hb, fun b c o p i j hb => by simp [s0, T.get] at hb⟩
    refine ((callM_sound (gok_ofProg hm) hM fuel d (.fn f []) s0 _ _ hc).2 (fun _ => none) w hs (fun x b hb => by simp [ofProg, T.get] at hb) (fun _ _ _ => rfl) [] VRs.nil).mono ?_
    rintro e w' ⟨γ, x, rfl, hx, hrel, hst⟩
    simp only [VR] at hx
    subst hx
    exact ⟨rfl, hst.env.1, hst.env.2.1, hst.env.2.2, hst.size, fun k hk => hst.keep k hk fun b o i hb => by simp [s0, T.get] at hb⟩
  · cases h

/-- The same with the search known: gl is the block of the variable that it reads. -/
def ofProgX (P : Program) (gl : Nat) (fi : FuncId) : G := { ofProg P with glo := T.set .e gl (some 0), ix := some fi }
def s0X : S := { h := T.set .e 0 (some .anyInt), n := 1 }

def saysTrueX (P : Program) (gl : Nat) (fi : FuncId) (M : List Memo) (fuel d : Nat) (f : FuncId) : Bool := match callM (ofProgX P gl fi) M fuel d (.fn f []) s0X with
  | some (.bool true, t) => AO.beq (t.h.get 0) (some .anyInt)
  | _ => false

theorem gok_ofProgX {P : Program} (hm : P.follows .mixedOrders = true) {gl : Nat} {fi : FuncId}
    (hix : ∀ (l sub : List UInt8) (w : World) (m : Int) (e : TypeId) (fz : Nat × Nat), l.length < 4294967281 → w.heap[gl]? = some (.cells #[.int .i64 m] e fz) →
      Calls P fi #[.string ⟨l.toArray⟩, .string ⟨sub.toArray⟩] w fun x w' => x = .returned (.int .i64 (Lib.index l sub)) ∧ w' = w) : GOK P (ofProgX P gl fi) :=
  let h := gok_ofProg hm
  { prog := h.prog, fns := h.fns, tys := h.tys, mixed := h.mixed, ix := fun fj hj => by
      have : fi = fj := by simpa [ofProgX] using hj
      subst this
      exact ⟨gl, by simp [ofProgX, T.get_set], hix⟩ }

/-- A CALL WITHOUT ARGUMENTS OF WHICH THE EVALUATOR SAYS THAT IT RETURNS TRUE DOES SO, in whatever world in which the search's variable holds a number; what there was stands. -/
theorem callsX_true {P : Program} (hm : P.follows .mixedOrders = true) {gl : Nat} {fi : FuncId}
    (hix : ∀ (l sub : List UInt8) (w : World) (m : Int) (e : TypeId) (fz : Nat × Nat), l.length < 4294967281 → w.heap[gl]? = some (.cells #[.int .i64 m] e fz) →
      Calls P fi #[.string ⟨l.toArray⟩, .string ⟨sub.toArray⟩] w fun x w' => x = .returned (.int .i64 (Lib.index l sub)) ∧ w' = w)
    {M : List Memo} (hM : ∀ m ∈ M, MemoOK P (ofProgX P gl fi) m) {fuel d : Nat} {f : FuncId} (h : saysTrueX P gl fi M fuel d f = true) (w : World) {m : Int} {e f1 f2 : Nat} (hw : w.heap[gl]? = some (.cells #[.int .i64 m] e (f1, f2))) :
    Calls P f #[] w fun x w' => x = .returned (.bool true) ∧ Below w.heap.size w w' := by
  unfold saysTrueX at h
  split at h
  · rename_i t hc
    have ht := AO.beq_eq h
    generalize hi : (⟨gl, e, pairN f1 f2, codeI m, 0⟩ : Info) = i
    have hor : ∀ β, OR β i w .anyInt := fun β => by subst hi; exact ⟨m, e, f1, f2, hw, rfl, rfl, rfl⟩
    have hget : ∀ b o, s0X.h.get b = some o → b = 0 ∧ o = .anyInt := by
      intro b o hb
      unfold s0X at hb
      dsimp only at hb
      rw [T.get_set] at hb
      split at hb
      · injection hb with hb; exact ⟨by assumption, hb.symm⟩
      · simp [T.get] at hb
    have hs : Rel (fun b => if b = 0 then some i else none) s0X w := ⟨fun b o hb => by
      obtain ⟨rfl, rfl⟩ := hget b o hb
      exact ⟨by simp [s0X], i, by simp, hor _⟩, fun b c o p x y hb hc' _ _ _ => by rw [(hget b o hb).1, (hget c p hc').1]⟩
    refine ((callM_sound (gok_ofProgX hm hix) hM fuel d (.fn f []) s0X _ _ hc).2 _ w hs (fun x b hb => ?_) (fun b h1 h2 => ?_) [] VRs.nil).mono ?_
    · unfold ofProgX at hb
      dsimp only at hb
      rw [T.get_set] at hb
      split at hb
      · rename_i hx
        injection hb with hb
        subst hb
        exact ⟨i, by simp, by subst hi; exact hx.symm, by subst hi; rfl⟩
      · simp [T.get] at hb
    · have : b ≠ 0 := by unfold s0X at h1; dsimp only at h1; omega
      simp [this]
    · rintro e' w' ⟨γ, x, rfl, hx, hrel, hst⟩
      simp only [VR] at hx
      subst hx
      refine ⟨rfl, hst.env.1, hst.env.2.1, hst.env.2.2, hst.size, fun k hk => ?_⟩
      by_cases hkg : k = gl
      · obtain ⟨_, j, hj, hor'⟩ := hrel.obj _ _ ht
        have := hst.le 0 i (by simp)
        rw [hj] at this
        injection this with this
        subst this
        have := OR.anyInt_same (hor γ) hor'
        subst hi
        rw [hkg]
        exact this
      · refine hst.keep k hk fun b o j hb hj ej => ?_
        obtain ⟨rfl, rfl⟩ := hget b o hb
        have : i = j := by simpa using hj
        subst this
        subst hi
        exact hkg ej.symm
  · cases h

end Go.Proofs.YtgfbjbdfckgdjaaGreatDoor.Ev

/-
  An evaluator for closed calls: values, heap, operations, part 1: definitions and laws; it proves what one operation does to what an abstract heap stands for. No conditions.
-/
import Derived.WalkKit
import Derived.WalkSpells
import Derived.WalkLawsBesides
import Derived.Lib.Bytealg
import Derived.Lib.Index
import Derived.Laws.BytesString
set_option linter.unusedSimpArgs false
set_option linter.unusedVariables false

namespace Go.Proofs.YtgfbjbdfckgdjaaGreatDoor.Ev

/-- A map from numbers: a tree by the number's bits. -/
inductive T (α : Type) where
  | e
  | n (v : Option α) (l r : T α)

def T.get {α : Type} : T α → Nat → Option α
  | .e, _ => none
  | .n v l r, k => match k with
    | 0 => v
    | k + 1 => match Nat.beq (k % 2) 0 with
      | true => l.get (k / 2)
      | false => r.get (k / 2)

/-- The tree with x at k. -/
def T.put {α : Type} : Nat → T α → Nat → Option α → T α
  | 0, t, _, _ => t
  | f + 1, t, k, x => match t with
    | .e => match k with
      | 0 => .n x .e .e
      | k + 1 => match Nat.beq (k % 2) 0 with
        | true => .n none (T.put f .e (k / 2) x) .e
        | false => .n none .e (T.put f .e (k / 2) x)
    | .n v l r => match k with
      | 0 => .n x l r
      | k + 1 => match Nat.beq (k % 2) 0 with
        | true => .n v (l.put f (k / 2) x) r
        | false => .n v l (r.put f (k / 2) x)

def T.set {α : Type} (t : T α) (k : Nat) (x : Option α) : T α := T.put (k + 1) t k x
def T.ofList {α : Type} : List α → Nat → T α → T α
  | [], _, t => t
  | a :: l, k, t => T.ofList l (k + 1) (t.set k (some a))

/-- Abstract values: an address is the abstract number of a block and an offset. -/
inductive AV where
  | bool (b : Bool)
  | int (k : IntKind) (n : Int)
  | str (l : List UInt8)
  | ptr (a : Option (Nat × Nat))
  | slice (a : Option (Nat × Nat)) (len cap : Nat)
  | map (r : Option Nat)
  | func (fn : Fn) (first captured : List AV)
  | nilFunc
  | iface (t : TypeId) (v : AV)
  | nilIface
  | agg (c : List AV)
  | tuple (c : List AV)
  /-- The function that a loop over a function hands to it. -/
  | yield (b : Nat)
  /-- A slice that can't grow in place. -/
  | clip (a : Nat × Nat) (len : Nat)
  /-- What is left of a slice behind its last element, where the row's end is not known: it is empty. -/
  | rest (b : Nat)

mutual
/-- A constant. -/
def AV.ofV : Value → Option AV
  | .bool b => some (.bool b)
  | .int k n => some (.int k n)
  | .string s => some (.str s.data.toList)
  | .pointer none => some (.ptr none)
  | .slice none l c => some (.slice none l c)
  | .map none => some (.map none)
  | .nilFunc => some .nilFunc
  | .iface t v => (AV.ofV v).map (.iface t)
  | .nilIface => some .nilIface
  | .agg cs => (AV.ofVs cs.toList).map .agg
  | .tuple cs => (AV.ofVs cs.toList).map .tuple
  | .func fn a b => match AV.ofVs a.toList, AV.ofVs b.toList with
    | some a, some b => some (.func fn a b)
    | _, _ => none
  | _ => none
def AV.ofVs : List Value → Option (List AV)
  | [] => some []
  | v :: l => match AV.ofV v, AV.ofVs l with
    | some v, some l => some (v :: l)
    | _, _ => none
end

mutual
def AV.beq : AV → AV → Bool
  | .bool a, .bool b => a == b
  | .int k a, .int j b => decide (k = j) && a == b
  | .str a, .str b => a == b
  | .ptr a, .ptr b => a == b
  | .slice a l c, .slice b m d => a == b && l == m && c == d
  | .map a, .map b => a == b
  | .func f a b, .func g c d => decide (f = g) && AV.beqs a c && AV.beqs b d
  | .nilFunc, .nilFunc => true
  | .iface t v, .iface u w => t == u && AV.beq v w
  | .nilIface, .nilIface => true
  | .agg a, .agg b => AV.beqs a b
  | .tuple a, .tuple b => AV.beqs a b
  | .yield a, .yield b => a == b
  | .clip a l, .clip b m => a == b && l == m
  | .rest a, .rest b => a == b
  | _, _ => false
def AV.beqs : List AV → List AV → Bool
  | [], [] => true
  | a :: x, b :: y => AV.beq a b && AV.beqs x y
  | _, _ => false
end

def AV.cells : AV → List AV
  | .agg c => c
  | v => [v]

/-- One cell holds it. -/
def AV.one : AV → Bool
  | .agg _ | .tuple _ => false
  | _ => true

structure ME where
  key : AV
  val : AV
  born : Nat

/-- How code is left. -/
inductive X where
  | normal | exit (id : Nat) | ret

/-- A loop over a function: its state, the jump that waits, the registers that its rounds begin with. -/
structure LA where
  st : LoopState
  pend : Option X
  nt : Nat
  r : T AV
  ps : Array Tmp
  assign : Code
  body : Code

/-- Abstract objects. An OPEN row is one that append made: what lies behind its cells is not known. -/
inductive AO where
  | row (c : List AV) (elem : TypeId) (opn : Bool) (esz : Nat)
  | map (es : List ME) (clock : Nat)
  /-- A map that is only read, its entries in an order that is not known. -/
  | lit (es : List ME)
  | ro (c : List AV) (esz : Nat)
  | loop (l : LA)
  | dfr (opn : Bool)
  | iter (m : Option Nat) (since : Nat) (seen : List Nat) (last : Nat)
  /-- One number that is not known, and never written. -/
  | anyInt
  /-- A row that is one of these; which one tells the xtra of the block b (of which there need be no object). -/
  | amb (b : Nat) (cs : List (List AV)) (elem : TypeId) (opn : Bool) (esz : Nat)
  /-- An open row that may lie behind other cells of its block: how many is not known. -/
  | win (c : List AV) (elem : TypeId) (esz : Nat)
  /-- A table of numbers, never written. -/
  | tab (k : IntKind) (l : List Int)

/-- The abstract heap: the objects, and the next number. -/
structure S where
  h : T AO
  n : Nat

/-- The program as the evaluator reads it. -/
structure G where
  P : Program
  fns : T Func
  tys : T TypeInfo
  glo : T Nat
  /-- The library's search for a text in a text, if it is known. -/
  ix : Option FuncId

def G.info (g : G) (t : TypeId) : Option TypeInfo := g.tys.get t
def G.und (g : G) (t : TypeId) : Option TypeDesc :=
  match g.info t with
  | some i => match i.desc with
    | .named _ u => match g.info u with
      | some j => some j.desc
      | none => none
    | d => some d
  | none => none
def G.size (g : G) (t : TypeId) : Option Nat := match g.info t with
  | some i => some i.size
  | none => none
def G.isAgg (g : G) (t : TypeId) : Option Bool := match g.und t with
  | some (.struct _) => some true
  | some (.array _ _) => some true
  | some _ => some false
  | none => none
def G.zero (g : G) (t : TypeId) : Option AV := match g.info t with
  | some i => match i.zero with
    | some v => AV.ofV v
    | none => none
  | none => none

def part (g : G) (t : TypeId) (cs : List AV) (off : Nat) : Option AV :=
  match g.isAgg t with
  | some true => match g.size t with
    | some n => some (.agg ((cs.drop off).take n))
    | none => none
  | some false => cs[off]?
  | none => none

/-- The cells at an address. -/
def loadN (s : S) (a : Nat × Nat) (n : Nat) : Option (List AV) :=
  match s.h.get a.1 with
  | some (.row c _ _ _) => match Nat.ble (a.2 + n) c.length with
    | true => some ((c.drop a.2).take n)
    | false => none
  | some (.ro c _) => match Nat.ble (a.2 + n) c.length with
    | true => some ((c.drop a.2).take n)
    | false => none
  | some (.win c _ _) => match Nat.ble (a.2 + n) c.length with
    | true => some ((c.drop a.2).take n)
    | false => none
  | some (.tab k l) => match Nat.ble (a.2 + n) l.length with
    | true => some (((l.drop a.2).take n).map (AV.int k))
    | false => none
  | _ => none

/-- A list with others laid over it from k on. -/
def over {α : Type} : List α → Nat → List α → List α
  | c, _, [] => c
  | [], _, _ => []
  | _ :: c, 0, v :: vs => v :: over c 0 vs
  | x :: c, k + 1, vs => x :: over c k vs

def storeN (s : S) (a : Nat × Nat) (vs : List AV) : Option S :=
  match s.h.get a.1 with
  | some (.row c e o z) => match Nat.ble (a.2 + vs.length) c.length && vs.all AV.one with
    | true => some { h := s.h.set a.1 (some (.row (over c a.2 vs) e o z)), n := s.n }
    | false => none
  | some (.win c e z) => match Nat.ble (a.2 + vs.length) c.length && vs.all AV.one with
    | true => some { h := s.h.set a.1 (some (.win (over c a.2 vs) e z)), n := s.n }
    | false => none
  | _ => none

def new (s : S) (o : AO) : S := { h := s.h.set s.n (some o), n := s.n + 1 }

def loadVar (g : G) (s : S) (t : TypeId) (a : Nat × Nat) : Option AV :=
  match g.isAgg t with
  | some true => match g.size t with
    | some n => match loadN s a n with
      | some l => some (.agg l)
      | none => none
    | none => none
  | some false => match loadN s a 1 with
    | some [v] => some v
    | _ => none
  | none => none

abbrev Regs := T AV
def undef : AV := .tuple []
def val (g : G) (r : Regs) : Operand → Option AV
  | .tmp t => match T.get r t with
    | some v => some v
    | none => some undef
  | .const v => AV.ofV v
  | .func f => some (.func (.func f) [] [])
  | .global x => match g.glo.get x with
    | some b => some (.ptr (some (b, 0)))
    | none => none

def vals (g : G) (r : Regs) : List Operand → Option (List AV)
  | [] => some []
  | x :: l => match val g r x, vals g r l with
    | some v, some vs => some (v :: vs)
    | _, _ => none

def binInt (op : BinOp) (k : IntKind) (x y : Int) : Option AV :=
  match op with
  | .add => some (.int k (k.wrap (x + y)))
  | .sub => some (.int k (k.wrap (x - y)))
  | .mul => some (.int k (k.wrap (x * y)))
  | .quo => if y = 0 then none else some (.int k (k.wrap (x.tdiv y)))
  | .rem => if y = 0 then none else some (.int k (x.tmod y))
  | .and => some (.int k (k.wrap (BitVec.ofInt k.bits x &&& BitVec.ofInt k.bits y).toNat))
  | .or => some (.int k (k.wrap (BitVec.ofInt k.bits x ||| BitVec.ofInt k.bits y).toNat))
  | .xor => some (.int k (k.wrap (BitVec.ofInt k.bits x ^^^ BitVec.ofInt k.bits y).toNat))
  | .andNot => some (.int k (k.wrap (BitVec.ofInt k.bits x &&& ~~~ BitVec.ofInt k.bits y).toNat))
  | .eql => some (.bool (x == y))
  | .neq => some (.bool (x != y))
  | .lss => some (.bool (x < y))
  | .leq => some (.bool (x ≤ y))
  | .gtr => some (.bool (x > y))
  | .geq => some (.bool (x ≥ y))
  | .shl | .shr => none

def shiftI (op : BinOp) (k : IntKind) (x y : Int) : Option AV :=
  if y < 0 then none else
    match op with
    | .shl => some (.int k (k.wrap (x * 2 ^ (min y.toNat k.bits))))
    | .shr => some (.int k (x.fdiv (2 ^ (min y.toNat k.bits))))
    | _ => none

def binStr (op : BinOp) (x y : List UInt8) : Option AV :=
  match op with
  | .add => if ((x.length + y.length : Nat) : Int) > IntKind.i64.max then none else some (.str (x ++ y))
  | .eql => some (.bool (x == y))
  | .neq => some (.bool (!(x == y)))
  | .lss => some (.bool (Op.bytesLess x y))
  | .leq => some (.bool (Op.bytesLess x y || x == y))
  | .gtr => some (.bool !(Op.bytesLess x y || x == y))
  | .geq => some (.bool !(Op.bytesLess x y))
  | _ => none

/-- '==' (of pointers only against nil, or of one object). -/
def eqV (g : G) : Nat → TypeId → AV → AV → Option Bool
  | 0, _, _, _ => none
  | d + 1, t, x, y =>
    match g.und t with
    | some .bool => match x, y with
      | .bool a, .bool b => some (a == b)
      | _, _ => none
    | some (.int _) => match x, y with
      | .int k a, .int k' b => if k = k' then some (a == b) else none
      | _, _ => none
    | some .string => match x, y with
      | .str a, .str b => some (a == b)
      | _, _ => none
    | some (.pointer e) => match x, y with
      | .ptr none, .ptr b => some b.isNone
      | .ptr (some _), .ptr none => some false
      | .ptr (some a), .ptr (some b) => match Nat.beq a.1 b.1, g.size e with
        | true, some (_ + 1) => some (Nat.beq a.2 b.2)
        | _, _ => none
      | _, _ => none
    | some (.interface _) => match x, y with
      | .nilIface, .nilIface => some true
      | .nilIface, .iface _ _ => some false
      | .iface _ _, .nilIface => some false
      | _, _ => none
    | some (.slice _) => match x, y with
      | .slice none _ _, .slice b _ _ => some b.isNone
      | .slice (some _) _ _, .slice none _ _ => some false
      | _, _ => none
    | some (.map _ _) => match x, y with
      | .map none, .map b => some b.isNone
      | .map (some _), .map none => some false
      | _, _ => none
    | some (.func _ _ _) => match x, y with
      | .nilFunc, .nilFunc => some true
      | .nilFunc, .func _ _ _ => some false
      | .func _ _ _, .nilFunc => some false
      | _, _ => none
    | some (.struct fs) => match x, y with
      | .agg xs, .agg ys => match g.P.stoodInHeld t with
        | true => none
        | false => fs.toList.foldr (fun f k =>
          if f.name ≠ "_" then
            match part g f.type xs f.offset, part g f.type ys f.offset with
            | some a, some b => match eqV g d f.type a b with
              | some true => k
              | some false => some false
              | none => none
            | _, _ => none
          else k) (some true)
      | _, _ => none
    | some (.array n e) => match x, y, g.size e with
      | .agg xs, .agg ys, some z => (List.range n).foldr (fun i k =>
          match part g e xs (i * z), part g e ys (i * z) with
          | some a, some b => match eqV g d e a b with
            | some true => k
            | some false => some false
            | none => none
          | _, _ => none) (some true)
      | _, _, _ => none
    | _ => none

/-- No '==' of two nil interface values is met that the model leaves open. -/
def eqOk (g : G) (t : TypeId) (x y : Operand) : AV → AV → Bool
  | .nilIface, .nilIface => match x, y with
    | .const _, _ => true
    | _, .const _ => true
    | _, _ => false
  | .agg _, .agg _ => !(g.P.eqGuardType g.P.depth t)
  | _, _ => true

def binOp (g : G) (op : BinOp) (t : TypeId) (ox oy : Operand) (x y : AV) : Option AV :=
  match x, y with
  | .int k a, .int k' b => match op with
    | .shl => shiftI .shl k a b
    | .shr => shiftI .shr k a b
    | op => if k = k' then binInt op k a b else none
  | .str a, .str b => binStr op a b
  | x, y => match op with
    | .eql => match eqOk g t ox oy x y with
      | true => match eqV g Op.maxDepth t x y with
        | some b => some (.bool b)
        | none => none
      | false => none
    | .neq => match eqOk g t ox oy x y with
      | true => match eqV g Op.maxDepth t x y with
        | some b => some (.bool (!b))
        | none => none
      | false => none
    | _ => none

def isRow : Option AO → Bool
  | some (.row _ _ _ _) => true
  | _ => false

def isEqOp : BinOp → Bool
  | .eql => true
  | .neq => true
  | _ => false

/-- '==' and '!=' of pointers to two objects. -/
def ptrApart (g : G) (s : S) (op : BinOp) (t : TypeId) (x y : AV) : Option AV :=
  match x, y with
  | .ptr (some (b, _)), .ptr (some (c, _)) => match Nat.beq b c with
    | true => none
    | false => match g.und t, isRow (s.h.get b) && isRow (s.h.get c) with
      | some (.pointer e), true => match g.size e, op with
        | some (_ + 1), .eql => some (.bool false)
        | some (_ + 1), .neq => some (.bool true)
        | _, _ => none
      | _, _ => none
  | _, _ => none

def conv (g : G) (src dst : TypeId) (x : AV) : Option AV :=
  match g.und src, g.und dst with
  | some _, some (.int k) => match x with
    | .int _ n => some (.int k (k.wrap n))
    | _ => none
  | some .string, some .string => match x with
    | .str s => some (.str s)
    | _ => none
  | _, _ => none

/-- A row whose end is known: its cells' number and its element type. -/
def shut (s : S) (b : Nat) : Option (Nat × TypeId) := match s.h.get b with
  | some (.row c e false _) => some (c.length, e)
  | _ => none

def bytesL : List AV → Option (List UInt8)
  | [] => some []
  | .int .u8 n :: l => if 0 ≤ n ∧ n < 256 then match bytesL l with
    | some r => some (UInt8.ofNat n.toNat :: r)
    | none => none
    else none
  | _ => none

/-- Conversions that look at memory. -/
def convS (g : G) (s : S) (src dst : TypeId) (x : AV) : Option (AV × S) :=
  match g.und src, g.und dst with
  | some (.pointer t), some .unsafePointer => match x with
    | .ptr none => some (.ptr none, s)
    | .ptr (some a) => match shut s a.1, g.size t with
      | some (n, _), some (_ + 1) => match Nat.blt a.2 n with
        | true => some (.ptr (some a), s)
        | false => none
      | _, _ => none
    | _ => none
  | some .unsafePointer, some (.pointer u) => match x with
    | .ptr none => some (.ptr none, s)
    | .ptr (some a) => match shut s a.1, g.size u with
      | some (n, e), some _ => match liesAt g.P g.P.depth e (n / g.P.cellsOf e) a.2 u 1 with
        | true => some (.ptr (some a), s)
        | false => none
      | _, _ => none
    | _ => none
  | some .string, some (.slice e) => match x, g.und e with
    | .str l, some (.int .u8) => some (.slice (some (s.n, 0)) l.length l.length, { h := s.h.set s.n (some (.ro (l.map fun b => .int .u8 b.toNat) 1)), n := s.n + 1 })
    | _, _ => none
  | some (.slice e), some .string => match x, g.und e with
    | .slice (some a) n _, some (.int .u8) => match loadN s a n with
      | some l => match bytesL l with
        | some l => some (.str l, s)
        | none => none
      | none => none
    | .slice none _ _, some (.int .u8) => some (.str [], s)
    | _, _ => none
  | _, _ => match conv g src dst x with
    | some v => some (v, s)
    | none => none

def fill (place : Nat → Option (Nat × Nat)) (cells : List AV) : List (Nat × AV) → Option (List AV)
  | [] => some cells
  | (i, v) :: rest =>
    match place i with
    | none => none
    | some (off, size) =>
      if v.cells.length ≠ size ∨ off + v.cells.length > cells.length then none
      else fill place (over cells off v.cells) rest

def repl {α : Type} : Nat → List α → List α
  | 0, _ => []
  | n + 1, l => l ++ repl n l

/-- What one operation comes to: a value, nothing, or a call. -/
inductive R where
  | val (v : AV) (s : S)
  | skip (s : S)
  | enter (f : FuncId) (args : List AV) (s : S)
  | round (b : Nat) (args : List AV) (s : S)

def keyEq : AV → AV → Option Bool
  | .int k a, .int k' b => if k = k' then some (a == b) else none
  | .str a, .str b => some (a == b)
  | .bool a, .bool b => some (a == b)
  | _, _ => none

def findKey (k : AV) : List ME → Nat → Option (Option (Nat × AV))
  | [], _ => some none
  | e :: es, i => match keyEq k e.key with
    | some true => some (some (i, e.val))
    | some false => findKey k es (i + 1)
    | none => none

def updAt : List ME → Nat → AV → AV → List ME
  | [], _, _, _ => []
  | e :: es, 0, k, v => { e with key := k, val := v } :: es
  | e :: es, i + 1, k, v => e :: updAt es i k v

def bound (x : AV) (y : Nat) : Option Nat := match x with
  | .int _ i => if 0 ≤ i ∧ i ≤ y then some i.toNat else none
  | _ => none

def bounds (len cap : Nat) (lo hi mx : Option AV) : Option (Nat × Nat × Nat) :=
  match (match mx with | some v => bound v cap | none => some cap) with
  | none => none
  | some m => match (match hi with | some v => bound v m | none => if mx.isNone then some len else none) with
    | none => none
    | some h => match (match lo with | some v => bound v h | none => some 0) with
      | none => none
      | some l => some (l, h, m)

def addA (a : Nat × Nat) (n : Nat) : Nat × Nat := (a.1, a.2 + n)

/-- What a slice's row is: nothing (nil), a closed row or one of which the slice does not reach the end (true), or an open one that it reaches the end of (false). -/
def sure (s : S) (a : Option (Nat × Nat)) (cap : Nat) : Option Bool :=
  match a with
  | none => some true
  | some a => match s.h.get a.1 with
    | some (.row c _ o z) => match o with
      | false => some true
      | true => some (!(Nat.beq (a.2 + cap * z) c.length))
    | some (.win c _ z) => some (!(Nat.beq (a.2 + cap * z) c.length))
    | _ => none


def lenOf : AV → Option Nat
  | .slice _ n _ => some n
  | .clip _ n => some n
  | .rest _ => some 0
  | .str s => some s.length
  | _ => none

def firstCells (s : S) (size n : Nat) : AV → Option (List AV)
  | .slice (some a) _ _ => loadN s a (n * size)
  | .clip a _ => loadN s a (n * size)
  | .slice none _ _ => some []
  | .rest _ => match n with
    | 0 => some []
    | _ => none
  | .str l => some ((l.take n).map fun b => .int .u8 b.toNat)
  | _ => none

/-- A slice's type, or string. -/
def sOrS : TypeDesc → Bool
  | .slice _ => true
  | .string => true
  | _ => false

/-- A row goes on behind its end, in its own memory or in a new one: nobody knows. -/
def regrow (s : S) (b o : Nat) (c : List AV) (e : TypeId) (z n : Nat) : Option R :=
  match s.h.get b with
  | some (.row _ e' _ z') => match Nat.beq z' z && Nat.beq e' e with
    | true => match o with
      | 0 => some (.val (.slice (some (s.n, 0)) n n) (Ev.new { h := s.h.set b none, n := s.n } (.row c e true z)))
      | _ + 1 => some (.val (.slice (some (s.n, 0)) n n) (Ev.new { h := s.h.set b none, n := s.n } (.win c e z)))
    | false => none
  | some (.win _ e' z') => match Nat.beq z' z && Nat.beq e' e with
    | true => some (.val (.slice (some (s.n, 0)) n n) (Ev.new { h := s.h.set b none, n := s.n } (.win c e z)))
    | false => none
  | _ => none

/-- The same for what is left behind a row's end. -/
def regrowR (s : S) (b : Nat) (c : List AV) (e : TypeId) (z n : Nat) : Option R :=
  match s.h.get b with
  | some (.row _ e' true z') => match Nat.beq z' z && Nat.beq e' e with
    | true => some (.val (.slice (some (s.n, 0)) n n) (Ev.new { h := s.h.set b none, n := s.n } (.win c e z)))
    | false => none
  | some (.win _ e' z') => match Nat.beq z' z && Nat.beq e' e with
    | true => some (.val (.slice (some (s.n, 0)) n n) (Ev.new { h := s.h.set b none, n := s.n } (.win c e z)))
    | false => none
  | _ => none

/-- append(x, y...). -/
def append (g : G) (s : S) (t t2 : TypeId) (x y : AV) : Option R :=
  match g.und t, g.und t2, x with
  | some (.slice e), some d2, .clip a len =>
    match sOrS d2, g.info e, lenOf y with
    | true, some i, some n => match firstCells s i.size n y, loadN s a (len * i.size) with
      | some new, some old => match Nat.blt 0 n && Nat.blt 0 i.size && Nat.blt i.bytes (2 ^ 16) && Nat.blt (len + n) (2 ^ 30) && (match i.zero with | some z => Nat.beq z.cells.size i.size | none => false) && Nat.beq old.length (len * i.size) && Nat.beq new.length (n * i.size) && new.all AV.one with
        | true => some (.val (.slice (some (s.n, 0)) (len + n) (len + n)) (Ev.new s (.row (old ++ new) e true i.size)))
        | false => none
      | _, _ => none
    | _, _, _ => none
  | some (.slice e), some d2, .rest b =>
    match sOrS d2, g.info e, lenOf y with
    | true, some i, some n => match firstCells s i.size n y with
      | some new => match Nat.blt 0 n && Nat.blt 0 i.size && Nat.blt i.bytes (2 ^ 16) && Nat.blt n (2 ^ 30) && (match i.zero with | some z => Nat.beq z.cells.size i.size | none => false) && Nat.beq new.length (n * i.size) && new.all AV.one with
        | true => regrowR s b new e i.size n
        | false => none
      | _ => none
    | _, _, _ => none
  | some (.slice e), some d2, .slice base len cap =>
    match sOrS d2, g.info e, lenOf y with
    | true, some i, some n =>
      match firstCells s i.size n y, sure s base cap with
      | some new, some ok =>
        match Nat.ble (len + n) cap with
        | true => match base with
          | some a => match storeN s (addA a (len * i.size)) new with
            | some s => some (.val (.slice base (len + n) cap) s)
            | none => none
          | none => some (.val (.slice base (len + n) cap) s)
        | false => match firstCells s i.size len x, Nat.blt 0 i.size && Nat.blt i.bytes (2 ^ 16) && Nat.blt (len + n) (2 ^ 30) && (match i.zero with | some z => Nat.beq z.cells.size i.size | none => false) with
          | some old, true => match Nat.beq old.length (len * i.size) && Nat.beq new.length (n * i.size) && new.all AV.one with
            | true => match ok with
              | true => some (.val (.slice (some (s.n, 0)) (len + n) (len + n)) (Ev.new s (.row (old ++ new) e true i.size)))
              | false => match base with
                | some (b, o) => regrow s b o (old ++ new) e i.size (len + n)
                | none => none
            | false => none
          | _, _ => none
      | _, _ => none
    | _, _, _ => none
  | _, _, _ => none

/-- append(x, make([]T, n)...), where x is nil. -/
def appendMake (g : G) (s : S) (t t2 : TypeId) (x y : AV) : Option R :=
  match x, y with
  | .slice none len cap, .int _ n => match g.und t, g.und t2 with
    | some (.slice e), some (.int _) => match g.info e, g.zero e with
      | some i, some z => match Nat.beq len 0 && Nat.beq cap 0 && Nat.blt 0 i.size && Nat.blt i.bytes (2 ^ 16) && Nat.beq z.cells.length i.size && Nat.blt 0 n.toNat && Nat.blt n.toNat (2 ^ 30) with
        | true => some (.val (.slice (some (s.n, 0)) n.toNat n.toNat) (Ev.new s (.row ([] ++ repl n.toNat z.cells) e true i.size)))
        | false => none
      | _, _ => none
    | _, _ => none
  | _, _ => none

def sameNow : TypeDesc → AV → AV → Option Bool
  | .int _, .int k a, .int k' b => if k = k' then some (a == b) else none
  | .string, .str a, .str b => some (a == b)
  | .bool, .bool a, .bool b => some (a == b)
  | _, _, _ => none

def findNow (kind : TypeDesc) (k : AV) : List ME → Nat → Option (Option (Nat × AV))
  | [], _ => some none
  | e :: es, i => match sameNow kind k e.key with
    | some true => some (some (i, e.val))
    | some false => findNow kind k es (i + 1)
    | none => none

def plainKind : TypeDesc → Bool
  | .int _ => true
  | .string => true
  | .bool => true
  | _ => false

def dropAt : List ME → Nat → List ME
  | [], _ => []
  | _ :: es, 0 => es
  | e :: es, i + 1 => e :: dropAt es i

def builtin (g : G) (s : S) (b : Builtin) (ts : List TypeId) (args : List AV) : Option R :=
  match b with
  | .len => match ts, args with
    | t :: _, [x] => match g.und t with
      | some .string => match x with
        | .str l => some (.val (.int .i64 l.length) s)
        | _ => none
      | some (.array n _) => some (.val (.int .i64 n) s)
      | some (.slice _) => match x with
        | .slice _ n _ => some (.val (.int .i64 n) s)
        | .clip _ n => some (.val (.int .i64 n) s)
        | .rest _ => some (.val (.int .i64 0) s)
        | _ => none
      | some (.map _ _) => match x with
        | .map none => some (.val (.int .i64 0) s)
        | .map (some r) => match s.h.get r with
          | some (.map es _) => some (.val (.int .i64 es.length) s)
          | _ => none
        | _ => none
      | _ => none
    | _, _ => none
  | .append => match ts, args with
    | t :: t2 :: _, [x, y] => match appendMake g s t t2 x y with
      | some r => some r
      | none => append g s t t2 x y
    | _, _ => none
  | .copy => match ts, args with
    | t :: _, [x, y] => match g.und t, x with
      | some (.slice e), .slice base dl _ => match g.size e, lenOf y with
        | some size, some n => match firstCells s size (Nat.min n dl) y with
          | some cs => match base with
            | some a => match storeN s a cs with
              | some s => some (.val (.int .i64 (Nat.min n dl)) s)
              | none => none
            | none => some (.val (.int .i64 (Nat.min n dl)) s)
          | none => none
        | _, _ => none
      | _, _ => none
    | _, _ => none
  | .clear => match ts, args with
    | t :: _, [x] => match g.und t, x with
      | some (.slice e), .slice base n _ => match g.zero e, base with
        | _, none => some (.val (.tuple []) s)
        | some z, some a => match n with
          | 0 => some (.val (.tuple []) s)
          | n + 1 => match storeN s a (repl (n + 1) z.cells) with
            | some s => some (.val (.tuple []) s)
            | none => none
        | _, _ => none
      | some (.map _ _), .map none => some (.val (.tuple []) s)
      | _, _ => none
    | _, _ => none
  | .min => match args with
    | [.int k x, .int _ y] => some (.val (.int k (if y < x then y else x)) s)
    | _ => none
  | .max => match args with
    | [.int k x, .int _ y] => some (.val (.int k (if y > x then y else x)) s)
    | _ => none
  | .cap => match ts, args with
    | t :: _, [x] => match g.und t, x with
      | some (.slice _), .slice a _ c => match sure s a c with
        | some true => some (.val (.int .i64 c) s)
        | _ => none
      | _, _ => none
    | _, _ => none
  | .delete => match ts, args with
    | t :: _, [.map (some b), k] => match g.und t, s.h.get b with
      | some (.map kt _), some (.map es c) => match g.und kt with
        | some kd => match plainKind kd with
          | true => match findNow kd k es 0 with
            | some (some (i, _)) => some (.val (.tuple []) { h := s.h.set b (some (.map (dropAt es i) c)), n := s.n })
            | some none => some (.val (.tuple []) s)
            | none => none
          | false => none
        | none => none
      | _, _ => none
    | _, _ => none
  | .unsafeSliceData => match args with
    | [.slice none _ _] => some (.val (.ptr none) s)
    | [.slice (some a) _ (_ + 1)] => some (.val (.ptr (some a)) s)
    | _ => none
  | .unsafeString => match ts, args with
    | [t, _], [.ptr p, .int .i64 n] => match p with
      | none => if n = 0 then some (.val (.str []) s) else none
      | some a => if n = 0 then some (.val (.str []) s) else if n < 0 ∨ 2 ^ 30 < n then none else match g.und t, s.h.get a.1 with
        | some (.pointer u), some (.row c e _ z) => match Nat.beq a.2 0 && Nat.beq u e && Nat.beq z 1 && Nat.beq (g.P.cellsOf e) 1, loadN s a n.toNat with
          | true, some l => match bytesL l with
            | some l => some (.val (.str l) { h := s.h.set a.1 (some (.ro c z)), n := s.n })
            | none => none
          | _, _ => none
        | _, _ => none
    | _, _ => none
  | _ => none

/-- The first place of a byte, from n on; -1 if there is none. -/
def ixB (c : UInt8) : List UInt8 → Nat → Int
  | [], _ => -1
  | b :: l, n => match b == c with
    | true => n
    | false => ixB c l (n + 1)

/-- Functions without a Go body. -/
def extern (g : G) (s : S) (fn : Func) (args : List AV) : Option R :=
  match fn.name == "internal/abi.NoEscape" && fn.origin == "" with
  | true => match args with
    | [x] => some (.val x s)
    | _ => none
  | false => match fn.name == "internal/bytealg.MakeNoZero" && fn.origin == "" with
    | true => match args, fn.resultTypes.toList with
      | [.int .i64 n], [t] => match g.und t with
        | some (.slice e) => if 0 ≤ n ∧ n < 2 ^ 30 then
            some (.val (.slice (some (s.n, 0)) n.toNat 0) (Ev.new s (.row [] e true 1)))
          else none
        | _ => none
      | _, _ => none
    | false => match fn.name == "internal/bytealg.IndexByteString" && fn.origin == "" with
      | true => match args with
        | [.str l, .int .u8 c] => some (.val (.int .i64 (ixB c.toNat.toUInt8 l 0)) s)
        | _ => none
      | false => match fn.name == "internal/bytealg.CountString" && fn.origin == "" with
        | true => match args with
          | [.str l, .int .u8 c] => some (.val (.int .i64 (Lib.countByte l c.toNat.toUInt8)) s)
          | _ => none
        | false => match fn.name == "maps.clone" && fn.origin == "" with
          | true => match args with
            | [.iface t (.map (some r))] => match s.h.get r with
              | some (.map es k) => some (.val (.iface t (.map (some s.n))) (Ev.new s (.map es k)))
              | _ => none
            | _ => none
          | false => none

def callFn (g : G) (s : S) (f : FuncId) (args : List AV) : Option R :=
  match g.fns.get f with
  | some fn => match fn.body with
    | some _ => match fn.name == "runtime.NumGoroutine" with
      | true => none
      | false => some (.enter f args s)
    | none => extern g s fn args
  | none => none

def shift (a : Option (Nat × Nat)) (l m size : Nat) : Option (Nat × Nat) :=
  if m = l then a else match a with
    | some a => some (addA a (l * size))
    | none => none

/-- A row's elements are so large. -/
def rowZ (s : S) (b n : Nat) : Bool := match s.h.get b with
  | some (.row _ _ _ z) => Nat.beq z n
  | some (.win _ _ z) => Nat.beq z n
  | _ => false

def shiftC (a : Nat × Nat) (l m size : Nat) : Nat × Nat := if m = l then a else addA a (l * size)

def sliceOp (g : G) (s : S) (t : TypeId) (x : AV) (lo hi mx : Option AV) : Option R :=
  match g.und t with
  | some .string => match x, mx with
    | .str l, none => match bounds l.length l.length lo hi none with
      | some (a, b, _) => some (.val (.str ((l.drop a).take (b - a))) s)
      | none => none
    | _, _ => none
  | some (.slice e) => match x with
    | .slice a len cap => match bounds len cap lo hi mx, g.size e, sure s a cap with
      | some (l, h, m), some size, some ok =>
        match sure s (shift a l m size) (m - l) with
        | some ok' => match mx.isNone && !ok with
          | true => match !ok' && (Nat.blt l m || Nat.beq l 0) with
            | true => some (.val (.slice (shift a l m size) (h - l) (m - l)) s)
            | false => match a with
              | some a => match Nat.beq l m && Nat.beq h l && rowZ s a.1 size with
                | true => some (.val (.rest a.1) s)
                | false => none
              | none => none
          | false => match ok' with
            | true => some (.val (.slice (shift a l m size) (h - l) (m - l)) s)
            | false => match a, Nat.beq h m && !mx.isNone with
              | some a, true => some (.val (.clip (shiftC a l m size) (h - l)) s)
              | _, _ => none
        | none => none
      | _, _, _ => none
    | .clip a len => match bounds len len lo hi mx, g.size e with
      | some (l, h, m), some size => match Nat.beq h m with
        | true => some (.val (.clip (shiftC a l m size) (h - l)) s)
        | false => none
      | _, _ => none
    | _ => none
  | some (.array n e) => match x with
    | .ptr (some a) => match bounds n n lo hi mx, g.size e with
      | some (l, h, m), some size => match sure s (shift (some a) l m size) (m - l) with
        | some true => some (.val (.slice (shift (some a) l m size) (h - l) (m - l)) s)
        | _ => none
      | _, _ => none
    | _ => none
  | _ => none

/-- The options of a slice expression, taken off the operands' values. -/
def opts (l h m : Bool) (vs : List AV) : Option (Option AV × Option AV × Option AV) :=
  match l, h, m, vs with
  | false, false, false, [] => some (none, none, none)
  | true, false, false, [a] => some (some a, none, none)
  | false, true, false, [b] => some (none, some b, none)
  | true, true, false, [a, b] => some (some a, some b, none)
  | false, true, true, [b, c] => some (none, some b, some c)
  | true, true, true, [a, b, c] => some (some a, some b, some c)
  | _, _, _, _ => none

def valO (s : S) : Option AV → Option R
  | some v => some (.val v s)
  | none => none

def zipIx : List Nat → List AV → Option (List (Nat × AV))
  | [], [] => some []
  | i :: is, v :: vs => match zipIx is vs with
    | some l => some ((i, v) :: l)
    | none => none
  | _, _ => none

def places (g : G) : List Field → Option (List (Nat × Nat))
  | [] => some []
  | f :: fs => match g.size f.type, places g fs with
    | some n, some l => some ((f.offset, n) :: l)
    | _, _ => none

def exBuild (g : G) (s : S) (t : TypeId) (ixs : List Nat) (vs : List AV) : Option R :=
  match g.und t with
  | some (.struct fs) => match g.zero t, zipIx ixs vs, places g fs.toList with
    | some z, some ps, some pl => match fill (fun i => pl[i]?) z.cells ps with
      | some cs => some (.val (.agg cs) s)
      | none => none
    | _, _, _ => none
  | some (.array _ e) => match g.zero t, zipIx ixs vs, g.size e with
    | some z, some ps, some size => match fill (fun i => some (i * size, size)) z.cells ps with
      | some cs => some (.val (.agg cs) s)
      | none => none
    | _, _, _ => none
  | _ => none

def exBuildSlice (g : G) (s : S) (t : TypeId) (len : Nat) (ixs : List Nat) (vs : List AV) : Option R :=
  match g.und t, zipIx ixs vs with
  | some (.slice e), some ps => match g.size e, g.zero e with
    | some size, some z => match Nat.beq z.cells.length size && Nat.ble (len * size) (2 ^ 24) with
      | true => match fill (fun i => some (i * size, size)) (repl len z.cells) ps with
        | some cs => some (.val (.slice (some (s.n, 0)) len len) (Ev.new s (.row cs e false 1)))
        | none => none
      | false => none
    | _, _ => none
  | _, _ => none

def exMakeSlice (g : G) (s : S) (t : TypeId) (l c : AV) : Option R :=
  match g.und t, l, c with
  | some (.slice e), .int _ l, .int _ c => match g.info e, g.zero e with
    | some i, some z => if 0 ≤ l ∧ l ≤ c ∧ c < 2 ^ 30 ∧ (i.bytes : Int) * c ≤ 2 ^ 46 ∧ z.cells.length = i.size then
        some (.val (.slice (some (s.n, 0)) l.toNat c.toNat) (Ev.new s (.row (repl c.toNat z.cells) e false 1)))
      else none
    | _, _ => none
  | _, _, _ => none

def exStore (g : G) (s : S) (t : TypeId) (a v : AV) : Option R :=
  match a with
  | .ptr (some a) => match g.size t with
    | some n => if v.cells.length = n then match storeN s a v.cells with
        | some s => some (.skip s)
        | none => none
      else none
    | none => none
  | _ => none

def exFieldAddr (g : G) (s : S) (t : TypeId) (x : AV) (f : Nat) : Option R :=
  match g.und t with
  | some (.struct fs) => match x with
    | .ptr (some a) => match fs[f]? with
      | some f => match g.size f.type with
        | some (_ + 1) => some (.val (.ptr (some (addA a f.offset))) s)
        | _ => none
      | none => none
    | _ => none
  | _ => none

def exField (g : G) (s : S) (t : TypeId) (x : AV) (f : Nat) : Option R :=
  match g.und t with
  | some (.struct fs) => match x with
    | .agg cs => match fs[f]? with
      | some f => valO s (part g f.type cs f.offset)
      | none => none
    | _ => none
  | _ => none

def exIndexAddr (g : G) (s : S) (t : TypeId) (x i : AV) : Option R :=
  match g.und t, i with
  | some (.slice e), .int _ i => match x with
    | .slice (some a) len _ => match g.size e with
      | some size => if 0 ≤ i ∧ i < len then some (.val (.ptr (some (addA a (i.toNat * size)))) s) else none
      | none => none
    | .clip a len => match g.size e with
      | some size => if 0 ≤ i ∧ i < len then some (.val (.ptr (some (addA a (i.toNat * size)))) s) else none
      | none => none
    | _ => none
  | some (.array len e), .int _ i => match x with
    | .ptr (some a) => match g.size e with
      | some size => if 0 ≤ i ∧ i < len then some (.val (.ptr (some (addA a (i.toNat * size)))) s) else none
      | none => none
    | _ => none
  | _, _ => none

def exIndex (g : G) (s : S) (t : TypeId) (x i : AV) : Option R :=
  match g.und t, i with
  | some (.array len e), .int _ i => match x with
    | .agg cs => match g.size e with
      | some size => if 0 ≤ i ∧ i < len then valO s (part g e cs (i.toNat * size)) else none
      | none => none
    | _ => none
  | some .string, .int _ i => match x with
    | .str l => if 0 ≤ i then
        match l[i.toNat]? with
        | some b => some (.val (.int .u8 b.toNat) s)
        | none => none
      else none
    | _ => none
  | _, _ => none

def mapEs (s : S) : Option Nat → Option (List ME)
  | none => some []
  | some b => match s.h.get b with
    | some (.map es _) => some es
    | _ => none

def exLookup0 (g : G) (s : S) (t : TypeId) (x k : AV) (ok : Bool) : Option R :=
  match g.und t, x with
  | some (.map kt e), .map m => match g.und kt, mapEs s m, g.zero e with
    | some kd, some es, some z => match plainKind kd with
      | true => match findNow kd k es 0 with
        | some (some (_, v)) => some (.val (if ok then .tuple [v, .bool true] else v) s)
        | some none => some (.val (if ok then .tuple [z, .bool false] else z) s)
        | none => none
      | false => none
    | _, _, _ => none
  | _, _ => none

/-- The value at a key that at most one entry has. -/
def litFind (kd : TypeDesc) (k : AV) : List ME → Option (Option AV)
  | [] => some none
  | e :: es => match sameNow kd k e.key, litFind kd k es with
    | some true, some none => some (some e.val)
    | some false, some r => some r
    | _, _ => none

def lookupLit (g : G) (s : S) (t : TypeId) (es : List ME) (k : AV) (ok : Bool) : Option R :=
  match g.und t with
  | some (.map kt e) => match g.und kt, g.zero e with
    | some kd, some z => match plainKind kd with
      | true => match litFind kd k es with
        | some (some v) => some (.val (if ok then .tuple [v, .bool true] else v) s)
        | some none => some (.val (if ok then .tuple [z, .bool false] else z) s)
        | none => none
      | false => none
    | _, _ => none
  | _ => none

def exLookup (g : G) (s : S) (t : TypeId) (x k : AV) (ok : Bool) : Option R :=
  match x with
  | .map (some b) => match s.h.get b with
    | some (.lit es) => lookupLit g s t es k ok
    | _ => exLookup0 g s t x k ok
  | x => exLookup0 g s t x k ok

def exMapUpdate (g : G) (s : S) (t : TypeId) (m k v : AV) : Option R :=
  match g.und t, m with
  | some (.map kt _), .map (some b) => match g.und kt, s.h.get b with
    | some kd, some (.map es c) => match plainKind kd with
      | true => match findNow kd k es 0 with
        | some (some (i, _)) => some (.skip { h := s.h.set b (some (.map (updAt es i k v) c)), n := s.n })
        | some none => some (.skip { h := s.h.set b (some (.map (es ++ [⟨k, v, c⟩]) (c + 1))), n := s.n })
        | none => none
      | false => none
    | _, _ => none
  | _, _ => none

/-- A key of two numbers. -/
def pairKey : AV → Option ((IntKind × Int) × (IntKind × Int))
  | .agg [.int j a, .int k b] => some ((j, a), (k, b))
  | _ => none

/-- Does a key fit its type (one that is compared at once, or a struct of such)? -/
def keyFits (g : G) (kd : TypeDesc) (k : AV) : Bool := match kd with
  | .struct fs => match k with
    | .agg xs => fs.toList.all fun f => match g.und f.type, part g f.type xs f.offset with
      | some kd, some _ => plainKind kd
      | _, _ => false
    | _ => false
  | kd => plainKind kd

def findAsk (g : G) (kt : TypeId) (k : AV) : List ME → Nat → Option (Option (Nat × AV))
  | [], _ => some none
  | e :: es, i => match pairKey k, pairKey e.key with
    | some p, some q => match eqV g 10000 kt k e.key with
      | some true => if p = q then some (some (i, e.val)) else none
      | some false => findAsk g kt k es (i + 1)
      | none => none
    | _, _ => none

def findAny (g : G) (kt : TypeId) (kd : TypeDesc) (k : AV) (es : List ME) : Option (Option (Nat × AV)) := match kd with
  | .struct _ => findAsk g kt k es 0
  | kd => findNow kd k es 0

def setKey : List ME → Nat → AV → List ME
  | [], _, _ => []
  | e :: es, 0, k => ⟨k, e.val, e.born⟩ :: es
  | e :: es, i + 1, k => e :: setKey es i k
def setVal : List ME → Nat → AV → List ME
  | [], _, _ => []
  | e :: es, 0, v => ⟨e.key, v, e.born⟩ :: es
  | e :: es, i + 1, v => e :: setVal es i v
def bornAt : List ME → Int → Nat → Option Nat
  | [], _, _ => none
  | e :: es, n, i => if (e.born : Int) = n then some i else bornAt es n (i + 1)

/-- The entry at a key, which is laid if there is none. -/
def exMapEntry (g : G) (s : S) (t : TypeId) (m k : AV) : Option R :=
  match g.und t, m with
  | some (.map kt e), .map (some b) => match g.und kt, s.h.get b, g.zero e with
    | some kd, some (.map es c), some z => match keyFits g kd k with
      | true => match findAny g kt kd k es with
        | some (some (i, v)) => match es[i]? with
          | some en => some (.val (.tuple [v, .int .i64 en.born]) { h := s.h.set b (some (.map (setKey es i k) c)), n := s.n })
          | none => none
        | some none => some (.val (.tuple [z, .int .i64 c]) { h := s.h.set b (some (.map (es ++ [⟨k, z, c⟩]) (c + 1))), n := s.n })
        | none => none
      | false => none
    | _, _, _ => none
  | _, _ => none

def exEntryStore (s : S) (m st v : AV) : Option R := match m, st with
  | .map (some b), .int _ n => match s.h.get b with
    | some (.map es c) => match bornAt es n 0 with
      | some i => some (.skip { h := s.h.set b (some (.map (setVal es i v) c)), n := s.n })
      | none => none
    | _ => none
  | _, _ => none

def exAssert (g : G) (s : S) (x : AV) (t : TypeId) (ok : Bool) : Option R :=
  match g.und t with
  | some (.interface _) => none
  | some _ => match x with
    | .iface t' v => if t' = t then some (.val (if ok then .tuple [v, .bool true] else v) s)
      else match ok, g.zero t with
        | true, some z => some (.val (.tuple [z, .bool false]) s)
        | _, _ => none
    | .nilIface => match ok, g.zero t with
      | true, some z => some (.val (.tuple [z, .bool false]) s)
      | _, _ => none
    | _ => none
  | none => none

def exCall (g : G) (s : S) (c : Call) (vs : List AV) : Option R :=
  match c.callee with
  | .builtin b => builtin g s b c.argTypes.toList vs
  | .value _ => match vs with
    | .func (.func f) first captured :: args => callFn g s f (first ++ args ++ captured)
    | .func (.via t path f ptr) first [] :: args => match path.toList, first ++ args with
      | [], x :: rest => match g.und t, ptr with
        | some (.pointer _), true => callFn g s f (x :: rest)
        | some (.pointer _), false => none
        | some _, false => callFn g s f (x :: rest)
        | _, _ => none
      | _, _ => none
    | .yield b :: args => some (.round b args s)
    | _ => none
  | .invoke _ name => match vs with
    | .iface t v :: args => match g.info t with
      | some i => match i.methods.find? (·.name == name) with
        | some m => match m.path.toList, m.func with
          | [], some (f, ptr) => match g.und t, ptr with
            | some (.pointer _), true => callFn g s f (v :: args)
            | some (.pointer _), false => none
            | some _, false => callFn g s f (v :: args)
            | _, _ => none
          | _, _ => none
        | none => none
      | none => none
    | _ => none

/-- A walk through a map of at most one entry. -/
def exRange (g : G) (s : S) (t : TypeId) (x : AV) : Option R :=
  match g.und t, x with
  | some (.map _ _), .map none => some (.val (.ptr (some (s.n, 0))) (Ev.new s (.iter none 0 [] 0)))
  | some (.map _ _), .map (some m) => match s.h.get m with
    | some (.map _ c) => some (.val (.ptr (some (s.n, 0))) (Ev.new s (.iter (some m) c [] c)))
    | _ => none
  | _, _ => none

def exNext (s : S) (x : AV) : Option R :=
  match x with
  | .ptr (some (b, 0)) => match s.h.get b with
    | some (.iter none _ _ _) => some (.val (.tuple [.bool false]) s)
    | some (.iter (some m) since seen last) => match s.h.get m with
      | some (.map es c) => match es, seen with
        | [], [] => some (.val (.tuple [.bool false]) s)
        | [], [_] => some (.val (.tuple [.bool false]) s)
        | [e], [] => match Nat.blt e.born since with
          | true => some (.val (.tuple [.bool true, e.key, e.val]) { h := s.h.set b (some (.iter (some m) since [e.born] c)), n := s.n })
          | false => none
        | [e], [q] => match Nat.beq e.born q && Nat.blt e.born last with
          | true => some (.val (.tuple [.bool false]) s)
          | false => none
        | _, _ => none
      | _ => none
    | _ => none
  | _ => none

def exEntry (s : S) (x : AV) : Option R :=
  match x with
  | .ptr (some (b, 0)) => match s.h.get b with
    | some (.iter (some m) _ [q] last) => match s.h.get m with
      | some (.map es c) => match Nat.beq c last, es with
        | true, [e] => match Nat.beq e.born q with
          | true => some (.val (.tuple [e.key, e.val]) s)
          | false => none
        | _, _ => none
      | _ => none
    | _ => none
  | _ => none

/-- One operation, from its operands' values. -/
def exec (g : G) (s : S) (o : Op) (vs : List AV) : Option R :=
  match o with
  | .move _ | .assign _ => match vs with
    | [v] => some (.val v s)
    | _ => none
  | .pick _ _ _ => match vs with
    | [.bool c, a, b] => some (.val (if c then a else b) s)
    | _ => none
  | .alloc t => match g.zero t with
    | some z => some (.val (.ptr (some (s.n, 0))) (Ev.new s (.row z.cells t false 1)))
    | none => none
  | .box t _ => match vs with
    | [v] => some (.val (.ptr (some (s.n, 0))) (Ev.new s (.row v.cells t false 1)))
    | _ => none
  | .build t ps => exBuild g s t (ps.toList.map (·.1)) vs
  | .buildSlice t len ps => exBuildSlice g s t len (ps.toList.map (·.1)) vs
  | .load t _ => match vs with
    | [.ptr (some a)] => valO s (loadVar g s t a)
    | _ => none
  | .store t _ _ => match vs with
    | [a, v] => exStore g s t a v
    | _ => none
  | .nilCheck _ => match vs with
    | [v] => match v with
      | .ptr none | .nilIface | .nilFunc => none
      | .func (.method _) _ _ => none
      | v => some (.val v s)
    | _ => none
  | .binOp op t x y _ => match vs with
    | [a, b] => match (match isEqOp op with | true => ptrApart g s op t a b | false => none) with
      | some v => some (.val v s)
      | none => valO s (binOp g op t x y a b)
    | _ => none
  | .unOp op _ _ => match op, vs with
    | .neg, [.int k n] => some (.val (.int k (k.wrap (0 - n))) s)
    | .not, [.bool b] => some (.val (.bool (!b)) s)
    | _, _ => none
  | .convert a b _ => match vs with
    | [v] => match convS g s a b v with
      | some (v, s) => some (.val v s)
      | none => none
    | _ => none
  | .makeInterface t _ => match vs with
    | [v] => match g.und t with
      | some (.interface _) => none
      | some _ => some (.val (.iface t v) s)
      | none => none
    | _ => none
  | .makeFunc fn a _ => some (.val (.func fn (vs.take a.size) (vs.drop a.size)) s)
  | .makeMap t r => match r, g.und t, vs with
    | none, _, _ => some (.val (.map (some s.n)) (Ev.new s (.map [] 0)))
    | some _, some (.map _ _), [.int _ _] => some (.val (.map (some s.n)) (Ev.new s (.map [] 0)))
    | _, _, _ => none
  | .makeSlice t _ _ => match vs with
    | [l, c] => exMakeSlice g s t l c
    | _ => none
  | .slice t _ lo hi mx => match vs with
    | x :: vs => match opts lo.isSome hi.isSome mx.isSome vs with
      | some (lo, hi, mx) => sliceOp g s t x lo hi mx
      | none => none
    | _ => none
  | .fieldAddr t _ f => match vs with
    | [x] => exFieldAddr g s t x f
    | _ => none
  | .field t _ f => match vs with
    | [x] => exField g s t x f
    | _ => none
  | .indexAddr t _ _ => match vs with
    | [x, i] => exIndexAddr g s t x i
    | _ => none
  | .index t _ _ => match vs with
    | [x, i] => exIndex g s t x i
    | _ => none
  | .lookup t _ _ ok => match vs with
    | [x, k] => exLookup g s t x k ok
    | _ => none
  | .mapUpdate t _ _ _ | .insert t _ _ _ => match vs with
    | [m, k, v] => exMapUpdate g s t m k v
    | _ => none
  | .typeAssert _ _ t ok => match vs with
    | [x] => exAssert g s x t ok
    | _ => none
  | .extract _ i => match vs with
    | [.tuple l] => valO s l[i]?
    | _ => none
  | .call c => exCall g s c vs
  | .range t _ => match vs with
    | [x] => exRange g s t x
    | _ => none
  | .next _ st => match st, vs with
    | false, [x] => exNext s x
    | _, _ => none
  | .entry _ => match vs with
    | [x] => exEntry s x
    | _ => none
  | .mapEntry t _ _ => match vs with
    | [m, k] => exMapEntry g s t m k
    | _ => none
  | .entryStore _ _ _ _ => match vs with
    | [m, st, v] => exEntryStore s m st v
    | _ => none
  | _ => none

/-- A deferred call: a loop's mark; a function. -/
inductive AD where
  | coll (b : Nat)
  | fn (f : FuncId) (args cap : List AV)

structure A where
  r : Regs
  s : S
  d : List AD

def put (r : Regs) (d : Option Tmp) (v : AV) : Regs := match d with
  | some d => T.set r d (some v)
  | none => r

def dstOk (nt : Nat) : Option Tmp → Bool
  | some d => Nat.blt d nt
  | none => true

def asB : Option AV → Option Bool
  | some (.bool b) => some b
  | _ => none

def yields (ops : Array Oper) (r : Regs) (j : Nat) : Option Bool :=
  match ops[j]? with
  | some o => match o.dst with
    | some d => asB (T.get r d)
    | none => none
  | none => none

def wants (ops : Array Oper) (r : Regs) (o : Oper) : Bool := match o.guard with
  | none => true
  | some (j, want) => match yields ops r j with
    | some b => b == want
    | none => false

def results (g : G) (r : Regs) (s : S) : List ResultVar → Option (List AV)
  | [] => some []
  | .tmp t :: l => match val g r (.tmp t), results g r s l with
    | some v, some vs => some (v :: vs)
    | _, _ => none
  | .cell a t :: l => match val g r (.tmp a) with
    | some (.ptr (some a)) => match loadVar g s t a, results g r s l with
      | some v, some vs => some (v :: vs)
      | _, _ => none
    | _ => none

def tup : List AV → AV
  | [v] => v
  | l => .tuple l
end Go.Proofs.YtgfbjbdfckgdjaaGreatDoor.Ev

namespace Go.Proofs.YtgfbjbdfckgdjaaGreatDoor.Ev

theorem T.get_e {α : Type} (k : Nat) : (T.e : T α).get k = none := rfl

theorem two_cases (k : Nat) : (k % 2 = 0 ∧ Nat.beq (k % 2) 0 = true) ∨ (k % 2 = 1 ∧ Nat.beq (k % 2) 0 = false) := by
  rcases Nat.mod_two_eq_zero_or_one k with h | h
  · exact .inl ⟨h, by rw [h]; rfl⟩
  · exact .inr ⟨h, by rw [h]; rfl⟩

theorem T.get_put_e {α : Type} : ∀ (f : Nat) (k j : Nat) (x : Option α), k < 2 ^ f - 1 → (T.put f .e k x).get j = if j = k then x else none
  | 0, k, j, x, h => by simp at h
  | f + 1, k, j, x, h => by
    cases k with
    | zero => cases j with
      | zero => simp [T.put, T.get]
      | succ j => simp only [T.put, T.get]; rcases two_cases j with ⟨_, hj⟩ | ⟨_, hj⟩ <;> simp [hj, T.get]
    | succ k =>
      have hk : k / 2 < 2 ^ f - 1 := by rw [Nat.pow_succ] at h; omega
      rcases two_cases k with ⟨ek, hk2⟩ | ⟨ek, hk2⟩ <;> simp only [T.put, hk2] <;> (cases j with
        | zero => simp [T.get]
        | succ j =>
          simp only [T.get]
          rcases two_cases j with ⟨ej, hj⟩ | ⟨ej, hj⟩ <;> simp only [hj, T.get]
          all_goals first
            | (rw [T.get_put_e f _ _ _ hk]; congr 1; apply propext; omega)
            | (rw [if_neg (by omega)]))

theorem T.get_put {α : Type} : ∀ (f : Nat) (t : T α) (k j : Nat) (x : Option α), k < 2 ^ f - 1 → (T.put f t k x).get j = if j = k then x else t.get j
  | 0, t, k, j, x, h => by simp at h
  | f + 1, .e, k, j, x, h => by rw [T.get_put_e (f + 1) k j x h]; rfl
  | f + 1, .n v l r, k, j, x, h => by
    cases k with
    | zero => cases j with
      | zero => simp [T.put, T.get]
      | succ j => simp only [T.put, T.get]; rw [if_neg (by omega)]
    | succ k =>
      have hk : k / 2 < 2 ^ f - 1 := by rw [Nat.pow_succ] at h; omega
      rcases two_cases k with ⟨ek, hk2⟩ | ⟨ek, hk2⟩ <;> simp only [T.put, hk2] <;> (cases j with
        | zero => simp [T.get]
        | succ j =>
          simp only [T.get]
          rcases two_cases j with ⟨ej, hj⟩ | ⟨ej, hj⟩ <;> simp only [hj]
          all_goals first
            | (rw [T.get_put f _ _ _ _ hk]; congr 1; apply propext; omega)
            | (rw [if_neg (by omega)]))

theorem lt_two (k : Nat) : k < 2 ^ (k + 1) - 1 := by
  have := @Nat.lt_two_pow_self k
  rw [Nat.pow_succ]
  omega

theorem T.get_set {α : Type} (t : T α) (k j : Nat) (x : Option α) : (t.set k x).get j = if j = k then x else t.get j := T.get_put (k + 1) t k j x (lt_two k)

/-- An abstract block: the block that it is, how many cells are known, how many cells an element has, and how many elements lie behind them. -/
structure Info where
  blk : Nat
  asz : Nat
  esz : Nat
  xtra : Nat
  off : Nat := 0

abbrev Ren := Nat → Option Info

mutual
/-- What an abstract value stands for. -/
def VR (β : Ren) : AV → Value → Prop
  | .bool b, x => x = .bool b
  | .int k n, x => x = .int k n
  | .str l, x => x = .string ⟨l.toArray⟩
  | .ptr none, x => x = .pointer none
  | .ptr (some (b, o)), x => ∃ i, β b = some i ∧ x = .pointer (some ⟨i.blk, i.off + o, none⟩)
  | .slice none l c, x => x = .slice none l c
  | .slice (some (b, o)) l c, x => ∃ i, β b = some i ∧ x = .slice (some ⟨i.blk, i.off + o, none⟩) l (if o + c * i.esz = i.asz then c + i.xtra else c)
  | .map none, x => x = .map none
  | .map (some b), x => ∃ i, β b = some i ∧ x = .map (some i.blk)
  | .func fn a c, x => ∃ a' c', VRs β a a' ∧ VRs β c c' ∧ x = .func fn a'.toArray c'.toArray
  | .nilFunc, x => x = .nilFunc
  | .iface t v, x => ∃ v', VR β v v' ∧ x = .iface t v'
  | .nilIface, x => x = .nilIface
  | .agg c, x => ∃ c', VRs β c c' ∧ x = .agg c'.toArray
  | .tuple c, x => ∃ c', VRs β c c' ∧ x = .tuple c'.toArray
  | .yield b, x => ∃ i, β b = some i ∧ x = .func (.yield i.blk) #[] #[]
  | .clip (b, o) l, x => ∃ i, β b = some i ∧ x = .slice (some ⟨i.blk, i.off + o, none⟩) l l
  | .rest b, x => ∃ i, β b = some i ∧ ∃ o c, x = .slice (some ⟨i.blk, o, none⟩) 0 c ∧ (c = 0 ∨ (o = i.off + i.asz ∧ c = i.xtra))
def VRs (β : Ren) : List AV → List Value → Prop
  | [], x => x = []
  | v :: l, x => ∃ a r, VR β v a ∧ VRs β l r ∧ x = a :: r
end

/-- More blocks are known. -/
def Ren.le (β γ : Ren) : Prop := ∀ b i, β b = some i → γ b = some i

theorem Ren.le.refl (β : Ren) : β.le β := fun _ _ h => h
theorem Ren.le.trans {a b c : Ren} (h : a.le b) (k : b.le c) : a.le c := fun x i hx => k x i (h x i hx)

mutual
theorem VR.mono {β γ : Ren} (h : β.le γ) : ∀ (v : AV) (x : Value), VR β v x → VR γ v x
  | .bool _, _, p => by simpa [VR] using p
  | .int _ _, _, p => by simpa [VR] using p
  | .str _, _, p => by simpa [VR] using p
  | .ptr none, _, p => by simpa [VR] using p
  | .ptr (some (b, o)), _, p => by
    simp only [VR] at p ⊢
    obtain ⟨i, hi, e⟩ := p
    exact ⟨i, h _ _ hi, e⟩
  | .slice none _ _, _, p => by simpa [VR] using p
  | .slice (some (b, o)) l c, _, p => by
    simp only [VR] at p ⊢
    obtain ⟨i, hi, e⟩ := p
    exact ⟨i, h _ _ hi, e⟩
  | .map none, _, p => by simpa [VR] using p
  | .map (some b), _, p => by
    simp only [VR] at p ⊢
    obtain ⟨i, hi, e⟩ := p
    exact ⟨i, h _ _ hi, e⟩
  | .func fn a c, _, p => by
    simp only [VR] at p ⊢
    obtain ⟨a', c', ha, hc, e⟩ := p
    exact ⟨a', c', VRs.mono h a a' ha, VRs.mono h c c' hc, e⟩
  | .nilFunc, _, p => by simpa [VR] using p
  | .iface t v, _, p => by
    simp only [VR] at p ⊢
    obtain ⟨v', hv, e⟩ := p
    exact ⟨v', VR.mono h v v' hv, e⟩
  | .nilIface, _, p => by simpa [VR] using p
  | .yield b, _, p => by
    simp only [VR] at p ⊢
    obtain ⟨i, hi, e⟩ := p
    exact ⟨i, h _ _ hi, e⟩
  | .clip (b, o) l, _, p => by
    simp only [VR] at p ⊢
    obtain ⟨i, hi, e⟩ := p
    exact ⟨i, h _ _ hi, e⟩
  | .rest b, _, p => by
    simp only [VR] at p ⊢
    obtain ⟨i, hi, e⟩ := p
    exact ⟨i, h _ _ hi, e⟩
  | .agg c, _, p => by
    simp only [VR] at p ⊢
    obtain ⟨c', hc, e⟩ := p
    exact ⟨c', VRs.mono h c c' hc, e⟩
  | .tuple c, _, p => by
    simp only [VR] at p ⊢
    obtain ⟨c', hc, e⟩ := p
    exact ⟨c', VRs.mono h c c' hc, e⟩
theorem VRs.mono {β γ : Ren} (h : β.le γ) : ∀ (l : List AV) (x : List Value), VRs β l x → VRs γ l x
  | [], _, p => by simpa [VRs] using p
  | v :: l, _, p => by
    simp only [VRs] at p ⊢
    obtain ⟨a, r, ha, hr, e⟩ := p
    exact ⟨a, r, VR.mono h v a ha, VRs.mono h l r hr, e⟩
end

mutual
theorem ofV_rel (β : Ren) : ∀ (x : Value) (v : AV), AV.ofV x = some v → VR β v x
  | .bool b, v, h => by simp only [AV.ofV, Option.some.injEq] at h; subst h; simp [VR]
  | .int k n, v, h => by simp only [AV.ofV, Option.some.injEq] at h; subst h; simp [VR]
  | .string s, v, h => by simp only [AV.ofV, Option.some.injEq] at h; subst h; simp [VR]
  | .pointer none, v, h => by simp only [AV.ofV, Option.some.injEq] at h; subst h; simp [VR]
  | .slice none l c, v, h => by simp only [AV.ofV, Option.some.injEq] at h; subst h; simp [VR]
  | .map none, v, h => by simp only [AV.ofV, Option.some.injEq] at h; subst h; simp [VR]
  | .nilFunc, v, h => by simp only [AV.ofV, Option.some.injEq] at h; subst h; simp [VR]
  | .iface t x, v, h => by
    simp only [AV.ofV, Option.map_eq_some_iff] at h
    obtain ⟨a, ha, rfl⟩ := h
    exact ⟨x, ofV_rel β x a ha, rfl⟩
  | .nilIface, v, h => by simp only [AV.ofV, Option.some.injEq] at h; subst h; simp [VR]
  | .agg ⟨cs⟩, v, h => by
    simp only [AV.ofV, Option.map_eq_some_iff] at h
    obtain ⟨a, ha, rfl⟩ := h
    exact ⟨cs, ofVs_rel β cs a ha, rfl⟩
  | .tuple ⟨cs⟩, v, h => by
    simp only [AV.ofV, Option.map_eq_some_iff] at h
    obtain ⟨a, ha, rfl⟩ := h
    exact ⟨cs, ofVs_rel β cs a ha, rfl⟩
  | .func fn ⟨a⟩ ⟨b⟩, v, h => by
    simp only [AV.ofV] at h
    split at h
    · rename_i a' b' ha hb
      simp only [Option.some.injEq] at h
      subst h
      exact ⟨a, b, ofVs_rel β a a' ha, ofVs_rel β b b' hb, rfl⟩
    · cases h
  | .float _ _, v, h => by simp [AV.ofV] at h
  | .complex _ _ _, v, h => by simp [AV.ofV] at h
  | .pointer (some _), v, h => by simp [AV.ofV] at h
  | .slice (some _) _ _, v, h => by simp [AV.ofV] at h
  | .map (some _), v, h => by simp [AV.ofV] at h
  | .chan _, v, h => by simp [AV.ofV] at h
theorem ofVs_rel (β : Ren) : ∀ (x : List Value) (v : List AV), AV.ofVs x = some v → VRs β v x
  | [], v, h => by simp only [AV.ofVs, Option.some.injEq] at h; subst h; simp [VRs]
  | x :: l, v, h => by
    simp only [AV.ofVs] at h
    split at h
    · rename_i a' b' ha hb
      simp only [Option.some.injEq] at h
      subst h
      exact ⟨x, l, ofV_rel β x a' ha, ofVs_rel β l b' hb, rfl⟩
    · cases h
end

section lists
variable {β : Ren}

theorem VRs.nil : VRs β [] [] := by simp [VRs]
theorem VRs.cons {v : AV} {x : Value} {l : List AV} {r : List Value} (h : VR β v x) (k : VRs β l r) : VRs β (v :: l) (x :: r) := ⟨x, r, h, k, rfl⟩

theorem VRs.length : ∀ {l : List AV} {r : List Value}, VRs β l r → l.length = r.length
  | [], _, h => by simp only [VRs] at h; subst h; rfl
  | _ :: _, _, h => by
    obtain ⟨a, r, _, k, rfl⟩ := h
    simp [VRs.length k]

theorem VRs.get : ∀ {l : List AV} {r : List Value}, VRs β l r → ∀ (j : Nat) (v : AV), l[j]? = some v → ∃ x, r[j]? = some x ∧ VR β v x
  | [], _, _, j, v, e => by simp at e
  | _ :: _, _, h, j, v, e => by
    obtain ⟨a, r, ha, k, rfl⟩ := h
    cases j with
    | zero => simp only [List.getElem?_cons_zero, Option.some.injEq] at e; subst e; exact ⟨a, rfl, ha⟩
    | succ j => simpa using VRs.get k j v (by simpa using e)

theorem VRs.take : ∀ {l : List AV} {r : List Value}, VRs β l r → ∀ n, VRs β (l.take n) (r.take n)
  | [], _, h, n => by simp only [VRs] at h; subst h; simp [VRs]
  | _ :: _, _, h, n => by
    obtain ⟨a, r, ha, k, rfl⟩ := h
    cases n with
    | zero => simp [VRs]
    | succ n => exact ⟨a, r.take n, ha, VRs.take k n, rfl⟩

theorem VRs.drop : ∀ {l : List AV} {r : List Value}, VRs β l r → ∀ n, VRs β (l.drop n) (r.drop n)
  | [], _, h, n => by simp only [VRs] at h; subst h; simp [VRs]
  | _ :: _, _, h, n => by
    obtain ⟨a, r, ha, k, rfl⟩ := h
    cases n with
    | zero => exact ⟨a, r, ha, k, rfl⟩
    | succ n => exact VRs.drop k n

theorem VRs.append : ∀ {l m : List AV} {r s : List Value}, VRs β l r → VRs β m s → VRs β (l ++ m) (r ++ s)
  | [], _, _, _, h, k => by simp only [VRs] at h; subst h; exact k
  | _ :: _, _, _, _, h, k => by
    obtain ⟨a, r, ha, h', rfl⟩ := h
    exact ⟨a, _, ha, VRs.append h' k, rfl⟩

theorem VRs.over : ∀ {l m : List AV} {r s : List Value} (k : Nat), VRs β l r → VRs β m s → VRs β (over l k m) (over r k s)
  | _, [], _, _, _, h, p => by simp only [VRs] at p; subst p; simpa [Ev.over] using h
  | [], _ :: _, _, _, k, h, p => by
    simp only [VRs] at h; subst h
    obtain ⟨b, s, hb, p', rfl⟩ := p
    simp [Ev.over, VRs]
  | _ :: _, _ :: _, _, _, 0, h, p => by
    obtain ⟨a, r, ha, h', rfl⟩ := h
    obtain ⟨b, s, hb, p', rfl⟩ := p
    exact ⟨b, _, hb, VRs.over 0 h' p', rfl⟩
  | _ :: _, _ :: _, _, _, k + 1, h, p => by
    obtain ⟨a, r, ha, h', rfl⟩ := h
    have p' := p
    obtain ⟨b, s, hb, _, rfl⟩ := p
    exact ⟨a, _, ha, VRs.over k h' p', rfl⟩

theorem VRs.repl : ∀ {l : List AV} {r : List Value} (n : Nat), VRs β l r → VRs β (repl n l) (repl n r)
  | _, _, 0, _ => by simp [Ev.repl, VRs]
  | _, _, n + 1, h => VRs.append h (VRs.repl n h)

theorem VR.cells {v : AV} {x : Value} (h : VR β v x) : VRs β v.cells x.cells.toList := by
  cases v with
  | agg c =>
    obtain ⟨c', hc, rfl⟩ := h
    simpa [AV.cells, Value.cells] using hc
  | ptr a => rcases a with _ | ⟨b, o⟩ <;> (have h' := h; simp only [VR] at h) <;> first | (subst h; exact ⟨_, [], h', VRs.nil, rfl⟩) | (obtain ⟨i, hi, rfl⟩ := h; exact ⟨_, [], h', VRs.nil, rfl⟩)
  | slice a l c => rcases a with _ | ⟨b, o⟩ <;> (have h' := h; simp only [VR] at h) <;> first | (subst h; exact ⟨_, [], h', VRs.nil, rfl⟩) | (obtain ⟨i, hi, rfl⟩ := h; exact ⟨_, [], h', VRs.nil, rfl⟩)
  | map a => rcases a with _ | b <;> (have h' := h; simp only [VR] at h) <;> first | (subst h; exact ⟨_, [], h', VRs.nil, rfl⟩) | (obtain ⟨i, hi, rfl⟩ := h; exact ⟨_, [], h', VRs.nil, rfl⟩)
  | func fn a c => have h' := h; obtain ⟨a', c', _, _, rfl⟩ := h; exact ⟨_, [], h', VRs.nil, rfl⟩
  | iface t v => have h' := h; obtain ⟨v', _, rfl⟩ := h; exact ⟨_, [], h', VRs.nil, rfl⟩
  | tuple c => have h' := h; obtain ⟨c', _, rfl⟩ := h; exact ⟨_, [], h', VRs.nil, rfl⟩
  | bool b => have h' := h; simp only [VR] at h; subst h; exact ⟨_, [], h', VRs.nil, rfl⟩
  | int k n => have h' := h; simp only [VR] at h; subst h; exact ⟨_, [], h', VRs.nil, rfl⟩
  | str l => have h' := h; simp only [VR] at h; subst h; exact ⟨_, [], h', VRs.nil, rfl⟩
  | nilFunc => have h' := h; simp only [VR] at h; subst h; exact ⟨_, [], h', VRs.nil, rfl⟩
  | nilIface => have h' := h; simp only [VR] at h; subst h; exact ⟨_, [], h', VRs.nil, rfl⟩
  | yield b => have h' := h; obtain ⟨i, hi, rfl⟩ := h; exact ⟨_, [], h', VRs.nil, rfl⟩
  | clip a l => have h' := h; obtain ⟨i, hi, rfl⟩ := h; exact ⟨_, [], h', VRs.nil, rfl⟩
  | rest b => have h' := h; obtain ⟨i, hi, o, c, rfl, _⟩ := h; exact ⟨_, [], h', VRs.nil, rfl⟩

theorem VR.one {v : AV} {x : Value} (h : VR β v x) (k : v.one = true) : x.oneCell' = true := by
  cases v with
  | agg c => simp [AV.one] at k
  | tuple c => simp [AV.one] at k
  | ptr a => rcases a with _ | ⟨b, o⟩ <;> simp only [VR] at h <;> first | (subst h; rfl) | (obtain ⟨i, hi, rfl⟩ := h; rfl)
  | slice a l c => rcases a with _ | ⟨b, o⟩ <;> simp only [VR] at h <;> first | (subst h; rfl) | (obtain ⟨i, hi, rfl⟩ := h; rfl)
  | map a => rcases a with _ | b <;> simp only [VR] at h <;> first | (subst h; rfl) | (obtain ⟨i, hi, rfl⟩ := h; rfl)
  | func fn a c => obtain ⟨a', c', _, _, rfl⟩ := h; rfl
  | iface t v => obtain ⟨v', _, rfl⟩ := h; rfl
  | bool b => simp only [VR] at h; subst h; rfl
  | int k n => simp only [VR] at h; subst h; rfl
  | str l => simp only [VR] at h; subst h; rfl
  | nilFunc => simp only [VR] at h; subst h; rfl
  | nilIface => simp only [VR] at h; subst h; rfl
  | yield b => obtain ⟨i, hi, rfl⟩ := h; rfl
  | clip a l => obtain ⟨i, hi, rfl⟩ := h; rfl
  | rest b => obtain ⟨i, hi, o, c, rfl, _⟩ := h; rfl

theorem VRs.one : ∀ {l : List AV} {r : List Value}, VRs β l r → l.all AV.one = true → ∀ x ∈ r, x.oneCell' = true
  | [], _, h, _ => by simp only [VRs] at h; subst h; simp
  | v :: l, _, h, k => by
    obtain ⟨a, r, ha, h', rfl⟩ := h
    simp only [List.all_cons, Bool.and_eq_true] at k
    intro x hx
    rcases List.mem_cons.1 hx with rfl | hx
    · exact ha.one k.1
    · exact VRs.one h' k.2 x hx
end lists

/-- The registers. -/
def RR (β : Ren) (r : Regs) (tmps : Array Value) : Prop :=
  ∀ t, (∀ v, T.get r t = some v → VR β v (tmps.getD t Go.undef)) ∧ (T.get r t = none → tmps.getD t Go.undef = Go.undef)

theorem RR.mono {β γ : Ren} (h : β.le γ) {r : Regs} {tmps : Array Value} (k : RR β r tmps) : RR γ r tmps :=
  fun t => ⟨fun v hv => ((k t).1 v hv).mono h _ _, (k t).2⟩

def X.toCode : X → Code
  | .normal => .skip
  | .exit i => .exit i
  | .ret => .ret

/-- A map of the world's, if any. -/
def IR (β : Ren) : Option Nat → Option Nat → Prop
  | none, x => x = none
  | some b, x => ∃ i, β b = some i ∧ x = some i.blk

theorem IR.mono {β γ : Ren} (h : β.le γ) : ∀ {m x : Option Nat}, IR β m x → IR γ m x
  | none, _, k => k
  | some b, _, ⟨i, hi, e⟩ => ⟨i, h _ _ hi, e⟩

/-- Two numbers as one; a whole number as a natural one. -/
def pairN (a b : Nat) : Nat := (a + b) * (a + b) + a
def codeI : Int → Nat
  | .ofNat n => 2 * n
  | .negSucc n => 2 * n + 1

theorem pairN_inj {a b c d : Nat} (h : pairN a b = pairN c d) : a = c ∧ b = d := by
  unfold pairN at h
  have key : ∀ {x y u v : Nat}, (x + y) * (x + y) + x = (u + v) * (u + v) + u → ¬ x + y < u + v := by
    intro x y u v h hlt
    have h1 : (x + y + 1) * (x + y + 1) ≤ (u + v) * (u + v) := Nat.mul_le_mul hlt hlt
    have h2 : (x + y + 1) * (x + y + 1) = (x + y) * (x + y) + 2 * (x + y) + 1 := by
      rw [Nat.add_mul, Nat.mul_add]
      omega
    omega
  have h1 := key h
  have h2 := key h.symm
  have e : a + b = c + d := by omega
  rw [e] at h
  omega

theorem codeI_inj {m n : Int} (h : codeI m = codeI n) : m = n := by
  unfold codeI at h
  cases m <;> cases n <;> simp only at h
  · congr 1; omega
  · omega
  · omega
  · congr 1; omega

/-- What an abstract object stands for. -/
def OR (β : Ren) (i : Info) (w : World) : AO → Prop
  | .row c e o z => ∃ cs : Array Value, w.heap[i.blk]? = some (.cells cs e (0, 0)) ∧ VRs β c (cs.toList.take c.length) ∧ i.asz = c.length ∧ i.esz = z ∧ cs.size = c.length + i.xtra * z ∧ (o = false → i.xtra = 0) ∧ i.off = 0
  | .map es k => ∃ ms : Array MapEntry, w.heap[i.blk]? = some (.map ms k) ∧ es.length = ms.size ∧ i.xtra = 0 ∧
      ∀ (j : Nat) (e : ME), es[j]? = some e → ∃ m, ms[j]? = some m ∧ VR β e.key m.key ∧ VR β e.val m.val ∧ m.born = e.born
  | .lit es => ∃ (ms : Array MapEntry) (k : Nat), w.heap[i.blk]? = some (.map ms k) ∧ i.xtra = 0 ∧ ∃ es' : List ME, (es'.map fun e => (e.key, e.val)).Perm (es.map fun e => (e.key, e.val)) ∧ es'.length = ms.size ∧
      ∀ (j : Nat) (e : ME), es'[j]? = some e → ∃ m, ms[j]? = some m ∧ VR β e.key m.key ∧ VR β e.val m.val ∧ m.born = e.born
  | .ro c z => ∃ (cs : Array Value) (e : TypeId) (fz : Nat × Nat), w.heap[i.blk]? = some (.cells cs e fz) ∧ VRs β c (cs.toList.take c.length) ∧ i.asz = c.length ∧ i.esz = z ∧ cs.size = c.length + i.xtra * z ∧ i.off = 0
  | .loop l => ∃ (f : FuncId) (tmps : Array Value) (d : Nat), w.heap[i.blk]? = some (.loop { state := l.st, pending := l.pend.map X.toCode, fn := f, tmps := tmps, params := l.ps, assign := l.assign, body := l.body, defers := d }) ∧ RR β l.r tmps ∧ l.nt ≤ tmps.size ∧ i.xtra = 0
  | .dfr o => w.heap[i.blk]? = some (.deferred (if o then some [] else none)) ∧ i.xtra = 0
  | .iter m since seen last => ∃ mb, w.heap[i.blk]? = some (.mapIter mb since seen.toArray last) ∧ IR β m mb ∧ i.xtra = 0 ∧ i.off = 0
  | .anyInt => ∃ (m : Int) (e f1 f2 : Nat), w.heap[i.blk]? = some (.cells #[.int .i64 m] e (f1, f2)) ∧ i.asz = e ∧ i.esz = pairN f1 f2 ∧ i.xtra = codeI m
  | .amb b l e o z => ∃ (j : Info) (c : List AV), β b = some j ∧ l[j.xtra]? = some c ∧
      ∃ cs : Array Value, w.heap[i.blk]? = some (.cells cs e (0, 0)) ∧ VRs β c (cs.toList.take c.length) ∧ i.asz = c.length ∧ i.esz = z ∧ cs.size = c.length + i.xtra * z ∧ (o = false → i.xtra = 0) ∧ i.off = 0
  | .win c e z => ∃ cs : Array Value, w.heap[i.blk]? = some (.cells cs e (0, 0)) ∧ VRs β c ((cs.toList.drop i.off).take c.length) ∧ i.asz = c.length ∧ i.esz = z ∧ cs.size = i.off + c.length + i.xtra * z
  | .tab k l => ∃ (e f1 f2 : Nat), w.heap[i.blk]? = some (.cells (l.map (Value.int k)).toArray e (f1, f2)) ∧ i.asz = e ∧ i.esz = pairN f1 f2 ∧ i.off = 0

/-- A number that is not known stands with its whole block. -/
theorem OR.anyInt_same {β γ : Ren} {i : Info} {w w' : World} (h : OR β i w .anyInt) (k : OR γ i w' .anyInt) : w'.heap[i.blk]? = w.heap[i.blk]? := by
  obtain ⟨m, e, f1, f2, h1, h2, h3, h4⟩ := h
  obtain ⟨m', e', f1', f2', k1, k2, k3, k4⟩ := k
  rw [h1, k1]
  have a1 : e' = e := k2.symm.trans h2
  obtain ⟨a2, a3⟩ := pairN_inj (k3.symm.trans h3)
  have a4 := codeI_inj (k4.symm.trans h4)
  rw [a1, a2, a3, a4]

/-- A table stands with its whole block. -/
theorem OR.tab_same {β γ : Ren} {i : Info} {w w' : World} {k : IntKind} {l : List Int} (h : OR β i w (.tab k l)) (q : OR γ i w' (.tab k l)) : w'.heap[i.blk]? = w.heap[i.blk]? := by
  obtain ⟨e, f1, f2, h1, h2, h3, _⟩ := h
  obtain ⟨e', f1', f2', k1, k2, k3, _⟩ := q
  rw [h1, k1]
  have a1 : e' = e := k2.symm.trans h2
  obtain ⟨a2, a3⟩ := pairN_inj (k3.symm.trans h3)
  rw [a1, a2, a3]

theorem OR.mono {β γ : Ren} (h : β.le γ) {i : Info} {w : World} : ∀ {o : AO}, OR β i w o → OR γ i w o
  | .row _ _ _ _, ⟨cs, a, b, r⟩ => ⟨cs, a, b.mono h _ _, r⟩
  | .map _ _, ⟨ms, a, b, x, c⟩ => ⟨ms, a, b, x, fun j e he => let ⟨m, h1, h2, h3, h4⟩ := c j e he; ⟨m, h1, h2.mono h _ _, h3.mono h _ _, h4⟩⟩
  | .ro _ _, ⟨cs, e, fz, a, b, r⟩ => ⟨cs, e, fz, a, b.mono h _ _, r⟩
  | .loop _, ⟨f, t, d, a, b, r⟩ => ⟨f, t, d, a, b.mono h, r⟩
  | .dfr _, k => k
  | .iter _ _ _ _, ⟨m, a, b, r⟩ => ⟨m, a, b.mono h, r⟩
  | .lit _, ⟨ms, k, a, x, es', p, l, c⟩ => ⟨ms, k, a, x, es', p, l, fun j e he => let ⟨m, h1, h2, h3, h4⟩ := c j e he; ⟨m, h1, h2.mono h _ _, h3.mono h _ _, h4⟩⟩
  | .anyInt, k => k
  | .amb _ _ _ _ _, ⟨j, c, hj, hc, cs, a, b, r⟩ => ⟨j, c, h _ _ hj, hc, cs, a, b.mono h _ _, r⟩
  | .win _ _ _, ⟨cs, a, b, r⟩ => ⟨cs, a, b.mono h _ _, r⟩
  | .tab _ _, k => k

theorem OR.lt {β : Ren} {i : Info} {w : World} : ∀ {o : AO}, OR β i w o → i.blk < w.heap.size
  | .row _ _ _ _, ⟨_, a, _⟩ => (Array.getElem?_eq_some_iff.1 a).1
  | .map _ _, ⟨_, a, _⟩ => (Array.getElem?_eq_some_iff.1 a).1
  | .ro _ _, ⟨_, _, _, a, _⟩ => (Array.getElem?_eq_some_iff.1 a).1
  | .loop _, ⟨_, _, _, a, _⟩ => (Array.getElem?_eq_some_iff.1 a).1
  | .dfr _, ⟨a, _⟩ => (Array.getElem?_eq_some_iff.1 a).1
  | .iter _ _ _ _, ⟨_, a, _⟩ => (Array.getElem?_eq_some_iff.1 a).1
  | .lit _, ⟨_, _, a, _⟩ => (Array.getElem?_eq_some_iff.1 a).1
  | .anyInt, ⟨_, _, _, _, a, _⟩ => (Array.getElem?_eq_some_iff.1 a).1
  | .amb _ _ _ _ _, ⟨_, _, _, _, _, a, _⟩ => (Array.getElem?_eq_some_iff.1 a).1
  | .win _ _ _, ⟨_, a, _⟩ => (Array.getElem?_eq_some_iff.1 a).1
  | .tab _ _, ⟨_, _, _, a, _⟩ => (Array.getElem?_eq_some_iff.1 a).1

theorem OR.keep {β : Ren} {i : Info} {w w' : World} (h : w'.heap[i.blk]? = w.heap[i.blk]?) : ∀ {o : AO}, OR β i w o → OR β i w' o
  | .row _ _ _ _, ⟨cs, a, r⟩ => ⟨cs, h.trans a, r⟩
  | .map _ _, ⟨ms, a, r⟩ => ⟨ms, h.trans a, r⟩
  | .ro _ _, ⟨cs, e, fz, a, r⟩ => ⟨cs, e, fz, h.trans a, r⟩
  | .loop _, ⟨f, t, d, a, r⟩ => ⟨f, t, d, h.trans a, r⟩
  | .dfr _, ⟨a, r⟩ => ⟨h.trans a, r⟩
  | .iter _ _ _ _, ⟨m, a, r⟩ => ⟨m, h.trans a, r⟩
  | .lit _, ⟨ms, k, a, r⟩ => ⟨ms, k, h.trans a, r⟩
  | .anyInt, ⟨m, e, f1, f2, a, r⟩ => ⟨m, e, f1, f2, h.trans a, r⟩
  | .amb _ _ _ _ _, ⟨j, c, hj, hc, cs, a, r⟩ => ⟨j, c, hj, hc, cs, h.trans a, r⟩
  | .win _ _ _, ⟨cs, a, r⟩ => ⟨cs, h.trans a, r⟩
  | .tab _ _, ⟨e, f1, f2, a, r⟩ => ⟨e, f1, f2, h.trans a, r⟩

/-- The abstract heap in a world. -/
structure Rel (β : Ren) (s : S) (w : World) : Prop where
  obj : ∀ b o, s.h.get b = some o → b < s.n ∧ ∃ i, β b = some i ∧ OR β i w o
  inj : ∀ b c o p i j, s.h.get b = some o → s.h.get c = some p → β b = some i → β c = some j → i.blk = j.blk → b = c

/-- What is no memory stands. -/
def Same (w v : World) : Prop := v.os = w.os ∧ v.tape = w.tape ∧ v.output = w.output

theorem Same.refl (w : World) : Same w w := ⟨rfl, rfl, rfl⟩
theorem Same.trans {a b c : World} (h : Same a b) (k : Same b c) : Same a c := ⟨k.1.trans h.1, k.2.1.trans h.2.1, k.2.2.trans h.2.2⟩

/-- From one state to a later one: what is known stays known, what the abstract heap does not hold stands. -/
structure Step (β : Ren) (s : S) (w : World) (γ : Ren) (t : S) (v : World) : Prop where
  le : β.le γ
  n : s.n ≤ t.n
  size : w.heap.size ≤ v.heap.size
  keep : ∀ k, k < w.heap.size → (∀ b o i, s.h.get b = some o → β b = some i → i.blk ≠ k) → v.heap[k]? = w.heap[k]?
  old : ∀ b o i, t.h.get b = some o → γ b = some i → i.blk < w.heap.size → ∃ c p j, s.h.get c = some p ∧ β c = some j ∧ j.blk = i.blk
  dom : ∀ b i, γ b = some i → β b = some i ∨ (s.n ≤ b ∧ b < t.n)
  env : Same w v

theorem Step.refl {β : Ren} {s : S} {w : World} : Step β s w β s w :=
  ⟨.refl β, Nat.le_refl _, Nat.le_refl _, fun _ _ _ => rfl, fun b o i h k _ => ⟨b, o, i, h, k, rfl⟩, fun _ _ h => .inl h, .refl w⟩

theorem Step.trans {β γ δ : Ren} {s t u : S} {w v x : World} (h : Step β s w γ t v) (k : Step γ t v δ u x) : Step β s w δ u x where
  le := h.le.trans k.le
  n := Nat.le_trans h.n k.n
  size := Nat.le_trans h.size k.size
  keep := fun b hb hn => by
    rw [k.keep b (Nat.lt_of_lt_of_le hb h.size) ?_, h.keep b hb hn]
    intro c o i hc hi e
    obtain ⟨d, p, j, hd, hj, e'⟩ := h.old c o i hc hi (e ▸ hb)
    exact hn d p j hd hj (e'.trans e)
  old := fun b o i hb hi hlt => by
    obtain ⟨c, p, j, hc, hj, e⟩ := k.old b o i hb hi (Nat.lt_of_lt_of_le hlt h.size)
    obtain ⟨d, q, l, hd, hl, e'⟩ := h.old c p j hc hj (e ▸ hlt)
    exact ⟨d, q, l, hd, hl, e'.trans e⟩
  dom := fun b i hb => by
    rcases k.dom b i hb with h1 | h1
    · rcases h.dom b i h1 with h2 | h2
      · exact .inl h2
      · exact .inr ⟨h2.1, Nat.lt_of_lt_of_le h2.2 k.n⟩
    · exact .inr ⟨Nat.le_trans h.n h1.1, h1.2⟩
  env := h.env.trans k.env

/-- The program is what the evaluator reads. -/
structure GOK (P : Program) (g : G) : Prop where
  prog : g.P = P
  fns : ∀ f F, g.fns.get f = some F → P.funcs[f]? = some F
  tys : ∀ t i, g.tys.get t = some i → P.info? t = some i
  mixed : P.follows .mixedOrders = true
  ix : ∀ fi, g.ix = some fi → ∃ gl, g.glo.get gl = some 0 ∧ ∀ (l sub : List UInt8) (w : World) (m : Int) (e : TypeId) (fz : Nat × Nat), l.length < 4294967281 → w.heap[gl]? = some (.cells #[.int .i64 m] e fz) →
    Calls P fi #[.string ⟨l.toArray⟩, .string ⟨sub.toArray⟩] w fun x w' => x = .returned (.int .i64 (Lib.index l sub)) ∧ w' = w

/-- The package-level variables that the evaluator knows. -/
def GloOK (g : G) (β : Ren) : Prop := ∀ x b, g.glo.get x = some b → ∃ i, β b = some i ∧ i.blk = x ∧ i.off = 0

theorem GloOK.mono {g : G} {β γ : Ren} (h : β.le γ) (k : GloOK g β) : GloOK g γ :=
  fun x b hb => let ⟨i, hi, e⟩ := k x b hb; ⟨i, h _ _ hi, e⟩

section types
variable {P : Program} {g : G} (hg : GOK P g)
include hg

theorem GOK.info {t : TypeId} {i : TypeInfo} (h : g.info t = some i) : P.info? t = some i := hg.tys t i h

theorem GOK.und {t : TypeId} {d : TypeDesc} (h : g.und t = some d) : P.underlying t = some d := by
  unfold G.und at h
  cases hi : g.info t with
  | none => rw [hi] at h; cases h
  | some i =>
    rw [hi] at h
    have hp := hg.info hi
    unfold Program.underlying
    rw [hp]
    obtain ⟨desc, str, size, bytes, hp1, al, fa, zero, comp, ms⟩ := i
    cases desc with
    | named nm u =>
      dsimp only at h ⊢
      cases hu : g.info u with
      | none => rw [hu] at h; cases h
      | some j => rw [hu] at h; rw [hg.info hu]; simpa using h
    | _ => simpa using h

theorem GOK.size {t : TypeId} {n : Nat} (h : g.size t = some n) : ∃ i, P.info? t = some i ∧ i.size = n := by
  unfold G.size at h
  cases hi : g.info t with
  | none => rw [hi] at h; cases h
  | some i => rw [hi] at h; simp at h; exact ⟨i, hg.info hi, h⟩

theorem GOK.zero (β : Ren) {t : TypeId} {z : AV} (h : g.zero t = some z) : ∃ i x, P.info? t = some i ∧ i.zero = some x ∧ VR β z x := by
  unfold G.zero at h
  cases hi : g.info t with
  | none => rw [hi] at h; cases h
  | some i =>
    rw [hi] at h
    dsimp only at h
    cases hz : i.zero with
    | none => rw [hz] at h; cases h
    | some x => rw [hz] at h; exact ⟨i, x, hg.info hi, hz, ofV_rel β x z h⟩
end types


/-- Deferred calls. -/
def DR1 (β : Ren) : AD → Deferred → Prop
  | .coll b, d => ∃ i, β b = some i ∧ d = { target := .collected i.blk, args := #[] }
  | .fn f args cap, d => ∃ xs ys, VRs β args xs ∧ VRs β cap ys ∧ d = { target := .fn (.func f) ys.toArray, args := xs.toArray }

def DR (β : Ren) : List AD → List Deferred → Prop
  | [], x => x = []
  | a :: l, x => ∃ d r, DR1 β a d ∧ DR β l r ∧ x = d :: r

theorem DR1.mono {β γ : Ren} (h : β.le γ) : ∀ {a : AD} {d : Deferred}, DR1 β a d → DR1 γ a d
  | .coll _, _, ⟨i, hi, e⟩ => ⟨i, h _ _ hi, e⟩
  | .fn _ _ _, _, ⟨xs, ys, a, b, e⟩ => ⟨xs, ys, a.mono h _ _, b.mono h _ _, e⟩

theorem DR.mono {β γ : Ren} (h : β.le γ) : ∀ {l : List AD} {x : List Deferred}, DR β l x → DR γ l x
  | [], _, k => k
  | _ :: _, _, ⟨d, r, a, b, e⟩ => ⟨d, r, a.mono h, b.mono h, e⟩

theorem DR.append {β : Ren} : ∀ {l m : List AD} {x y : List Deferred}, DR β l x → DR β m y → DR β (l ++ m) (x ++ y)
  | [], _, _, _, h, k => by simp only [DR] at h; subst h; exact k
  | a :: l, _, _, _, ⟨d, r, h1, h2, e⟩, k => by subst e; exact ⟨d, _, h1, h2.append k, rfl⟩

end Go.Proofs.YtgfbjbdfckgdjaaGreatDoor.Ev

namespace Go.Proofs.YtgfbjbdfckgdjaaGreatDoor.Ev
open Go.RowKit

def upd (β : Ren) (b : Nat) (i : Info) : Ren := fun x => if x = b then some i else β x

theorem upd_same (β : Ren) (b : Nat) (i : Info) : upd β b i b = some i := by simp [upd]
theorem upd_le {β : Ren} {b : Nat} {i : Info} (h : β b = none) : β.le (upd β b i) := by
  intro x j hx
  unfold upd
  split
  · rename_i e; subst e; rw [h] at hx; cases hx
  · exact hx

section moves
variable {β : Ren} {s : S} {w w' : World}

/-- An object changes. -/
theorem Rel.change {b : Nat} {o o' : AO} {i : Info} (hs : Rel β s w) (hb : s.h.get b = some o) (hi : β b = some i) (ho : OR β i w' o')
    (hsz : w'.heap.size = w.heap.size) (hk : ∀ k, k ≠ i.blk → w'.heap[k]? = w.heap[k]?) (he : Same w w') :
    Rel β { h := s.h.set b (some o'), n := s.n } w' ∧ Step β s w β { h := s.h.set b (some o'), n := s.n } w' := by
  have live : ∀ c, (∃ q, (s.h.set b (some o')).get c = some q) → ∃ q, s.h.get c = some q := by
    rintro c ⟨q, hq⟩
    rw [T.get_set] at hq
    split at hq
    · rename_i e; subst e; exact ⟨o, hb⟩
    · exact ⟨q, hq⟩
  refine ⟨⟨fun c q hc => ?_, fun c d q p j k hc hd hj hk' e => ?_⟩, .refl β, Nat.le_refl _, by omega, fun k _ hn => hk k fun e => hn b o i hb hi e.symm, fun c q j hc hj _ => ?_, fun _ _ h => .inl h, he⟩
  · dsimp only at hc ⊢
    rw [T.get_set] at hc
    split at hc
    · rename_i e
      subst e
      injection hc with hc
      subst hc
      exact ⟨(hs.obj c o hb).1, i, hi, ho⟩
    · rename_i e
      obtain ⟨hlt, j, hj, hoj⟩ := hs.obj c q hc
      refine ⟨hlt, j, hj, hoj.keep (hk _ fun e' => e ?_)⟩
      exact hs.inj c b q o j i hc hb hj hi e'
  · obtain ⟨q', hq'⟩ := live c ⟨q, hc⟩
    obtain ⟨p', hp'⟩ := live d ⟨p, hd⟩
    exact hs.inj c d q' p' j k hq' hp' hj hk' e
  · obtain ⟨q', hq'⟩ := live c ⟨q, hc⟩
    exact ⟨c, q', j, hq', hj, rfl⟩

/-- A new object, in a block of its own. -/
theorem Rel.new {o : AO} {i : Info} (hs : Rel β s w) (hn : β s.n = none) (hi : w.heap.size ≤ i.blk) (ho : OR (upd β s.n i) i w' o)
    (hsz : w.heap.size ≤ w'.heap.size) (hk : ∀ k, k < w.heap.size → w'.heap[k]? = w.heap[k]?) (he : Same w w') :
    Rel (upd β s.n i) (Ev.new s o) w' ∧ Step β s w (upd β s.n i) (Ev.new s o) w' := by
  have hle : β.le (upd β s.n i) := upd_le hn
  have cases_ : ∀ c q, (Ev.new s o).h.get c = some q → (c = s.n ∧ q = o) ∨ (c ≠ s.n ∧ s.h.get c = some q) := by
    intro c q hc
    unfold Ev.new at hc
    dsimp only at hc
    rw [T.get_set] at hc
    split at hc
    · rename_i e; injection hc with hc; exact .inl ⟨e, hc.symm⟩
    · rename_i e; exact .inr ⟨e, hc⟩
  refine ⟨⟨fun c q hc => ?_, fun c d q p j k hc hd hj hk' e => ?_⟩, hle, Nat.le_succ _, hsz, fun k hlt _ => hk k hlt, fun c q j hc hj hlt => ?_, fun c j hj => ?_, he⟩
  · rcases cases_ c q hc with ⟨rfl, rfl⟩ | ⟨hne, hc⟩
    · exact ⟨Nat.lt_succ_self _, i, upd_same .., ho⟩
    · obtain ⟨hlt, j, hj, hoj⟩ := hs.obj c q hc
      exact ⟨Nat.lt_succ_of_lt hlt, j, hle _ _ hj, (hoj.keep (hk _ hoj.lt)).mono hle⟩
  · rcases cases_ c q hc with ⟨rfl, rfl⟩ | ⟨hne, hc2⟩ <;> rcases cases_ d p hd with ⟨rfl, rfl⟩ | ⟨hne', hd2⟩
    · rfl
    · exfalso
      rw [upd_same] at hj
      injection hj with hj
      subst hj
      obtain ⟨_, j', hj', hoj⟩ := hs.obj d p hd2
      have := hle _ _ hj'
      rw [hk'] at this
      injection this with this
      subst this
      have := hoj.lt
      omega
    · exfalso
      rw [upd_same] at hk'
      injection hk' with hk'
      subst hk'
      obtain ⟨_, j', hj', hoj⟩ := hs.obj c q hc2
      have := hle _ _ hj'
      rw [hj] at this
      injection this with this
      subst this
      have := hoj.lt
      omega
    · obtain ⟨_, j', hj', _⟩ := hs.obj c q hc2
      obtain ⟨_, k', hk'', _⟩ := hs.obj d p hd2
      have h1 := hle _ _ hj'
      have h2 := hle _ _ hk''
      rw [hj] at h1
      rw [hk'] at h2
      injection h1 with h1
      injection h2 with h2
      subst h1; subst h2
      exact hs.inj c d q p _ _ hc2 hd2 hj' hk'' e
  · rcases cases_ c q hc with ⟨rfl, rfl⟩ | ⟨hne, hc⟩
    · rw [upd_same] at hj
      injection hj with hj
      subst hj
      omega
    · obtain ⟨_, j', hj', _⟩ := hs.obj c q hc
      have h1 := hle _ _ hj'
      rw [hj] at h1
      injection h1 with h1
      subst h1
      exact ⟨c, q, _, hc, hj', rfl⟩
  · unfold upd at hj
    split at hj
    · rename_i e; exact .inr ⟨by omega, by unfold Ev.new; dsimp only; omega⟩
    · exact .inl hj

/-- An object that is never looked at again. -/
theorem Rel.kill {b : Nat} (hs : Rel β s w) : Rel β { h := s.h.set b none, n := s.n } w ∧ Step β s w β { h := s.h.set b none, n := s.n } w := by
  have live : ∀ c q, (s.h.set b none).get c = some q → s.h.get c = some q := by
    intro c q hq
    rw [T.get_set] at hq
    split at hq
    · cases hq
    · exact hq
  exact ⟨⟨fun c q hc => hs.obj c q (live c q hc), fun c d q p j k hc hd hj hk e => hs.inj c d q p j k (live c q hc) (live d p hd) hj hk e⟩,
    .refl β, Nat.le_refl _, Nat.le_refl _, fun _ _ _ => rfl, fun c q j hc hj _ => ⟨c, q, j, live c q hc, hj, rfl⟩, fun _ _ h => .inl h, .refl w⟩

/-- An object that goes on in its block under another number. -/
theorem Rel.regrow {b : Nat} {o o' : AO} {i j : Info} (hs : Rel β s w) (hb : s.h.get b = some o) (hi : β b = some i) (hn : β s.n = none) (hj : j.blk = i.blk)
    (ho : OR (upd β s.n j) j w' o') (hsz : w'.heap.size = w.heap.size) (hk : ∀ k, k ≠ i.blk → w'.heap[k]? = w.heap[k]?) (he : Same w w') :
    Rel (upd β s.n j) (Ev.new { h := s.h.set b none, n := s.n } o') w' ∧ Step β s w (upd β s.n j) (Ev.new { h := s.h.set b none, n := s.n } o') w' := by
  have hle : β.le (upd β s.n j) := upd_le hn
  have hbn : b ≠ s.n := fun e => by have := (hs.obj b o hb).1; omega
  have cases_ : ∀ c q, (Ev.new { h := s.h.set b none, n := s.n } o').h.get c = some q → (c = s.n ∧ q = o') ∨ (c ≠ s.n ∧ c ≠ b ∧ s.h.get c = some q) := by
    intro c q hc
    unfold Ev.new at hc
    dsimp only at hc
    rw [T.get_set, T.get_set] at hc
    split at hc
    · rename_i e; injection hc with hc; exact .inl ⟨e, hc.symm⟩
    · rename_i e
      split at hc
      · cases hc
      · rename_i e'; exact .inr ⟨e, e', hc⟩
  have oldinfo : ∀ c q l, s.h.get c = some q → upd β s.n j c = some l → β c = some l := by
    intro c q l hc hl
    obtain ⟨_, l', hl', _⟩ := hs.obj c q hc
    have := hle _ _ hl'
    rw [hl] at this
    injection this with this
    rw [this]
    exact hl'
  have apart : ∀ c q l, s.h.get c = some q → c ≠ b → β c = some l → l.blk ≠ i.blk := fun c q l hc hne hl e => hne (hs.inj c b q o l i hc hb hl hi e)
  refine ⟨⟨fun c q hc => ?_, fun c d q p l k hc hd hl hk' e => ?_⟩, hle, Nat.le_succ _, by omega, fun k _ hn' => hk k fun e => hn' b o i hb hi e.symm, fun c q l hc hl _ => ?_, fun c l hl => ?_, he⟩
  · rcases cases_ c q hc with ⟨rfl, rfl⟩ | ⟨hne, hne', hc⟩
    · exact ⟨Nat.lt_succ_self _, j, upd_same .., ho⟩
    · obtain ⟨hlt, l, hl, hol⟩ := hs.obj c q hc
      exact ⟨Nat.lt_succ_of_lt hlt, l, hle _ _ hl, (hol.keep (hk _ (apart c q l hc hne' hl))).mono hle⟩
  · rcases cases_ c q hc with ⟨rfl, rfl⟩ | ⟨hne, hnb, hc2⟩ <;> rcases cases_ d p hd with ⟨rfl, rfl⟩ | ⟨hne', hnb', hd2⟩
    · rfl
    · exfalso
      rw [upd_same] at hl
      injection hl with hl
      subst hl
      exact apart d p k hd2 hnb' (oldinfo d p k hd2 hk') (by rw [← e, hj])
    · exfalso
      rw [upd_same] at hk'
      injection hk' with hk'
      subst hk'
      exact apart c q l hc2 hnb (oldinfo c q l hc2 hl) (by rw [e, hj])
    · exact hs.inj c d q p l k hc2 hd2 (oldinfo c q l hc2 hl) (oldinfo d p k hd2 hk') e
  · rcases cases_ c q hc with ⟨rfl, rfl⟩ | ⟨hne, hnb, hc⟩
    · rw [upd_same] at hl
      injection hl with hl
      subst hl
      exact ⟨b, o, i, hb, hi, hj.symm⟩
    · exact ⟨c, q, l, hc, oldinfo c q l hc hl, rfl⟩
  · unfold upd at hl
    split at hl
    · rename_i e; exact .inr ⟨by omega, by unfold Ev.new; dsimp only; omega⟩
    · exact .inl hl
end moves

/-- What a run of an operation may come to. -/
def Res (P : Program) (β : Ren) (s : S) (w : World) (run : Result Next) : R → Prop
  | .val v t => ∃ γ x w', run = .ok (.value x) w' ∧ VR γ v x ∧ Rel γ t w' ∧ Step β s w γ t w'
  | .skip t => ∃ γ w', run = .ok .skip w' ∧ Rel γ t w' ∧ Step β s w γ t w'
  | .enter f args t => ∃ args' : List Value, run = .ok (.enter f args'.toArray) w ∧ VRs β args args' ∧ t = s
  | .round b args t => ∃ (args' : List Value) (i : Info), β b = some i ∧ run = (Instr.yield i.blk args'.toArray).run P w ∧ VRs β args args' ∧ t = s

def R.st : R → S
  | .val _ t | .skip t | .enter _ _ t | .round _ _ t => t

/-- The numbers that are given next are free. -/
def Free (β : Ren) (s t : S) : Prop := ∀ b, s.n ≤ b → b < t.n → β b = none

section basics
variable {P : Program} {g : G} {β : Ren} {s : S} {w : World}

theorem Res.pure {v : AV} {x : Value} (hs : Rel β s w) (h : VR β v x) {run : Result Next} (hr : run = .ok (.value x) w) : Res P β s w run (.val v s) :=
  ⟨β, x, w, hr, h, hs, .refl⟩

/-- A new object's result. -/
theorem Res.new {v : AV} {x : Value} {o : AO} {O : Obj} {i : Info} (hs : Rel β s w) (hn : β s.n = none) (hi : i.blk = w.heap.size)
    (ho : OR (upd β s.n i) i { w with heap := w.heap.push O } o) (hx : VR (upd β s.n i) v x) {run : Result Next} (hr : run = .ok (.value x) { w with heap := w.heap.push O }) :
    Res P β s w run (.val v (Ev.new s o)) := by
  obtain ⟨h1, h2⟩ := hs.new hn (by omega) ho (by simp) (fun k hk => by
    dsimp only
    rw [Array.getElem?_push_lt hk, Array.getElem?_eq_getElem hk]) ⟨rfl, rfl, rfl⟩
  exact ⟨_, x, _, hr, hx, h1, h2⟩

theorem VRs.ints (β : Ren) (k : IntKind) : ∀ l : List Int, VRs β (l.map (AV.int k)) (l.map (Value.int k))
  | [] => VRs.nil
  | _ :: l => VRs.cons rfl (VRs.ints β k l)

theorem loadN_row {a : Nat × Nat} {n : Nat} {l : List AV} (h : loadN s a n = some l) (hs : Rel β s w) :
    ∃ i cs e fz, β a.1 = some i ∧ w.heap[i.blk]? = some (.cells cs e fz) ∧ i.off + a.2 + n ≤ cs.size ∧ VRs β l ((cs.toList.drop (i.off + a.2)).take n) := by
  unfold loadN at h
  split at h
  · rename_i c e o z hrow
    split at h
    · rename_i hle
      injection h with h
      obtain ⟨_, i, hi, cs, hc, hv, _, _, hz, _, hoff⟩ := hs.obj _ _ hrow
      have hle' : a.2 + n ≤ c.length := Nat.le_of_ble_eq_true hle
      refine ⟨i, cs, e, _, hi, hc, by omega, ?_⟩
      subst h
      have h1 := (hv.drop a.2).take n
      rw [hoff, Nat.zero_add]
      rwa [List.drop_take, List.take_take, Nat.min_eq_left (by omega)] at h1
    · cases h
  · rename_i c z hrow
    split at h
    · rename_i hle
      injection h with h
      obtain ⟨_, i, hi, cs, e, fz, hc, hv, _, _, hz, hoff⟩ := hs.obj _ _ hrow
      have hle' : a.2 + n ≤ c.length := Nat.le_of_ble_eq_true hle
      refine ⟨i, cs, e, fz, hi, hc, by omega, ?_⟩
      subst h
      have h1 := (hv.drop a.2).take n
      rw [hoff, Nat.zero_add]
      rwa [List.drop_take, List.take_take, Nat.min_eq_left (by omega)] at h1
    · cases h
  · rename_i c e z hrow
    split at h
    · rename_i hle
      injection h with h
      obtain ⟨_, i, hi, cs, hc, hv, _, _, hz⟩ := hs.obj _ _ hrow
      have hle' : a.2 + n ≤ c.length := Nat.le_of_ble_eq_true hle
      refine ⟨i, cs, e, _, hi, hc, by omega, ?_⟩
      subst h
      have h1 := (hv.drop a.2).take n
      rwa [List.drop_take, List.take_take, Nat.min_eq_left (by omega), List.drop_drop] at h1
    · cases h
  · rename_i k q hrow
    split at h
    · rename_i hle
      injection h with h
      obtain ⟨_, i, hi, e, f1, f2, hc, _, _, hoff⟩ := hs.obj _ _ hrow
      have hle' : a.2 + n ≤ q.length := Nat.le_of_ble_eq_true hle
      refine ⟨i, _, e, _, hi, hc, by simp; omega, ?_⟩
      subst h
      rw [hoff, Nat.zero_add]
      simpa using VRs.ints β k ((q.drop a.2).take n)
    · cases h
  · cases h

/-- The cells of a row, read one by one. -/
theorem run_cells {b o n : Nat} {cs : Array Value} {e : TypeId} {fz : Nat × Nat} (hc : w.heap[b]? = some (.cells cs e fz)) (hle : o + n ≤ cs.size) :
    (loadCells ⟨b, o, none⟩ n).run P w = .ok ((cs.toList.drop o).take n).toArray w := by
  have hl : ((cs.toList.drop o).take n).length = n := by simp; omega
  have := run_loadCells_list (P := P) (w := w) ⟨b, o, none⟩ ((cs.toList.drop o).take n) ?_
  · rwa [hl] at this
  · intro j v hj
    have hadd : (⟨b, o, none⟩ : Addr).add j = ⟨b, o + j, none⟩ := by unfold Addr.add; split <;> simp_all
    rw [hadd]
    rw [List.getElem?_take] at hj
    split at hj
    · rw [List.getElem?_drop] at hj
      simpa [World.cell?, hc] using hj
    · cases hj

theorem add_none (b o j : Nat) : (⟨b, o, none⟩ : Addr).add j = ⟨b, o + j, none⟩ := by unfold Addr.add; split <;> simp_all

/-- What is laid over a row. -/
theorem over_eq {α : Type} : ∀ (c : List α) (k : Nat) (vs : List α), k + vs.length ≤ c.length → over c k vs = c.take k ++ vs ++ c.drop (k + vs.length)
  | c, k, [], h => by
    simp only [List.append_nil, List.length_nil, Nat.add_zero, List.take_append_drop]
    cases c <;> cases k <;> rfl
  | [], k, v :: vs, h => by simp at h
  | x :: c, 0, v :: vs, h => by
    simp only [over, List.take_zero, List.nil_append, List.length_cons, List.cons_append]
    rw [over_eq c 0 vs (by simp at h ⊢; omega)]
    simp
  | x :: c, k + 1, v :: vs, h => by
    simp only [over]
    rw [over_eq c k (v :: vs) (by simp at h ⊢; omega)]
    have e : k + 1 + (v :: vs).length = k + (v :: vs).length + 1 := by omega
    rw [e, List.take_succ_cons, List.drop_succ_cons]
    rfl

theorem over_length {α : Type} : ∀ (c : List α) (k : Nat) (vs : List α), (over c k vs).length = c.length
  | [], k, [] => by cases k <;> rfl
  | [], k, _ :: _ => by simp [over]
  | _ :: _, 0, [] => by simp [over]
  | _ :: _, k + 1, [] => by simp [over]
  | x :: c, 0, v :: vs => by simp [over, over_length c 0 vs]
  | x :: c, k + 1, v :: vs => by simp [over, over_length c k (v :: vs)]

theorem over_take {α : Type} : ∀ (c : List α) (k n : Nat) (vs : List α), over (c.take n) k vs = (over c k vs).take n
  | c, k, n, [] => by
    have h : ∀ l : List α, over l k [] = l := fun l => by cases l <;> cases k <;> rfl
    rw [h, h]
  | [], k, n, v :: vs => by simp [over]
  | x :: c, k, 0, v :: vs => by cases k <;> simp [over]
  | x :: c, 0, n + 1, v :: vs => by simp only [List.take_succ_cons, over]; rw [over_take c 0 n vs]
  | x :: c, k + 1, n + 1, v :: vs => by simp only [List.take_succ_cons, over]; rw [over_take c k n (v :: vs)]

theorem over_drop {α : Type} : ∀ (c : List α) (k j : Nat) (vs : List α), (over c (k + j) vs).drop k = over (c.drop k) j vs
  | c, 0, j, vs => by simp
  | [], k + 1, j, [] => by
    have h : ∀ (l : List α) (m : Nat), over l m [] = l := fun l m => by cases l <;> cases m <;> rfl
    rw [h, h]
  | [], k + 1, j, v :: vs => by
    have h : ∀ m : Nat, over ([] : List α) m (v :: vs) = [] := fun m => by cases m <;> rfl
    simp [h]
  | x :: c, k + 1, j, [] => by
    have h : ∀ (l : List α) (m : Nat), over l m [] = l := fun l m => by cases l <;> cases m <;> rfl
    rw [h, h]
  | x :: c, k + 1, j, v :: vs => by
    have e : k + 1 + j = (k + j) + 1 := by omega
    rw [e]
    simp only [over, List.drop_succ_cons]
    exact over_drop c k j (v :: vs)

theorem storeN_row {a : Nat × Nat} {vs : List AV} {xs : List Value} {t : S} (h : storeN s a vs = some t) (hs : Rel β s w) (hv : VRs β vs xs) :
    ∃ i, β a.1 = some i ∧ ∃ w', (storeCells ⟨i.blk, i.off + a.2, none⟩ xs).run P w = .ok () w' ∧ Rel β t w' ∧ Step β s w β t w' := by
  unfold storeN at h
  split at h
  · rename_i c e o z hrow
    split at h
    · rename_i hb
      simp only [Bool.and_eq_true] at hb
      injection h with h
      obtain ⟨_, i, hi, cs, hc, hcv, ha, hz, hsz, hx, hoff⟩ := hs.obj _ _ hrow
      have hle : a.2 + vs.length ≤ c.length := Nat.le_of_ble_eq_true hb.1
      have hlen := hv.length
      have hrun := run_storeCells_at (P := P) i.blk a.2 e xs 0 cs w hc (by omega) (hv.one hb.2)
      simp only [Nat.add_zero] at hrun
      rw [← over_eq cs.toList a.2 xs (by simp; omega)] at hrun
      refine ⟨i, hi, _, by rw [hoff, Nat.zero_add]; exact hrun, ?_⟩
      subst h
      refine hs.change hrow hi ⟨_, setRow_heap w i.blk cs _ e _ hc, ?_, ?_, hz, ?_, hx, hoff⟩ (by simp) (fun k hk => setRow_other w i.blk k _ hk) ⟨rfl, rfl, rfl⟩
      · rw [List.toList_toArray, over_length, ← over_take]
        exact hcv.over a.2 hv
      · rw [over_length]; exact ha
      · rw [List.size_toArray, over_length, over_length]; simpa using hsz
    · cases h
  · rename_i c e z hrow
    split at h
    · rename_i hb
      simp only [Bool.and_eq_true] at hb
      injection h with h
      obtain ⟨_, i, hi, cs, hc, hcv, ha, hz, hsz⟩ := hs.obj _ _ hrow
      have hle : a.2 + vs.length ≤ c.length := Nat.le_of_ble_eq_true hb.1
      have hlen := hv.length
      have hrun := run_storeCells_at (P := P) i.blk (i.off + a.2) e xs 0 cs w hc (by omega) (hv.one hb.2)
      simp only [Nat.add_zero] at hrun
      rw [← over_eq cs.toList (i.off + a.2) xs (by simp; omega)] at hrun
      refine ⟨i, hi, _, hrun, ?_⟩
      subst h
      refine hs.change hrow hi ⟨_, setRow_heap w i.blk cs _ e _ hc, ?_, ?_, hz, ?_⟩ (by simp) (fun k hk => setRow_other w i.blk k _ hk) ⟨rfl, rfl, rfl⟩
      · rw [List.toList_toArray, over_length, over_drop, ← over_take]
        exact hcv.over a.2 hv
      · rw [over_length]; exact ha
      · rw [List.size_toArray, over_length, over_length]; simpa using hsz
    · cases h
  · cases h
end basics

section types
variable {P : Program} {g : G} (hg : GOK P g) {β : Ren} {s : S} {w : World}
include hg

theorem run_und {t : TypeId} {d : TypeDesc} (h : g.und t = some d) : (underlying t).run P w = .ok d w := run_underlying (hg.und h) w

theorem run_size {t : TypeId} {n : Nat} (h : g.size t = some n) : (sizeOf t).run P w = .ok n w := by
  obtain ⟨i, hi, rfl⟩ := hg.size h
  simp [sizeOf, run_typeInfo w hi]

theorem run_zero {t : TypeId} {z : AV} (h : g.zero t = some z) : ∃ x, (zeroValue t).run P w = .ok x w ∧ VR β z x := by
  obtain ⟨i, x, hi, hz, hx⟩ := hg.zero β h
  exact ⟨x, by simp [zeroValue, run_typeInfo w hi, hz], hx⟩

theorem run_agg {t : TypeId} {b : Bool} (h : g.isAgg t = some b) : (isAgg t).run P w = .ok b w := by
  unfold G.isAgg at h
  split at h
  · rename_i fs hu; injection h with h; subst h; simp [isAgg, run_und hg hu]
  · rename_i n e hu; injection h with h; subst h; simp [isAgg, run_und hg hu]
  · rename_i d hn1 hn2 hu
    injection h with h
    subst h
    simp only [isAgg, Sem.run_bind, run_und hg hu, Result.andThen_ok]
    cases d <;> first | rfl | exact absurd rfl (hn1 _) | exact absurd rfl (hn2 _ _) | (exfalso; first | exact hn1 _ rfl | exact hn2 _ _ rfl)
  · cases h

/-- A variable's value. -/
theorem loadVar_row {t : TypeId} {a : Nat × Nat} {v : AV} (h : loadVar g s t a = some v) (hs : Rel β s w) :
    ∃ i x, β a.1 = some i ∧ (Go.loadVar t ⟨i.blk, i.off + a.2, none⟩).run P w = .ok x w ∧ VR β v x := by
  unfold loadVar at h
  split at h
  · rename_i hagg
    split at h
    · rename_i n hn
      split at h
      · rename_i l hl
        injection h with h
        subst h
        obtain ⟨i, cs, e, fz, hi, hc, hle, hv⟩ := loadN_row hl hs
        refine ⟨i, .agg ((cs.toList.drop (i.off + a.2)).take n).toArray, hi, ?_, _, hv, rfl⟩
        simp only [Go.loadVar, Sem.run_bind, run_agg hg hagg, Result.andThen_ok, if_true, run_size hg hn, run_cells hc hle, Sem.run_pure]
      · cases h
    · cases h
  · rename_i hagg
    split at h
    · rename_i v' hl
      injection h with h
      subst h
      obtain ⟨i, cs, e, fz, hi, hc, hle, hv⟩ := loadN_row hl hs
      obtain ⟨x, r, hx, hr, e'⟩ := hv
      have hcell : w.cell? ⟨i.blk, i.off + a.2, none⟩ = some x := by
        have h1 : ((cs.toList.drop (i.off + a.2)).take 1)[0]? = some x := by rw [e']; rfl
        rw [List.getElem?_take] at h1
        simp only [Nat.zero_lt_one, if_true, List.getElem?_drop, Nat.add_zero, Array.getElem?_toList] at h1
        simpa [World.cell?, hc] using h1
      refine ⟨i, x, hi, ?_, hx⟩
      simp only [Go.loadVar, Sem.run_bind, run_agg hg hagg, Result.andThen_ok, Bool.false_eq_true, if_false, run_load, hcell]
    · cases h
  · cases h

/-- A part of an aggregate. -/
theorem part_row {t : TypeId} {cs : List AV} {off : Nat} {v : AV} {xs : List Value} (h : part g t cs off = some v) (hv : VRs β cs xs) :
    ∃ x, (Go.part t xs.toArray off).run P w = .ok x w ∧ VR β v x := by
  unfold part at h
  split at h
  · rename_i hagg
    split at h
    · rename_i n hn
      injection h with h
      subst h
      refine ⟨.agg ((xs.drop off).take n).toArray, ?_, _, (hv.drop off).take n, rfl⟩
      simp only [Go.part, Sem.run_bind, run_agg hg hagg, Result.andThen_ok, if_true, run_size hg hn, Sem.run_pure]
      congr 3
      apply Array.ext_getElem?
      intro j
      simp [List.getElem?_take, List.getElem?_drop]
    · cases h
  · rename_i hagg
    obtain ⟨x, hx, hvx⟩ := hv.get off v h
    refine ⟨x, ?_, hvx⟩
    simp only [Go.part, Sem.run_bind, run_agg hg hagg, Result.andThen_ok, Bool.false_eq_true, if_false]
    simp [hx]
  · cases h
end types

end Go.Proofs.YtgfbjbdfckgdjaaGreatDoor.Ev

namespace Go.Proofs.YtgfbjbdfckgdjaaGreatDoor.Ev
open Go.RowKit

/-- What a run that gives a value may come to. -/
def RV (β : Ren) (s : S) (w : World) (run : Result Value) : R → Prop
  | .val v t => ∃ γ x w', run = .ok x w' ∧ VR γ v x ∧ Rel γ t w' ∧ Step β s w γ t w'
  | _ => False

section
variable {P : Program} {g : G} {β : Ren} {s : S} {w : World}

theorem RV.res {X : Sem Value} {r : R} (h : RV β s w (X.run P w) r) : Res P β s w ((X >>= fun a => (Pure.pure (Next.value a) : Sem Next)).run P w) r := by
  cases r with
  | val v t =>
    obtain ⟨γ, x, w', hr, hx, hs, hst⟩ := h
    exact ⟨γ, x, w', by simp [hr], hx, hs, hst⟩
  | skip t => exact h.elim
  | enter f a t => exact h.elim
  | round b a t => exact h.elim

theorem RV.pure {v : AV} {x : Value} (hs : Rel β s w) (h : VR β v x) {run : Result Value} (hr : run = .ok x w) : RV β s w run (.val v s) :=
  ⟨β, x, w, hr, h, hs, .refl⟩

theorem vr1 {v : AV} {x : Value} (h : VRs β [v] [x]) : VR β v x := by
  obtain ⟨a, r, ha, _, e⟩ := h
  injection e with e _
  exact e ▸ ha
theorem vr2 {v u : AV} {x y : Value} (h : VRs β [v, u] [x, y]) : VR β v x ∧ VR β u y := by
  obtain ⟨a, r, ha, hr, e⟩ := h
  injection e with e e'
  subst e; subst e'
  exact ⟨ha, vr1 hr⟩
theorem vr3 {v u t : AV} {x y z : Value} (h : VRs β [v, u, t] [x, y, z]) : VR β v x ∧ VR β u y ∧ VR β t z := by
  obtain ⟨a, r, ha, hr, e⟩ := h
  injection e with e e'
  subst e; subst e'
  exact ⟨ha, vr2 hr⟩

theorem VR.int_iff {k : IntKind} {n : Int} {x : Value} (h : VR β (.int k n) x) : x = .int k n := h
theorem VR.ptr_some {b o : Nat} {x : Value} (h : VR β (.ptr (some (b, o))) x) : ∃ i, β b = some i ∧ x = .pointer (some ⟨i.blk, i.off + o, none⟩) := h

/-- A new row. -/
theorem OR.row {c : List AV} {xs rest : List Value} {e : TypeId} {o : Bool} {z m : Nat} {γ : Ren} (h : VRs γ c xs) (hr : rest.length = m * z) (ho : o = false → m = 0) :
    OR γ ⟨w.heap.size, c.length, z, m, 0⟩ { w with heap := w.heap.push (.cells (xs ++ rest).toArray e (0, 0)) } (.row c e o z) := by
  refine ⟨(xs ++ rest).toArray, by simp, ?_, rfl, rfl, by simp [hr, h.length], ho, rfl⟩
  have := h.length
  simp [this]
  exact h

theorem OR.row0 {c : List AV} {xs : Array Value} {e : TypeId} {γ : Ren} {z : Nat} (h : VRs γ c xs.toList) :
    OR γ ⟨w.heap.size, c.length, z, 0, 0⟩ { w with heap := w.heap.push (.cells xs e (0, 0)) } (.row c e false z) := by
  have := OR.row (w := w) (e := e) (o := false) (z := z) (m := 0) (rest := []) h (by simp) (fun _ => rfl)
  simpa using this

/-- A new row's pointer. -/
theorem RV.row {c : List AV} {xs : Array Value} {e : TypeId} (hs : Rel β s w) (hn : β s.n = none) (h : VRs β c xs.toList) {X : Sem Value} {v : AV} {x : Value}
    (hr : X.run P w = .ok x { w with heap := w.heap.push (.cells xs e (0, 0)) }) (hx : VR (upd β s.n ⟨w.heap.size, c.length, 1, 0, 0⟩) v x) :
    RV β s w (X.run P w) (.val v (Ev.new s (.row c e false 1))) := by
  obtain ⟨h1, h2⟩ := hs.new (i := ⟨w.heap.size, c.length, 1, 0, 0⟩) (o := .row c e false 1) (w' := { w with heap := w.heap.push (.cells xs e (0, 0)) }) hn (Nat.le_refl _)
    (OR.row0 (h.mono (upd_le hn) _ _)) (by simp) (fun k hk => by
      dsimp only
      rw [Array.getElem?_push_lt hk, Array.getElem?_eq_getElem hk]) ⟨rfl, rfl, rfl⟩
  exact ⟨_, x, _, hr, hx, h1, h2⟩

theorem new_free {o : AO} (hf : Free β s (Ev.new s o)) : β s.n = none := hf s.n (Nat.le_refl _) (Nat.lt_succ_self _)
end

section ops
variable {P : Program} {g : G} (hg : GOK P g) {β : Ren} {s : S} {w : World} (hs : Rel β s w)

section
include hg hs

theorem ex_alloc {t : TypeId} {z : AV} (hz : g.zero t = some z) (hn : β s.n = none) :
    RV β s w ((Instr.alloc t true (.tuple #[])).run P w) (.val (.ptr (some (s.n, 0))) (Ev.new s (.row z.cells t false 1))) := by
  obtain ⟨x, hx, hv⟩ := run_zero hg (β := β) (w := w) hz
  refine RV.row hs hn hv.cells ?_ ⟨_, upd_same .., rfl⟩
  simp [Instr.alloc, hx, newVar, newRow]

omit hg in
theorem ex_box {t : TypeId} {v : AV} {x : Value} (hv : VR β v x) (hn : β s.n = none) :
    RV β s w ((Instr.box t x).run P w) (.val (.ptr (some (s.n, 0))) (Ev.new s (.row v.cells t false 1))) := by
  refine RV.row hs hn hv.cells ?_ ⟨_, upd_same .., rfl⟩
  simp [Instr.box, newVar, newRow]

theorem ex_load {t : TypeId} {a : Nat × Nat} {v : AV} {x : Value} (h : loadVar g s t a = some v) (hx : VR β (.ptr (some a)) x) :
    RV β s w ((Instr.loadAt t x).run P w) (.val v s) := by
  obtain ⟨b, o⟩ := a
  obtain ⟨i, hi, rfl⟩ := hx
  obtain ⟨j, y, hj, hr, hy⟩ := loadVar_row hg h hs
  dsimp only at hj hr
  rw [hi] at hj
  injection hj with hj
  subst hj
  exact RV.pure hs hy (by simp [Instr.loadAt, Instr.sureAddr, hr])

theorem ex_store {t : TypeId} {a v : AV} {r : R} {x y : Value} (h : exStore g s t a v = some r) (hx : VR β a x) (hy : VR β v y) :
    Res P β s w ((Instr.storeAt t x y >>= fun _ => (Pure.pure Next.skip : Sem Next)).run P w) r := by
  unfold exStore at h
  split at h
  · rename_i a'
    obtain ⟨b, o⟩ := a'
    obtain ⟨i, hi, rfl⟩ := hx
    split at h
    · rename_i n hn
      split at h
      · rename_i hlen
        split at h
        · rename_i t' ht
          injection h with h
          subst h
          obtain ⟨j, hj, w', hr, hrel, hst⟩ := storeN_row (P := P) ht hs hy.cells
          dsimp only at hj hr
          rw [hi] at hj
          injection hj with hj
          subst hj
          have hl := hy.cells.length
          have hl' : y.cells.size = n := by rw [← hlen, hl]; simp
          refine ⟨β, w', ?_, hrel, hst⟩
          simp [Instr.storeAt, Instr.sureAddr, storeVar, run_size hg hn, hl', hr]
        · cases h
      · cases h
    · cases h
  · cases h

theorem ex_fieldAddr {t : TypeId} {a : AV} {f : Nat} {r : R} {x : Value} (h : exFieldAddr g s t a f = some r) (hx : VR β a x) : RV β s w ((Instr.fieldAt t x f).run P w) r := by
  unfold exFieldAddr at h
  split at h
  · rename_i fs hu
    split at h
    · rename_i a'
      obtain ⟨b, o⟩ := a'
      obtain ⟨i, hi, rfl⟩ := hx
      split at h
      · rename_i fd hf
        split at h
        · rename_i n hn
          injection h with h
          subst h
          refine RV.pure hs (x := .pointer (some ⟨i.blk, i.off + (o + fd.offset), none⟩)) (by exact ⟨i, hi, rfl⟩) ?_
          simp [Instr.fieldAt, run_und hg hu, hf, Instr.sureAddr, fieldPlace, run_size hg hn, add_none, Nat.add_assoc]
        · cases h
      · cases h
    · cases h
  · cases h

theorem ex_field {t : TypeId} {a : AV} {f : Nat} {r : R} {x : Value} (h : exField g s t a f = some r) (hx : VR β a x) : RV β s w ((Instr.field t x f).run P w) r := by
  unfold exField at h
  split at h
  · rename_i fs hu
    split at h
    · rename_i cs
      obtain ⟨xs, hxs, rfl⟩ := hx
      split at h
      · rename_i fd hf
        unfold valO at h
        split at h
        · rename_i v hv
          injection h with h
          subst h
          obtain ⟨y, hy, hvy⟩ := part_row hg (w := w) hv hxs
          exact RV.pure hs hvy (by simp [Instr.field, run_und hg hu, hf, asAgg, hy])
        · cases h
      · cases h
    · cases h
  · cases h

theorem ex_indexAddr {t : TypeId} {a b : AV} {r : R} {x y : Value} (h : exIndexAddr g s t a b = some r) (hx : VR β a x) (hy : VR β b y) : RV β s w ((Instr.indexAt t x y).run P w) r := by
  unfold exIndexAddr at h
  split at h
  · rename_i e k i hu
    have hy := hy.int_iff
    subst hy
    split at h
    · rename_i a' len cap
      obtain ⟨b, o⟩ := a'
      obtain ⟨j, hj, rfl⟩ := hx
      split at h
      · rename_i size hsz
        split at h
        · rename_i hb
          injection h with h
          subst h
          refine RV.pure hs (x := .pointer (some ⟨j.blk, j.off + (o + i.toNat * size), none⟩)) (by exact ⟨j, hj, rfl⟩) ?_
          simp [Instr.indexAt, asIntOf, run_und hg hu, hb, run_size hg hsz, add_none, Nat.add_assoc]
        · cases h
      · cases h
    · rename_i a' len
      obtain ⟨b, o⟩ := a'
      obtain ⟨j, hj, rfl⟩ := hx
      split at h
      · rename_i size hsz
        split at h
        · rename_i hb
          injection h with h
          subst h
          refine RV.pure hs (x := .pointer (some ⟨j.blk, j.off + (o + i.toNat * size), none⟩)) (by exact ⟨j, hj, rfl⟩) ?_
          simp [Instr.indexAt, asIntOf, run_und hg hu, hb, run_size hg hsz, add_none, Nat.add_assoc]
        · cases h
      · cases h
    · cases h
  · rename_i len e k i hu
    have hy := hy.int_iff
    subst hy
    split at h
    · rename_i a'
      obtain ⟨b, o⟩ := a'
      obtain ⟨j, hj, rfl⟩ := hx
      split at h
      · rename_i size hsz
        split at h
        · rename_i hb
          injection h with h
          subst h
          refine RV.pure hs (x := .pointer (some ⟨j.blk, j.off + (o + i.toNat * size), none⟩)) (by exact ⟨j, hj, rfl⟩) ?_
          simp [Instr.indexAt, asIntOf, Instr.sureAddr, run_und hg hu, hb, run_size hg hsz, add_none, Nat.add_assoc]
        · cases h
      · cases h
    · cases h
  · cases h

theorem ex_index {t : TypeId} {a b : AV} {r : R} {x y : Value} (h : exIndex g s t a b = some r) (hx : VR β a x) (hy : VR β b y) : RV β s w ((Instr.index t x y).run P w) r := by
  unfold exIndex at h
  split at h
  · rename_i len e k i hu
    have hy := hy.int_iff
    subst hy
    split at h
    · rename_i cs
      obtain ⟨xs, hxs, rfl⟩ := hx
      split at h
      · rename_i size hsz
        split at h
        · rename_i hb
          unfold valO at h
          split at h
          · rename_i v hv
            injection h with h
            subst h
            obtain ⟨y, hy, hvy⟩ := part_row hg (w := w) hv hxs
            exact RV.pure hs hvy (by simp [Instr.index, asIntOf, run_und hg hu, hb, run_size hg hsz, hy])
          · cases h
        · cases h
      · cases h
    · cases h
  · rename_i k i hu
    have hy := hy.int_iff
    subst hy
    split at h
    · rename_i l
      simp only [VR] at hx
      subst hx
      split at h
      · rename_i hb
        split at h
        · rename_i c hc
          injection h with h
          subst h
          refine RV.pure hs (x := .int .u8 c.toNat) (by exact rfl) ?_
          have : (⟨l.toArray⟩ : ByteArray)[i.toNat]? = some c := by
            obtain ⟨h1, h2⟩ := List.getElem?_eq_some_iff.1 hc
            have h3 : i.toNat < (⟨l.toArray⟩ : ByteArray).size := by simpa [ByteArray.size] using h1
            rw [getElem?_pos (⟨l.toArray⟩ : ByteArray) i.toNat h3]
            exact congrArg some h2
          simp [Instr.index, asIntOf, run_und hg hu, hb, this]
        · cases h
      · cases h
    · cases h
  · cases h

omit hg in
theorem ex_binInt {op : BinOp} {t : TypeId} {k : IntKind} {a b : Int} {v : AV} (h : binInt op k a b = some v) : RV β s w ((Go.binOp op t (.int k a) (.int k b)).run P w) (.val v s) := by
  cases op <;> simp only [binInt] at h
  case shl => cases h
  case shr => cases h
  case quo =>
    split at h
    · cases h
    · rename_i hb
      injection h with h
      subst h
      exact RV.pure hs (by exact rfl) (by simp [Go.binOp, Op.intDiv, hb])
  case rem =>
    split at h
    · cases h
    · rename_i hb
      injection h with h
      subst h
      exact RV.pure hs (by exact rfl) (by simp [Go.binOp, Op.intDiv, hb])
  all_goals
    injection h with h
    subst h
    exact RV.pure hs (by exact rfl) (by simp [Go.binOp, Op.intArith, Op.intBits, Op.intCmp])

omit hg in
theorem ex_shift {op : BinOp} {t : TypeId} {k k' : IntKind} {a b : Int} {v : AV} (ho : op = .shl ∨ op = .shr) (h : shiftI op k a b = some v) :
    RV β s w ((Go.binOp op t (.int k a) (.int k' b)).run P w) (.val v s) := by
  unfold shiftI at h
  split at h
  · cases h
  · rename_i hb
    rcases ho with rfl | rfl
    all_goals
      injection h with h
      subst h
      exact RV.pure hs (by exact rfl) (by simp [Go.binOp, Op.shift, hb])

omit hg in
theorem ex_binStr {op : BinOp} {t : TypeId} {a b : List UInt8} {v : AV} (h : binStr op a b = some v) :
    RV β s w ((Go.binOp op t (.string ⟨a.toArray⟩) (.string ⟨b.toArray⟩)).run P w) (.val v s) := by
  have ea : (ByteArray.mk a.toArray).toList = a := by rw [ByteArray.toList_eq]
  have eb : (ByteArray.mk b.toArray).toList = b := by rw [ByteArray.toList_eq]
  cases op <;> simp only [binStr] at h <;> first | cases h | skip
  case add =>
    split at h
    · cases h
    · rename_i hb
      injection h with h
      subst h
      have : ByteArray.mk (a ++ b).toArray = ByteArray.mk a.toArray ++ ByteArray.mk b.toArray := by
        apply ByteArray.ext
        simp
      refine RV.pure hs (x := .string ⟨(a ++ b).toArray⟩) (by exact rfl) ?_
      have hsz : (ByteArray.mk a.toArray).size = a.length := rfl
      have hsz' : (ByteArray.mk b.toArray).size = b.length := rfl
      simp only [Go.binOp, Op.stringOp, hsz, hsz']
      rw [if_neg hb, this]
      rfl
  all_goals
    refine RV.pure hs (by exact rfl) ?_
    simp [Go.binOp, Op.stringOp, ea, eb]
end


theorem eq_fields (hg : GOK P g) {d : Nat} {xs ys : List AV} {xs' ys' : List Value} (hx : VRs β xs xs') (hy : VRs β ys ys')
    (ih : ∀ t x y x' y' b, eqV g d t x y = some b → VR β x x' → VR β y y' → (Op.equalIn d t x' y').run P w = .ok b w) : ∀ (fs : List Field) (b : Bool),
    fs.foldr (fun f k =>
          if f.name ≠ "_" then
            match part g f.type xs f.offset, part g f.type ys f.offset with
            | some a, some b => match eqV g d f.type a b with
              | some true => k
              | some false => some false
              | none => none
            | _, _ => none
          else k) (some true) = some b → (Op.eqFields d xs'.toArray ys'.toArray fs).run P w = .ok b w
  | [], b, h => by
    simp only [List.foldr_nil, Option.some.injEq] at h
    subst h
    simp [Op.eqFields]
  | f :: fs, b, h => by
    rw [List.foldr_cons] at h
    unfold Op.eqFields
    split at h
    · rename_i hn
      rw [if_pos hn]
      split at h
      · rename_i a c ha hc
        obtain ⟨a', ha', hva⟩ := part_row hg (w := w) ha hx
        obtain ⟨c', hc', hvc⟩ := part_row hg (w := w) hc hy
        split at h
        · rename_i he
          have := ih _ _ _ _ _ _ he hva hvc
          simp only [Sem.run_bind, ha', hc', this, Result.andThen_ok, Bool.not_true, Bool.false_eq_true, if_false]
          exact eq_fields hg hx hy ih fs b h
        · rename_i he
          injection h with h
          subst h
          have := ih _ _ _ _ _ _ he hva hvc
          simp [ha', hc', this]
        · cases h
      · cases h
    · rename_i hn
      rw [if_neg hn]
      exact eq_fields hg hx hy ih fs b h

theorem fieldsOf_eq {t : TypeId} {fs : Array Field} (h : P.underlying t = some (.struct fs)) : P.fieldsOf t = fs := by simp [Program.fieldsOf, h]

/-- '==' of two arrays, element by element. -/
def eqElems (d : Nat) (e : TypeId) (z : Nat) (xs ys : Array Value) : List Nat → Sem Bool
  | [] => pure true
  | i :: l => do
    let a ← Go.part e xs (i * z)
    let b ← Go.part e ys (i * z)
    let r ← Op.equalIn d e a b
    if (!r) = true then pure false else eqElems d e z xs ys l

theorem run_equalIn_array (d : Nat) (t : TypeId) (n : Nat) (e : TypeId) (z : Nat) (xs ys : Array Value) (ht : P.underlying t = some (.array n e)) (hz : ∀ W : World, (sizeOf e).run P W = .ok z W) :
    (Op.equalIn (d + 1) t (.agg xs) (.agg ys)).run P w = (eqElems d e z xs ys (List.range n)).run P w := by
  simp only [Op.equalIn, Sem.run_bind, run_underlying ht, Result.andThen_ok, hz, Std.Legacy.Range.forIn_eq_forIn_range', Std.Legacy.Range.size, Nat.sub_zero, Nat.add_sub_cancel, Nat.div_one, List.range_eq_range']
  generalize List.range' 0 n = l
  clear ht
  induction l generalizing w with
  | nil => simp [eqElems]
  | cons i l ih =>
    simp only [List.forIn_cons, eqElems, Sem.run_bind, Sem.run_ite]
    generalize (Go.part e xs (i * z)).run P w = r1
    cases r1 with
    | ok a w1 =>
      simp only [Result.andThen_ok]
      generalize (Go.part e ys (i * z)).run P w1 = r2
      cases r2 with
      | ok b w2 =>
        simp only [Result.andThen_ok]
        generalize (Op.equalIn d e a b).run P w2 = r3
        cases r3 with
        | ok r w3 =>
          cases r
          · simp only [Result.andThen_ok, Bool.not_false, if_true, Sem.run_pure]
          · simp only [Result.andThen_ok, Bool.not_true, Bool.false_eq_true, if_false, Sem.run_pure]
            exact ih
        | halt x w3 => simp [Result.andThen]
      | halt x w2 => simp [Result.andThen]
    | halt x w1 => simp [Result.andThen]

theorem eq_elems (hg : GOK P g) {d z : Nat} {e : TypeId} {xs ys : List AV} {xs' ys' : List Value} (hx : VRs β xs xs') (hy : VRs β ys ys')
    (ih : ∀ t x y x' y' b, eqV g d t x y = some b → VR β x x' → VR β y y' → (Op.equalIn d t x' y').run P w = .ok b w) : ∀ (l : List Nat) (b : Bool),
    l.foldr (fun i k =>
          match part g e xs (i * z), part g e ys (i * z) with
          | some a, some b => match eqV g d e a b with
            | some true => k
            | some false => some false
            | none => none
          | _, _ => none) (some true) = some b → (eqElems d e z xs'.toArray ys'.toArray l).run P w = .ok b w
  | [], b, h => by
    simp only [List.foldr_nil, Option.some.injEq] at h
    subst h
    simp [eqElems]
  | i :: l, b, h => by
    rw [List.foldr_cons] at h
    unfold eqElems
    split at h
    · rename_i a c ha hc
      obtain ⟨a', ha', hva⟩ := part_row hg (w := w) ha hx
      obtain ⟨c', hc', hvc⟩ := part_row hg (w := w) hc hy
      split at h
      · rename_i he
        have := ih _ _ _ _ _ _ he hva hvc
        simp only [Sem.run_bind, ha', hc', this, Result.andThen_ok, Bool.not_true, Bool.false_eq_true, if_false]
        exact eq_elems hg hx hy ih l b h
      · rename_i he
        injection h with h
        subst h
        have := ih _ _ _ _ _ _ he hva hvc
        simp [ha', hc', this]
      · cases h
    · cases h

theorem ex_eq (hg : GOK P g) : ∀ (d : Nat) (t : TypeId) (x y : AV) (x' y' : Value) (b : Bool), eqV g d t x y = some b → VR β x x' → VR β y y' → (Op.equalIn d t x' y').run P w = .ok b w
  | 0, t, x, y, x', y', b, h, _, _ => by simp [eqV] at h
  | d + 1, t, x, y, x', y', b, h, hx, hy => by
    unfold eqV at h
    split at h
    · rename_i hu
      split at h
      · injection h with h; subst h; simp only [VR] at hx hy; subst hx; subst hy; simp [Op.equalIn, run_und hg hu]
      · cases h
    · rename_i k hu
      split at h
      · split at h
        · rename_i hk; injection h with h; subst h; simp only [VR] at hx hy; subst hx; subst hy; simp [Op.equalIn, run_und hg hu, hk]
        · cases h
      · cases h
    · rename_i hu
      split at h
      · rename_i l m
        injection h with h; subst h; simp only [VR] at hx hy; subst hx; subst hy
        simp only [Op.equalIn, Sem.run_bind, run_und hg hu, Result.andThen_ok, Sem.run_pure]
        rw [beq_toListBytes, ByteArray.toList_eq, ByteArray.toList_eq]
      · cases h
    · rename_i e hu
      split at h
      · rename_i c
        injection h with h; subst h
        simp only [VR] at hx; subst hx
        rcases c with _ | ⟨c, o⟩ <;> simp only [VR] at hy
        · subst hy; simp [Op.equalIn, run_und hg hu]
        · obtain ⟨i, _, rfl⟩ := hy; simp [Op.equalIn, run_und hg hu]
      · rename_i c
        injection h with h; subst h
        obtain ⟨c, o⟩ := c
        obtain ⟨i, _, rfl⟩ := hx
        simp only [VR] at hy; subst hy; simp [Op.equalIn, run_und hg hu]
      · rename_i c d'
        obtain ⟨c, o⟩ := c
        obtain ⟨c', o'⟩ := d'
        dsimp only at h
        split at h
        · rename_i n hc hsz
          injection h with h; subst h
          have hc' := Nat.eq_of_beq_eq_true hc
          subst hc'
          obtain ⟨i, hi, rfl⟩ := hx
          obtain ⟨j, hj, rfl⟩ := hy
          rw [hi] at hj
          injection hj with hj
          subst hj
          have hb : ((⟨i.blk, i.off + o, none⟩ : Addr) == ⟨i.blk, i.off + o', none⟩) = Nat.beq o o' := by
            cases hq : Nat.beq o o' with
            | true => have := Nat.eq_of_beq_eq_true hq; subst this; simp
            | false => have := Nat.ne_of_beq_eq_false hq; simp [this]
          simp [Op.equalIn, run_und hg hu, run_size hg hsz, sameAddr, hb]
        · cases h
      · cases h
    · rename_i ms hu
      split at h
      · injection h with h; subst h; simp only [VR] at hx hy; subst hx; subst hy; simp [Op.equalIn, run_und hg hu]
      · injection h with h; subst h; simp only [VR] at hx; subst hx; obtain ⟨v', _, rfl⟩ := hy; simp [Op.equalIn, run_und hg hu]
      · injection h with h; subst h; simp only [VR] at hy; subst hy; obtain ⟨v', _, rfl⟩ := hx; simp [Op.equalIn, run_und hg hu]
      · cases h
    · rename_i e hu
      split at h
      · rename_i c m n
        injection h with h; subst h
        simp only [VR] at hx; subst hx
        rcases c with _ | ⟨c, o⟩ <;> simp only [VR] at hy
        · subst hy; simp [Op.equalIn, run_und hg hu]
        · obtain ⟨i, _, rfl⟩ := hy; simp [Op.equalIn, run_und hg hu]
      · rename_i c _ _ _ _
        injection h with h; subst h
        obtain ⟨c, o⟩ := c
        obtain ⟨i, _, rfl⟩ := hx
        simp only [VR] at hy; subst hy; simp [Op.equalIn, run_und hg hu]
      · cases h
    · rename_i k e hu
      split at h
      · rename_i c
        injection h with h; subst h
        simp only [VR] at hx; subst hx
        rcases c with _ | c <;> simp only [VR] at hy
        · subst hy; simp [Op.equalIn, run_und hg hu]
        · obtain ⟨i, _, rfl⟩ := hy; simp [Op.equalIn, run_und hg hu]
      · rename_i c
        injection h with h; subst h
        obtain ⟨i, _, rfl⟩ := hx
        simp only [VR] at hy; subst hy; simp [Op.equalIn, run_und hg hu]
      · cases h
    · rename_i k1 k2 k3 hu
      split at h
      · injection h with h; subst h; simp only [VR] at hx hy; subst hx; subst hy; simp [Op.equalIn, run_und hg hu]
      · injection h with h; subst h; simp only [VR] at hx; subst hx; obtain ⟨_, _, _, _, rfl⟩ := hy; simp [Op.equalIn, run_und hg hu]
      · injection h with h; subst h; simp only [VR] at hy; subst hy; obtain ⟨_, _, _, _, rfl⟩ := hx; simp [Op.equalIn, run_und hg hu]
      · cases h
    · rename_i fs hu
      split at h
      · rename_i xs ys
        split at h
        · cases h
        · rename_i hst
          obtain ⟨xs', hxs, rfl⟩ := hx
          obtain ⟨ys', hys, rfl⟩ := hy
          have hp := hg.und hu
          have hf := fieldsOf_eq hp
          rw [run_equalIn_struct w d t xs'.toArray ys'.toArray (by rw [hf]; exact hp) (by rw [← hg.prog]; exact hst), hf]
          exact eq_fields hg hxs hys (fun t x y x' y' b h1 h2 h3 => ex_eq hg d t x y x' y' b h1 h2 h3) fs.toList b h
      · cases h
    · rename_i n e hu
      split at h
      · rename_i xs ys z hz
        obtain ⟨xs', hxs, rfl⟩ := hx
        obtain ⟨ys', hys, rfl⟩ := hy
        rw [run_equalIn_array (w := w) d t n e z xs'.toArray ys'.toArray (hg.und hu) (fun W => run_size hg hz)]
        exact eq_elems hg hxs hys (fun t x y x' y' b h1 h2 h3 => ex_eq hg d t x y x' y' b h1 h2 h3) (List.range n) b h
      · cases h
    · cases h

theorem run_guard_int (op : BinOp) (t : TypeId) (x y : Operand) (k k' : IntKind) (a b : Int) : (eqGuard op t x y (.int k a) (.int k' b)).run P w = .ok () w := by
  cases op <;> simp [eqGuard]
theorem run_guard_str (op : BinOp) (t : TypeId) (x y : Operand) (a b : ByteArray) : (eqGuard op t x y (.string a) (.string b)).run P w = .ok () w := by
  cases op <;> simp [eqGuard]

theorem run_guard (hg : GOK P g) {op : BinOp} {t : TypeId} {x y : Operand} {a b : AV} {a' b' : Value} (h : eqOk g t x y a b = true) (ha : VR β a a') (hb : VR β b b') (ho : op = .eql ∨ op = .neq) :
    (eqGuard op t x y a' b').run P w = .ok () w := by
  have nilnil : a' = .nilIface → b' = .nilIface → a = .nilIface ∧ b = .nilIface := by
    intro e1 e2
    subst e1; subst e2
    constructor
    · cases a <;> first | rfl | (exfalso; first | (simp [VR] at ha; done) | (rename_i c; rcases c with _ | ⟨c, o⟩ <;> simp [VR] at ha) | (rename_i c _ _; rcases c with _ | ⟨c, o⟩ <;> simp [VR] at ha) | (rename_i c; rcases c with _ | c <;> simp [VR] at ha) | (obtain ⟨_, _, _, _, h, _⟩ := ha; cases h))
    · cases b <;> first | rfl | (exfalso; first | (simp [VR] at hb; done) | (rename_i c; rcases c with _ | ⟨c, o⟩ <;> simp [VR] at hb) | (rename_i c _ _; rcases c with _ | ⟨c, o⟩ <;> simp [VR] at hb) | (rename_i c; rcases c with _ | c <;> simp [VR] at hb) | (obtain ⟨_, _, _, _, h, _⟩ := hb; cases h))
  have aggagg : ∀ p q, a' = .agg p → b' = .agg q → (∃ p', a = .agg p') ∧ ∃ q', b = .agg q' := by
    intro p q e1 e2
    subst e1; subst e2
    constructor
    · cases a <;> first | exact ⟨_, rfl⟩ | (exfalso; first | (simp [VR] at ha; done) | (rename_i c; rcases c with _ | ⟨c, o⟩ <;> simp [VR] at ha) | (rename_i c _ _; rcases c with _ | ⟨c, o⟩ <;> simp [VR] at ha) | (rename_i c; rcases c with _ | c <;> simp [VR] at ha) | (obtain ⟨_, _, _, _, h, _⟩ := ha; cases h))
    · cases b <;> first | exact ⟨_, rfl⟩ | (exfalso; first | (simp [VR] at hb; done) | (rename_i c; rcases c with _ | ⟨c, o⟩ <;> simp [VR] at hb) | (rename_i c _ _; rcases c with _ | ⟨c, o⟩ <;> simp [VR] at hb) | (rename_i c; rcases c with _ | c <;> simp [VR] at hb) | (obtain ⟨_, _, _, _, h, _⟩ := hb; cases h))
  unfold eqGuard
  have hop : (!(match op with | .eql | .neq => true | _ => false)) = false := by rcases ho with rfl | rfl <;> rfl
  by_cases h1 : a' = .nilIface ∧ b' = .nilIface
  · obtain ⟨e1, e2⟩ := nilnil h1.1 h1.2
    obtain ⟨e3, e4⟩ := h1
    subst e1; subst e2; subst e3; subst e4
    unfold eqOk at h
    dsimp only at h
    split at h
    · rcases ho with rfl | rfl <;> simp
    · rcases ho with rfl | rfl <;> simp
    · cases h
  · by_cases h2 : ∃ p q, a' = .agg p ∧ b' = .agg q
    · obtain ⟨p, q, e3, e4⟩ := h2
      obtain ⟨⟨p', e1⟩, q', e2⟩ := aggagg p q e3 e4
      subst e1; subst e2; subst e3; subst e4
      unfold eqOk at h
      simp only [Bool.not_eq_true'] at h
      rw [hg.prog] at h
      rcases ho with rfl | rfl <;> simp [h]
    · rcases ho with rfl | rfl
      all_goals
        simp only [Bool.not_true, Bool.false_eq_true, if_false, Sem.run_bind, Sem.run_pure, Result.andThen_ok]
        cases a' <;> cases b' <;> first | rfl | exact absurd ⟨rfl, rfl⟩ h1 | exact absurd ⟨_, _, rfl, rfl⟩ h2


end ops
end Go.Proofs.YtgfbjbdfckgdjaaGreatDoor.Ev

namespace Go.Proofs.YtgfbjbdfckgdjaaGreatDoor.Ev
open Go.RowKit

section
variable {P : Program} {g : G} {β : Ren} {s : S} {w : World}

theorem VR.shape {a : AV} {x : Value} (h : VR β a x) : (∀ k n, x = .int k n → a = .int k n) ∧ (∀ l, x = .string l → ∃ l', a = .str l') ∧ (∀ k n, x ≠ .float k n) ∧ (∀ k n m, x ≠ .complex k n m) := by
  cases a with
  | ptr a => rcases a with _ | ⟨b, o⟩ <;> simp only [VR] at h <;> first | (subst h; simp) | (obtain ⟨i, hi, rfl⟩ := h; simp)
  | slice a l c => rcases a with _ | ⟨b, o⟩ <;> simp only [VR] at h <;> first | (subst h; simp) | (obtain ⟨i, hi, rfl⟩ := h; simp)
  | map a => rcases a with _ | b <;> simp only [VR] at h <;> first | (subst h; simp) | (obtain ⟨i, hi, rfl⟩ := h; simp)
  | func fn a c => obtain ⟨a', c', _, _, rfl⟩ := h; simp
  | iface t v => obtain ⟨v', _, rfl⟩ := h; simp
  | agg c => obtain ⟨c', _, rfl⟩ := h; simp
  | tuple c => obtain ⟨c', _, rfl⟩ := h; simp
  | bool b => simp only [VR] at h; subst h; simp
  | int k n => simp only [VR] at h; subst h; simp
  | str l => simp only [VR] at h; subst h; simp
  | nilFunc => simp only [VR] at h; subst h; simp
  | nilIface => simp only [VR] at h; subst h; simp
  | yield b => obtain ⟨i, hi, rfl⟩ := h; simp
  | clip a l => obtain ⟨i, hi, rfl⟩ := h; simp
  | rest b => obtain ⟨i, hi, o, c, rfl, _⟩ := h; simp

theorem VR.of_int {a : AV} {k : IntKind} {n : Int} (h : VR β a (.int k n)) : a = .int k n := h.shape.1 k n rfl
theorem VR.of_str {a : AV} {l : ByteArray} (h : VR β a (.string l)) : ∃ l', a = .str l' := h.shape.2.1 l rfl
theorem VR.not_float {a : AV} {k : FloatKind} {n : Nat} (h : VR β a (.float k n)) : False := h.shape.2.2.1 k n rfl
theorem VR.not_complex {a : AV} {k : FloatKind} {n m : Nat} (h : VR β a (.complex k n m)) : False := h.shape.2.2.2 k n m rfl

theorem eql_eq {t : TypeId} {x y : Value} (h1 : ∀ k n j m, ¬ (x = .int k n ∧ y = .int j m)) (h2 : ∀ k n, x ≠ .float k n) (h3 : ∀ k n m, x ≠ .complex k n m) (h4 : ∀ p q, ¬ (x = .string p ∧ y = .string q)) :
    Go.binOp .eql t x y = (do pure (.bool (← Op.equal t x y))) := by
  cases x <;> first
    | exact absurd rfl (h2 _ _)
    | exact absurd rfl (h3 _ _ _)
    | (cases y <;> first | rfl | exact absurd ⟨rfl, rfl⟩ (h1 _ _ _ _) | exact absurd ⟨rfl, rfl⟩ (h4 _ _))

theorem neq_eq {t : TypeId} {x y : Value} (h1 : ∀ k n j m, ¬ (x = .int k n ∧ y = .int j m)) (h2 : ∀ k n, x ≠ .float k n) (h3 : ∀ k n m, x ≠ .complex k n m) (h4 : ∀ p q, ¬ (x = .string p ∧ y = .string q)) :
    Go.binOp .neq t x y = (do pure (.bool (!(← Op.equal t x y)))) := by
  cases x <;> first
    | exact absurd rfl (h2 _ _)
    | exact absurd rfl (h3 _ _ _)
    | (cases y <;> first | rfl | exact absurd ⟨rfl, rfl⟩ (h1 _ _ _ _) | exact absurd ⟨rfl, rfl⟩ (h4 _ _))

theorem ex_binOp (hg : GOK P g) (hs : Rel β s w) {op : BinOp} {t : TypeId} {ox oy : Operand} {a b v : AV} {x y : Value} (h : binOp g op t ox oy a b = some v) (hx : VR β a x) (hy : VR β b y) :
    RV β s w ((do eqGuard op t ox oy x y; Go.binOp op t x y : Sem Value).run P w) (.val v s) := by
  have guarded : ∀ {v}, (eqGuard op t ox oy x y).run P w = .ok () w → RV β s w ((Go.binOp op t x y).run P w) (.val v s) → RV β s w ((do eqGuard op t ox oy x y; Go.binOp op t x y : Sem Value).run P w) (.val v s) := by
    intro v hgd hr
    obtain ⟨γ, x', w', hr', rest⟩ := hr
    exact ⟨γ, x', w', by simp [hgd, hr'], rest⟩
  unfold binOp at h
  split at h
  · have hx := hx.int_iff
    have hy := hy.int_iff
    subst hx; subst hy
    refine guarded (run_guard_int ..) ?_
    split at h
    · exact ex_shift hs (.inl rfl) h
    · exact ex_shift hs (.inr rfl) h
    · split at h
      · rename_i hk
        subst hk
        exact ex_binInt hs h
      · cases h
  · simp only [VR] at hx hy
    subst hx; subst hy
    exact guarded (run_guard_str ..) (ex_binStr hs h)
  · rename_i hn1 hn2
    split at h
    · split at h
      · rename_i hok
        split at h
        · rename_i b' he
          injection h with h
          subst h
          have hq := ex_eq (w := w) hg _ _ _ _ _ _ _ he hx hy
          refine guarded (run_guard hg hok hx hy (.inl rfl)) (RV.pure hs (by exact rfl) ?_)
          have e1 : (Go.binOp .eql t x y).run P w = (((Op.equal t x y).run P w).andThen fun b w' => .ok (.bool b) w') := by
            rw [eql_eq (fun k n j m e => hn1 k n j m (VR.of_int (e.1 ▸ hx)) (VR.of_int (e.2 ▸ hy))) (fun k n e => VR.not_float (e ▸ hx)) (fun k n m e => VR.not_complex (e ▸ hx)) (fun p q e => by
              obtain ⟨p', hp⟩ := VR.of_str (e.1 ▸ hx)
              obtain ⟨q', hq⟩ := VR.of_str (e.2 ▸ hy)
              exact hn2 p' q' hp hq)]
            simp
          rw [e1]
          unfold Op.equal
          rw [hq]
          rfl
        · cases h
      · cases h
    · split at h
      · rename_i hok
        split at h
        · rename_i b' he
          injection h with h
          subst h
          have hq := ex_eq (w := w) hg _ _ _ _ _ _ _ he hx hy
          refine guarded (run_guard hg hok hx hy (.inr rfl)) (RV.pure hs (by exact rfl) ?_)
          have e1 : (Go.binOp .neq t x y).run P w = (((Op.equal t x y).run P w).andThen fun b w' => .ok (.bool (!b)) w') := by
            rw [neq_eq (fun k n j m e => hn1 k n j m (VR.of_int (e.1 ▸ hx)) (VR.of_int (e.2 ▸ hy))) (fun k n e => VR.not_float (e ▸ hx)) (fun k n m e => VR.not_complex (e ▸ hx)) (fun p q e => by
              obtain ⟨p', hp⟩ := VR.of_str (e.1 ▸ hx)
              obtain ⟨q', hq⟩ := VR.of_str (e.2 ▸ hy)
              exact hn2 p' q' hp hq)]
            simp
          rw [e1]
          unfold Op.equal
          rw [hq]
          rfl
        · cases h
      · cases h
    · cases h

theorem ex_conv (hg : GOK P g) (hs : Rel β s w) {src dst : TypeId} {a v : AV} {x : Value} (h : conv g src dst a = some v) (hx : VR β a x) : RV β s w ((Go.convert src dst x).run P w) (.val v s) := by
  unfold conv at h
  split at h
  · rename_i d k hu1 hu2
    split at h
    · injection h with h
      subst h
      simp only [VR] at hx
      subst hx
      exact RV.pure hs (by exact rfl) (by simp [Go.convert, run_und hg hu1, run_und hg hu2, Conv.intToInt])
    · cases h
  · rename_i hu1 hu2
    split at h
    · injection h with h
      subst h
      simp only [VR] at hx
      subst hx
      exact RV.pure hs (by exact rfl) (by simp [Go.convert, run_und hg hu1, run_und hg hu2])
    · cases h
  · cases h

theorem shut_row {b n : Nat} {e : TypeId} (h : shut s b = some (n, e)) (hs : Rel β s w) {i : Info} (hi : β b = some i) : w.shape? i.blk = some (e, n) := by
  unfold shut at h
  split at h
  · rename_i c e' z hrow
    injection h with h
    injection h with h1 h2
    subst h1; subst h2
    obtain ⟨_, j, hj, cs, hc, _, _, _, hz, hx⟩ := hs.obj _ _ hrow
    rw [hi] at hj
    injection hj with hj
    subst hj
    have : cs.size = c.length := by rw [hz, hx.1 rfl]; simp
    simp [World.shape?, hc, this]
  · cases h

theorem shut_off {b n : Nat} {e : TypeId} (h : shut s b = some (n, e)) (hs : Rel β s w) {i : Info} (hi : β b = some i) : i.off = 0 := by
  unfold shut at h
  split at h
  · rename_i c e' z hrow
    obtain ⟨_, j, hj, cs, hc, _, _, _, hz, hx, hoff⟩ := hs.obj _ _ hrow
    rw [hi] at hj
    injection hj with hj
    subst hj
    exact hoff
  · cases h

theorem freeze_other (w : World) (a : Addr) (n k : Nat) (hk : k ≠ a.block) : (w.freeze a n).heap[k]? = w.heap[k]? := by
  unfold World.freeze
  split
  · rfl
  · simp only [Array.getElem?_modify]
    rw [if_neg (fun e => hk e.symm)]

theorem freeze_at (w : World) (a : Addr) (n : Nat) (cs : Array Value) (e : TypeId) (fz : Nat × Nat) (h : w.heap[a.block]? = some (.cells cs e fz)) : ∃ fz', (w.freeze a n).heap[a.block]? = some (.cells cs e fz') := by
  unfold World.freeze
  split
  · exact ⟨fz, h⟩
  · simp only [Array.getElem?_modify, if_true, h, Option.map_some]
    exact ⟨_, rfl⟩

theorem freeze_size (w : World) (a : Addr) (n : Nat) : (w.freeze a n).heap.size = w.heap.size := by
  unfold World.freeze
  split <;> simp

theorem freeze_same (w : World) (a : Addr) (n : Nat) : Same w (w.freeze a n) := by
  unfold World.freeze
  split <;> exact ⟨rfl, rfl, rfl⟩

theorem bytes_rel (β : Ren) : ∀ l : List UInt8, VRs β (l.map fun b => AV.int .u8 b.toNat) (l.map fun b => Value.int .u8 b.toNat)
  | [] => VRs.nil
  | _ :: l => VRs.cons rfl (bytes_rel β l)

theorem bytesL_eq : ∀ {l : List AV} {r : List UInt8} {xs : List Value}, bytesL l = some r → VRs β l xs → xs = r.map fun b => Value.int .u8 b.toNat
  | [], r, xs, h, hv => by simp only [bytesL, Option.some.injEq] at h; subst h; simpa [VRs] using hv
  | v :: l, r, xs, h, hv => by
    unfold bytesL at h
    split at h
    · rename_i heq
      cases heq
    · rename_i n l' heq
      injection heq with h1 h2
      subst h1; subst h2
      split at h
      · rename_i hn
        split at h
        · rename_i r' hr
          injection h with h
          subst h
          obtain ⟨a, q, ha, hq, rfl⟩ := hv
          simp only [VR] at ha
          subst ha
          rw [bytesL_eq hr hq]
          have : ((UInt8.ofNat n.toNat).toNat : Int) = n := by
            rw [UInt8.toNat_ofNat']
            omega
          rw [List.map_cons, this]
        · cases h
      · cases h
    · cases h

theorem foldl_bytes : ∀ (r : List UInt8) (s : ByteArray), (r.map fun b => (b.toNat : Int)).foldl (fun r n => r.push (UInt8.ofNat n.toNat)) s = ⟨s.data ++ r.toArray⟩
  | [], s => by cases s; simp
  | b :: r, s => by
    rw [List.map_cons, List.foldl_cons, foldl_bytes r]
    have : UInt8.ofNat ((b.toNat : Int)).toNat = b := by simp
    rw [this]
    cases s
    simp [ByteArray.push]

theorem ex_convS (hg : GOK P g) (hs : Rel β s w) {src dst : TypeId} {a v : AV} {t : S} {x : Value} (h : convS g s src dst a = some (v, t)) (hx : VR β a x) (hf : Free β s t) : RV β s w ((Go.convert src dst x).run P w) (.val v t) := by
  unfold convS at h
  split at h
  · rename_i d hu1 hu2
    split at h
    · injection h with h
      injection h with h1 h2
      subst h1; subst h2
      simp only [VR] at hx
      subst hx
      exact RV.pure hs (by exact rfl) (by simp [Go.convert, run_und hg hu1, run_und hg hu2, Conv.unsafePointer])
    · rename_i b
      split at h
      · rename_i n e k hsh hsz
        split at h
        · rename_i hlt
          injection h with h
          injection h with h1 h2
          subst h1; subst h2
          obtain ⟨bb, o⟩ := b
          have hx0 := hx
          obtain ⟨i, hi, rfl⟩ := hx
          have h1 := shut_row hsh hs hi
          have h2 : o < n := Nat.le_of_ble_eq_true hlt
          have h3 : ¬ n ≤ o := by omega
          have h4 := shut_off hsh hs hi
          exact RV.pure hs hx0 (by simp [Go.convert, run_und hg hu1, run_und hg hu2, Conv.unsafePointer, Conv.seenAt, viewAt, cellsIn, h1, run_size hg hsz, h3, h4])
        · cases h
      · cases h
    · cases h
  · rename_i u hu1 hu2
    split at h
    · injection h with h
      injection h with h1 h2
      subst h1; subst h2
      simp only [VR] at hx
      subst hx
      exact RV.pure hs (by exact rfl) (by simp [Go.convert, run_und hg hu1, run_und hg hu2, Conv.unsafePointer])
    · rename_i b
      split at h
      · rename_i n e m hsh hsz
        split at h
        · rename_i hlies
          injection h with h
          injection h with h1 h2
          subst h1; subst h2
          obtain ⟨bb, o⟩ := b
          have hx0 := hx
          obtain ⟨i, hi, rfl⟩ := hx
          have h1 := shut_row hsh hs hi
          have h4 := shut_off hsh hs hi
          rw [hg.prog] at hlies
          dsimp only at hlies
          refine RV.pure hs hx0 ?_
          simp only [Go.convert, Sem.run_bind, run_und hg hu1, run_und hg hu2, Result.andThen_ok, Conv.unsafePointer, Conv.seenAt, viewAt, run_shape, h1, Option.isSome_some, if_true, Sem.run_pure]
          simp [run_size hg hsz, variablesAt, h1, hlies, h4]
        · cases h
      · cases h
    · cases h
  · rename_i e hu1 hu2
    split at h
    · rename_i l hu3
      injection h with h
      injection h with h1 h2
      subst h1; subst h2
      simp only [VR] at hx
      subst hx
      have hn : β s.n = none := hf s.n (Nat.le_refl _) (Nat.lt_succ_self _)
      have hsz : (⟨l.toArray⟩ : ByteArray).size = l.length := by simp [ByteArray.size]
      obtain ⟨m, hm⟩ : ∃ m, (Question.appendCap l.length 0 e).cut (w.tape w.drawn (.appendCap l.length 0 e)) = l.length + m := ⟨_, rfl⟩
      obtain ⟨fz, hfz⟩ := freeze_at ({ w with drawn := w.drawn + 1, heap := w.heap.push (.cells ((l.map fun b => Value.int .u8 b.toNat).toArray ++ Array.replicate m (.int .u8 0)) e) } : World) { block := w.heap.size, off := l.length + m } 1
        ((l.map fun b => Value.int .u8 b.toNat).toArray ++ Array.replicate m (.int .u8 0)) e (0, 0) (by simp)
      obtain ⟨h1, h2⟩ := hs.new (i := ⟨w.heap.size, l.length, 1, m, 0⟩) (o := .ro (l.map fun b => .int .u8 b.toNat) 1)
        (w' := ({ w with drawn := w.drawn + 1, heap := w.heap.push (.cells ((l.map fun b => Value.int .u8 b.toNat).toArray ++ Array.replicate m (.int .u8 0)) e) } : World).freeze { block := w.heap.size, off := l.length + m } 1) hn (Nat.le_refl _)
        ⟨_, _, _, hfz, by
          have := bytes_rel (upd β s.n ⟨w.heap.size, l.length, 1, m, 0⟩) l
          simpa using this, by simp, rfl, by simp, rfl⟩ (by rw [freeze_size]; simp) (fun k hk => by
          rw [freeze_other _ _ _ _ (by dsimp only; omega)]
          simp [Array.getElem?_push_lt hk]) (Same.trans ⟨rfl, rfl, rfl⟩ (freeze_same _ _ _))
      refine ⟨_, .slice (some ⟨w.heap.size, 0, none⟩) l.length (l.length + m), _, ?_, ⟨_, upd_same .., by simp⟩, h1, h2⟩
      have hcc : l.length + m - l.length = m := by omega
      have hsh : (w.drew.alloc (.cells ((l.map fun b => Value.int .u8 b.toNat).toArray ++ Array.replicate m (.int .u8 0)) e)).shape? w.heap.size = some (e, l.length + m) := by
        show (match (w.heap.push _)[w.heap.size]? with | some (.cells c elem _) => some (elem, c.size) | _ => none) = _
        simp
      simp [Go.convert, run_und hg hu1, run_und hg hu2, run_und hg hu3, Conv.stringToBytes, hsz, Question.forced, hm, newRow, markStringish, hsh, hcc]
      rfl
    · cases h
  · rename_i e hu1 hu2
    split at h
    · rename_i a' n c hu3
      split at h
      · rename_i l hl
        split at h
        · rename_i r hr
          injection h with h
          injection h with h1 h2
          subst h1; subst h2
          obtain ⟨b, o⟩ := a'
          obtain ⟨i, hi, rfl⟩ := hx
          obtain ⟨j, cs, e', fz, hj, hc, hle, hv⟩ := loadN_row hl hs
          dsimp only at hj hle hv
          rw [hi] at hj
          injection hj with hj
          subst hj
          refine RV.pure hs (by exact rfl) ?_
          rw [run_convert_bytes_string w src dst e _ _ _ (hg.und hu1) (hg.und hu3) (hg.und hu2)]
          have hcells := run_cells (P := P) (w := w) (o := i.off + o) (n := n) hc (by omega)
          rw [bytesL_eq hr hv] at hcells
          have hmap : (r.map fun b => Value.int .u8 b.toNat) = (r.map fun b => (b.toNat : Int)).map (Value.int .u8) := by simp
          rw [hmap] at hcells
          rw [run_bytesToString w _ _ _ _ hcells, foldl_bytes]
          simp [ByteArray.empty, ByteArray.emptyWithCapacity]
          rfl
        · cases h
      · cases h
    · injection h with h
      injection h with h1 h2
      subst h1; subst h2
      rename_i hu3
      simp only [VR] at hx
      subst hx
      refine RV.pure hs (by exact rfl) ?_
      rw [run_convert_bytes_string w src dst e _ _ _ (hg.und hu1) (hg.und hu3) (hg.und hu2)]
      simp [Conv.bytesToString, ByteArray.empty, ByteArray.emptyWithCapacity]
      rfl
    · cases h
  · split at h
    · rename_i v' hv
      injection h with h
      injection h with h1 h2
      subst h1; subst h2
      exact ex_conv hg hs hv hx
    · cases h

/-- Numbered parts. -/
def PR (β : Ren) : List (Nat × AV) → List (Nat × Value) → Prop
  | [], x => x = []
  | (i, v) :: l, x => ∃ a r, VR β v a ∧ PR β l r ∧ x = (i, a) :: r

theorem zipIx_rel {ρ : Operand → Value} : ∀ {ps : List (Nat × Operand)} {vs : List AV} {l : List (Nat × AV)}, zipIx (ps.map (·.1)) vs = some l → VRs β vs ((ps.map (·.2)).map ρ) → PR β l (ps.map fun (i, x) => (i, ρ x))
  | [], [], l, h, _ => by simp only [zipIx, List.map_nil, Option.some.injEq] at h; subst h; simp [PR]
  | [], v :: vs, l, h, _ => by simp [zipIx] at h
  | p :: ps, [], l, h, _ => by simp [zipIx] at h
  | p :: ps, v :: vs, l, h, hv => by
    simp only [List.map_cons, zipIx] at h
    split at h
    · rename_i l' hl
      injection h with h
      subst h
      obtain ⟨a, r, ha, hr, e⟩ := hv
      simp only [List.map_cons] at e
      injection e with e e'
      subst e; subst e'
      exact ⟨_, _, ha, zipIx_rel hl hr, rfl⟩
    · cases h

theorem over_set {α : Type} : ∀ (c : List α) (k : Nat) (v : α) (vs : List α), k < c.length → over c k (v :: vs) = over (c.set k v) (k + 1) vs
  | [], k, v, vs, h => by simp at h
  | x :: c, 0, v, vs, h => by
    simp only [over, List.set_cons_zero]
    cases vs with
    | nil => cases c <;> simp [over]
    | cons u us => simp [over]
  | x :: c, k + 1, v, vs, h => by
    simp only [over, List.set_cons_succ]
    rw [over_set c k v vs (by simpa using h)]
    cases vs with
    | nil => simp [over]
    | cons u us => simp [over]

theorem foldl_over (off : Nat) : ∀ (vs : List Value) (k : Nat) (cells : Array Value), off + k + vs.length ≤ cells.size →
    (vs.zipIdx k).foldl (fun cs (p : Value × Nat) => cs.setIfInBounds (off + p.2) p.1) cells = (over cells.toList (off + k) vs).toArray
  | [], k, cells, h => by
    have : over cells.toList (off + k) [] = cells.toList := by cases cells.toList <;> rfl
    simp [this]
  | v :: vs, k, cells, h => by
    simp only [List.zipIdx_cons, List.foldl_cons]
    rw [foldl_over off vs (k + 1) (cells.setIfInBounds (off + k) v) (by simp at h ⊢; omega)]
    rw [over_set cells.toList (off + k) v vs (by simp at h ⊢; omega)]
    simp [Array.toList_setIfInBounds, Nat.add_assoc]

theorem fill_rel {place : Nat → Option (Nat × Nat)} : ∀ {l : List (Nat × AV)} {ps : List (Nat × Value)} {cs cs' : List AV} {xs : Array Value}, fill place cs l = some cs' → PR β l ps → VRs β cs xs.toList →
    ∃ xs', Instr.fill place xs ps = some xs' ∧ VRs β cs' xs'.toList
  | [], _, cs, cs', xs, h, hp, hx => by
    simp only [PR] at hp
    subst hp
    simp only [fill, Option.some.injEq] at h
    subst h
    exact ⟨xs, rfl, hx⟩
  | (i, v) :: l, _, cs, cs', xs, h, hp, hx => by
    obtain ⟨a, r, ha, hr, rfl⟩ := hp
    simp only [fill] at h
    split at h
    · cases h
    · rename_i off size hpl
      split at h
      · cases h
      · rename_i hn
        have hl := ha.cells.length
        have hl' := hx.length
        have hov := hx.over off ha.cells
        have e : a.cells.zipIdx.foldl (fun cs (p : Value × Nat) => cs.setIfInBounds (off + p.2) p.1) xs = (over xs.toList off a.cells.toList).toArray := by
          rw [← Array.foldl_toList, Array.toList_zipIdx]
          have := foldl_over off a.cells.toList 0 xs (by simp at hl hl' hn ⊢; omega)
          simpa using this
        obtain ⟨xs', h1, h2⟩ := fill_rel (xs := (over xs.toList off a.cells.toList).toArray) h hr (by simpa using hov)
        refine ⟨xs', ?_, h2⟩
        simp only [Instr.fill, hpl]
        rw [if_neg (by simp at hl hl' hn ⊢; omega)]
        rw [← h1, ← e]

theorem run_places (hg : GOK P g) : ∀ {fs : List Field} {l : List (Nat × Nat)}, places g fs = some l → (fs.mapM (fun f => do pure (f.offset, ← sizeOf f.type) : Field → Sem (Nat × Nat))).run P w = .ok l w
  | [], l, h => by simp only [places, Option.some.injEq] at h; subst h; simp
  | f :: fs, l, h => by
    simp only [places] at h
    split at h
    · rename_i n l' hn hl
      injection h with h
      subst h
      simp only [List.mapM_cons, Sem.run_bind, run_size hg hn, Result.andThen_ok, Sem.run_pure, run_places hg hl]
    · cases h

theorem run_mapM_array {α γ : Type} {f : α → Sem γ} {xs : Array α} {l : List γ} (h : (xs.toList.mapM f).run P w = .ok l w) : (xs.mapM f).run P w = .ok l.toArray w := by
  rw [← Array.toList_mapM, Sem.run_map] at h
  cases hr : (xs.mapM f).run P w with
  | ok a w' =>
    rw [hr] at h
    simp only [Result.andThen_ok, Result.ok.injEq] at h
    rw [← h.1, h.2]
  | halt x w' => rw [hr] at h; simp at h

theorem ex_build (hg : GOK P g) (hs : Rel β s w) {t : TypeId} {ps : Array (Nat × Operand)} {vs : List AV} {r : R} {ρ : Operand → Value} (h : exBuild g s t (ps.toList.map (·.1)) vs = some r)
    (hv : VRs β vs ((ps.toList.map (·.2)).map ρ)) : RV β s w ((Instr.build t (ps.map fun (i, x) => (i, ρ x))).run P w) r := by
  unfold exBuild at h
  split at h
  · rename_i fs hu
    split at h
    · rename_i z l pl hz hl hpl
      split at h
      · rename_i cs hf
        injection h with h
        subst h
        obtain ⟨x, hx, hzx⟩ := run_zero hg (β := β) (w := w) hz
        obtain ⟨xs', h1, h2⟩ := fill_rel hf (zipIx_rel hl hv) hzx.cells
        refine RV.pure hs (x := .agg xs') (by exact ⟨xs'.toList, h2, rfl⟩) ?_
        have h3 := run_mapM_array (run_places hg (w := w) hpl)
        simp only [Instr.build, Sem.run_bind, hx, Result.andThen_ok, run_und hg hu, h3]
        have h4 : (fun i : Nat => pl.toArray[i]?) = fun i => pl[i]? := by funext i; simp
        simp only [Array.toList_map, h4, h1, Sem.run_pure]
      · cases h
    · cases h
  · rename_i n e hu
    split at h
    · rename_i z l size hz hl hsz
      split at h
      · rename_i cs hf
        injection h with h
        subst h
        obtain ⟨x, hx, hzx⟩ := run_zero hg (β := β) (w := w) hz
        obtain ⟨xs', h1, h2⟩ := fill_rel hf (zipIx_rel hl hv) hzx.cells
        refine RV.pure hs (x := .agg xs') (by exact ⟨xs'.toList, h2, rfl⟩) ?_
        simp only [Instr.build, Sem.run_bind, hx, Result.andThen_ok, run_und hg hu, run_size hg hsz, Array.toList_map, h1, Sem.run_pure]
      · cases h
    · cases h
  · cases h

theorem repl_length {α : Type} (l : List α) : ∀ n, (repl n l).length = n * l.length
  | 0 => by simp [repl]
  | n + 1 => by simp [repl, repl_length l n, Nat.succ_mul, Nat.add_comm]

theorem repl_get {α : Type} (l : List α) : ∀ (n i : Nat), i < n * l.length → (repl n l)[i]? = l[i % l.length]?
  | 0, i, h => by simp at h
  | n + 1, i, h => by
    simp only [repl]
    rcases Nat.lt_or_ge i l.length with h' | h'
    · rw [List.getElem?_append_left h', Nat.mod_eq_of_lt h']
    · rw [List.getElem?_append_right h', repl_get l n (i - l.length) (by rw [Nat.succ_mul] at h; omega)]
      rw [Nat.mod_eq_sub_mod h']

/-- A row of zeros. -/
theorem zeros_eq (z : Array Value) (n : Nat) : ((Array.range (n * z.size)).map (z[· % z.size]!)).toList = repl n z.toList := by
  apply List.ext_getElem?
  intro i
  rcases Nat.lt_or_ge i (n * z.size) with h | h
  · have hz : 0 < z.size := by
      rcases Nat.eq_zero_or_pos z.size with e | e
      · rw [e] at h; simp at h
      · exact e
    have hm : i % z.size < z.size := Nat.mod_lt _ hz
    rw [repl_get _ _ _ (by simpa using h)]
    simp [h, hm]
  · rw [List.getElem?_eq_none (by simpa using h), List.getElem?_eq_none (by rw [repl_length]; simpa using h)]

theorem zeros_rel {z : AV} {x : Value} {n : Nat} (h : VR β z x) :
    VRs β (repl n z.cells) ((Array.range (n * z.cells.length)).map ((if n * z.cells.length = 0 then #[] else x.cells)[· % (if n * z.cells.length = 0 then #[] else x.cells).size]!)).toList := by
  have hl := h.cells.length
  split
  · rename_i e
    have : repl n z.cells = [] := by
      have := repl_length z.cells n
      rw [e] at this
      exact List.length_eq_zero_iff.1 this
    rw [this, e]
    simp [VRs]
  · have hl' : z.cells.length = x.cells.size := by simpa using hl
    rw [hl', zeros_eq]
    exact h.cells.repl n

theorem ex_buildSlice (hg : GOK P g) (hs : Rel β s w) {t : TypeId} {len : Nat} {ps : Array (Nat × Operand)} {vs : List AV} {r : R} {ρ : Operand → Value}
    (h : exBuildSlice g s t len (ps.toList.map (·.1)) vs = some r) (hv : VRs β vs ((ps.toList.map (·.2)).map ρ)) (hf : Free β s r.st) :
    RV β s w ((Instr.buildSlice t len (ps.map fun (i, x) => (i, ρ x))).run P w) r := by
  unfold exBuildSlice at h
  split at h
  · rename_i e l hu hl
    split at h
    · rename_i size z hsz hz
      split at h
      · rename_i hb
        simp only [Bool.and_eq_true] at hb
        have h0 : z.cells.length = size := Nat.eq_of_beq_eq_true hb.1
        have h24 : ¬ len * size > 2 ^ 24 := Nat.not_lt.2 (Nat.le_of_ble_eq_true hb.2)
        split at h
        · rename_i cs hfl
          injection h with h
          subst h
          subst h0
          obtain ⟨x, hx, hzx⟩ := run_zero hg (β := β) (w := w) hz
          obtain ⟨xs', h1, h2⟩ := fill_rel hfl (zipIx_rel hl hv) (zeros_rel (n := len) hzx)
          refine RV.row hs (new_free hf) h2 (x := .slice (some ⟨w.heap.size, 0, none⟩) len len) ?_ ⟨_, upd_same .., by simp⟩
          have hgt : (len * z.cells.length > 2 ^ 24) = False := by simpa using h24
          by_cases h00 : len * z.cells.length = 0
          · simp only [h00, if_true] at h1 hgt
            simp only [Instr.buildSlice, Sem.run_bind, run_und hg hu, Result.andThen_ok, run_size hg hsz, h00, hgt, if_false, if_true, hx, Array.toList_map, h1, newRow, Sem.run_pure, run_newObj]
          · simp only [h00, if_false] at h1
            simp only [Instr.buildSlice, Sem.run_bind, run_und hg hu, Result.andThen_ok, run_size hg hsz, h00, hgt, if_false, hx, Array.toList_map, h1, newRow, Sem.run_pure, run_newObj]
        · cases h
      · cases h
    · cases h
  · cases h

theorem wrap_small {n : Int} (h0 : 0 ≤ n) (h1 : n < 2 ^ 30) : IntKind.i64.wrap n = n := by
  simp only [IntKind.wrap, IntKind.bits, IntKind.signed]
  have : n % (2 ^ 64 : Int) = n := Int.emod_eq_of_lt h0 (by omega)
  simp only [this]
  rw [if_neg (by simp; omega)]

theorem ex_makeSlice (hg : GOK P g) (hs : Rel β s w) {t : TypeId} {l c : AV} {r : R} {x y : Value} (h : exMakeSlice g s t l c = some r) (hx : VR β l x) (hy : VR β c y) (hf : Free β s r.st) :
    RV β s w ((Instr.makeSlice t x y).run P w) r := by
  unfold exMakeSlice at h
  split at h
  · rename_i e k l k' c hu
    simp only [VR] at hx hy
    subst hx; subst hy
    split at h
    · rename_i i z hi hz
      split at h
      · rename_i hc
        obtain ⟨h0, hlc, hc30, hbytes, hzl⟩ := hc
        injection h with h
        subst h
        obtain ⟨x, hx, hzx⟩ := run_zero hg (β := β) (w := w) hz
        refine RV.row hs (new_free hf) (zeros_rel (n := c.toNat) hzx) (x := .slice (some ⟨w.heap.size, 0, none⟩) l.toNat c.toNat) ?_ ⟨_, upd_same .., by simp⟩
        have hti := run_typeInfo w (hg.info hi)
        have hsz : (sizeOf e).run P w = .ok z.cells.length w := by simp [sizeOf, hti, hzl]
        have wl := wrap_small h0 (by omega : l < 2 ^ 30)
        have wc := wrap_small (by omega : 0 ≤ c) hc30
        simp only [Instr.makeSlice, Sem.run_bind, run_und hg hu, Result.andThen_ok, asInt, asIntOf, Sem.run_pure, hti, wl, wc]
        have ht : (decide (c < 0) || decide ((i.bytes : Int) * c > 2 ^ 48)) = false := by
          simp; omega
        simp only [ht, Bool.false_or, Bool.false_eq_true, if_false]
        have hcond : (decide (l < 0) || decide (l > c)) = false := by simp; omega
        simp only [hcond, Bool.false_eq_true, if_false, Sem.run_bind, run_askRoom, Result.andThen_ok, hsz]
        by_cases h00 : c.toNat * z.cells.length = 0
        · simp only [h00, if_true, Sem.run_bind, Sem.run_pure, Result.andThen_ok, newRow, run_newObj]
        · simp only [h00, if_false, Sem.run_bind, Sem.run_pure, Result.andThen_ok, hx, newRow, run_newObj]
      · cases h
    · cases h
  · cases h

theorem ex_assert (hg : GOK P g) (hs : Rel β s w) {t xt : TypeId} {a : AV} {ok : Bool} {r : R} {x : Value} (h : exAssert g s a t ok = some r) (hx : VR β a x) :
    RV β s w ((Instr.typeAssert x xt t ok).run P w) r := by
  have zeroed : ∀ {z : AV} {st : Option TypeId} {dt : Option TypeId} {m : String}, g.zero t = some z → ok = true →
      RV β s w ((if ok then (do pure (.tuple #[← zeroValue t, .bool false])) else runtimePanic (.typeAssertion st dt t m) : Sem Value).run P w) (.val (.tuple [z, .bool false]) s) := by
    intro z st dt m hz hok
    obtain ⟨y, hy, hzy⟩ := run_zero hg (β := β) (w := w) hz
    exact RV.pure hs (x := .tuple #[y, .bool false]) (by exact ⟨[y, .bool false], VRs.cons hzy (VRs.cons rfl VRs.nil), rfl⟩) (by simp [hok, hy])
  unfold exAssert at h
  split at h
  · cases h
  · rename_i d hnd hu
    split at h
    · rename_i t' v
      obtain ⟨y, hy, rfl⟩ := hx
      split at h
      · rename_i e
        injection h with h
        subst h
        subst e
        cases ok
        · refine RV.pure hs (x := y) hy ?_
          simp only [Instr.typeAssert, Sem.run_bind, run_und hg hu, Result.andThen_ok]
          cases d <;> first | (simp; done) | exact absurd rfl (hnd _)
        · refine RV.pure hs (x := .tuple #[y, .bool true]) (by exact ⟨[y, .bool true], VRs.cons hy (VRs.cons rfl VRs.nil), rfl⟩) ?_
          simp only [Instr.typeAssert, Sem.run_bind, run_und hg hu, Result.andThen_ok]
          cases d <;> first | (simp; done) | exact absurd rfl (hnd _)
      · rename_i e
        split at h
        · rename_i z hz
          injection h with h
          subst h
          have := zeroed (st := some xt) (dt := some t') (m := "") hz rfl
          obtain ⟨γ, y', w', hr, rest⟩ := this
          refine ⟨γ, y', w', ?_, rest⟩
          refine Eq.trans ?_ hr
          simp only [Instr.typeAssert, Sem.run_bind, run_und hg hu, Result.andThen_ok]
          cases d <;> first | (simp [e]; done) | exact absurd rfl (hnd _)
        · cases h
    · simp only [VR] at hx
      subst hx
      split at h
      · rename_i z hz
        injection h with h
        subst h
        have := zeroed (st := some xt) (dt := none) (m := "") hz rfl
        obtain ⟨γ, y', w', hr, rest⟩ := this
        refine ⟨γ, y', w', ?_, rest⟩
        refine Eq.trans ?_ hr
        simp only [Instr.typeAssert, Sem.run_bind, run_und hg hu, Result.andThen_ok] <;> cases d <;> first | (simp; done) | exact absurd rfl (hnd _)
      · cases h
    · cases h
  · cases h
end
end Go.Proofs.YtgfbjbdfckgdjaaGreatDoor.Ev

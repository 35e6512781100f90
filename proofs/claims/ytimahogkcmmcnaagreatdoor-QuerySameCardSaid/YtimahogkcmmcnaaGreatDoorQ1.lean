/-
  Lists and plans as they lie in memory, and what 'equal' says of them; it proves laws of both. No conditions.
-/
import Derived.Test.YtimahogkcmmcnaaGreatDoorProg
import Derived.WalkKit
import Derived.WalkSpells
import Derived.WalkLawsBesides
import Derived.Lib.Hide
import Derived.Deep.RegionHeld3
import Derived.Deep.QuietTactic
import Derived.BigQuiet
import Derived.Lib.QuietBelow
import Derived.RangeFuncRecord
set_option linter.unusedSimpArgs false
set_option linter.unusedVariables false
namespace Go.Proofs.YtimahogkcmmcnaaGreatDoor
open Go.RowKit

theorem ret_bool {a b : Bool} (h : a = b) : Ending.returned (.bool a) = .returned (.bool b) := by rw [h]
theorem below_box {w w' : World} {o : Obj} (h : Below (w.alloc o).heap.size (w.alloc o) w') : Below w.heap.size w w' :=
  ((Below.refl _ _).alloc (Nat.le_refl _) _).trans (h.mono (by simp))
theorem below_box2 {w w' : World} {o o' : Obj} (h : Below ((w.alloc o).alloc o').heap.size ((w.alloc o).alloc o') w') : Below w.heap.size w w' := below_box (below_box h)
theorem below_then {w w1 w' : World} (h : Below w.heap.size w w1) (h' : Below w1.heap.size w1 w') : Below w.heap.size w w' := h.trans (h'.mono h.size)
theorem bcell {W w1 : World} (hb : Below W.heap.size W w1) : (∀ b o, b < W.heap.size → w1.cell? ⟨b, o, none⟩ = W.cell? ⟨b, o, none⟩) ∧ (∀ b o, b < W.heap.size → w1.frozen? ⟨b, o, none⟩ = W.frozen? ⟨b, o, none⟩) :=
  ⟨fun b o h => hb.cell (p := ⟨b, o, none⟩) h, fun b o h => hb.frozen (p := ⟨b, o, none⟩) h⟩
theorem below_of_class {w w' : World} (h : ∃ p : Regrown, w' = Sort.grow (redrawn w p.d) p.os) : Below w.heap.size w w' := by
  obtain ⟨p, rfl⟩ := h
  exact below_regrown _ _ _
theorem cell_lt {w : World} {b o : Nat} {v : Value} (h : w.cell? ⟨b, o, none⟩ = some v) : b < w.heap.size := World.block_lt_of_cell? w ⟨b, o, none⟩ h

def intOf : Value → Int
  | .int _ q => q
  | _ => 0

theorem drop_cons {α : Type} {l : List α} {k : Nat} (h : k < l.length) : l.drop k = l[k] :: l.drop (k + 1) := List.drop_eq_getElem_cons h

/-- Lists are equal, by an equality of their items. -/
def eqL {α : Type} (q : α → α → Bool) : List α → List α → Bool
  | [], [] => true
  | x :: xs, y :: ys => q x y && eqL q xs ys
  | _, _ => false

theorem eqL_len {α : Type} {q : α → α → Bool} {a b : List α} (h : a.length ≠ b.length) : eqL q a b = false := by
  induction a generalizing b with
  | nil => cases b with | nil => simp at h | cons y ys => rfl
  | cons x xs ih => cases b with | nil => rfl | cons y ys => simp only [eqL, ih (b := ys) (by simpa using h), Bool.and_false]

theorem eqL_step {α : Type} {q : α → α → Bool} {a b : List α} {k : Nat} (ha : k < a.length) (hb : k < b.length) : eqL q (a.drop k) (b.drop k) = (q a[k] b[k] && eqL q (a.drop (k + 1)) (b.drop (k + 1))) := by
  rw [drop_cons ha, drop_cons hb, eqL]

theorem eqL_refl {α : Type} {q : α → α → Bool} (h : ∀ x, q x x = true) : ∀ l, eqL q l l = true
  | [] => rfl
  | x :: xs => by rw [eqL, h x, eqL_refl h xs]; rfl

theorem eqL_same {α : Type} {q q' : α → α → Bool} (h : ∀ x y, q x y = q' x y) : ∀ l m, eqL q l m = eqL q' l m
  | [], [] => rfl
  | x :: xs, y :: ys => by rw [eqL, eqL, h x y, eqL_same h xs ys]
  | [], _ :: _ => rfl
  | _ :: _, [] => rfl

/-- A list of items of 'sz' cells each, as it lies in memory. -/
def LAt {α : Type} (sz : Nat) (cl : α → List Value) (ok : α → Prop) (w : World) (v : Value) (l : List α) : Prop :=
  ∃ a cap, v = .slice a l.length cap ∧ l.length ≤ 9223372036854775807 ∧ (l = [] ∨ ∃ b off, a = some ⟨b, off, none⟩ ∧ b < w.heap.size ∧
    ∀ i (h : i < l.length), ok l[i] ∧ ∀ j, j < sz → w.cell? ⟨b, off + i * sz + j, none⟩ = (cl l[i])[j]?)

theorem LAt.below {α : Type} {sz : Nat} {cl : α → List Value} {ok : α → Prop} {w w' : World} {v : Value} {l : List α} (h : LAt sz cl ok w v l) (hb : Below w.heap.size w w') : LAt sz cl ok w' v l := by
  obtain ⟨a, cap, rfl, hl, hx⟩ := h
  refine ⟨a, cap, rfl, hl, hx.imp id ?_⟩
  rintro ⟨b, off, rfl, hlt, hc⟩
  refine ⟨b, off, rfl, Nat.lt_of_lt_of_le hlt hb.size, fun i hi => ⟨(hc i hi).1, fun j hj => ?_⟩⟩
  rw [hb.cell (p := ⟨b, _, none⟩) hlt]
  exact (hc i hi).2 j hj

theorem LAt.form {α : Type} {sz : Nat} {cl : α → List Value} {ok : α → Prop} {w : World} {v : Value} {l : List α} (h : LAt sz cl ok w v l) : ∃ a c, v = .slice a l.length c ∧ l.length ≤ 9223372036854775807 := by
  obtain ⟨a, cap, rfl, hl, _⟩ := h
  exact ⟨a, cap, rfl, hl⟩

theorem LAt.at {α : Type} {sz : Nat} {cl : α → List Value} {ok : α → Prop} {w : World} {a : Option Addr} {cap : Nat} {l : List α} (h : LAt sz cl ok w (.slice a l.length cap) l) {k : Nat} (hk : k < l.length) :
    ∃ b off, a = some ⟨b, off, none⟩ ∧ b < w.heap.size ∧ ok l[k] ∧ ∀ j, j < sz → w.cell? ⟨b, off + k * sz + j, none⟩ = (cl l[k])[j]? := by
  obtain ⟨a', cap', hv, hl, hx⟩ := h
  injection hv with hv _ _
  subst hv
  obtain ⟨b, off, rfl, hD, hc⟩ := hx.resolve_left (fun e => by rw [e] at hk; simp at hk)
  exact ⟨b, off, rfl, hD, hc k hk⟩

/-- A column, a total, a stage. -/
structure ColM where
  n : ByteArray
  k : Int
structure AggM where
  k : Int
  c : Int
structure StgM where
  n : ByteArray
  c : ByteArray
  f : Int
  u : ByteArray

abbrev Small (s : ByteArray) : Prop := s.size ≤ 9223372036854775807
abbrev IntsAt := LAt 1 (fun n : Int => [.int .i64 n]) (fun _ => True)
abbrev StrsAt := LAt 1 (fun s : ByteArray => [.string s]) Small
abbrev ColsAt := LAt 2 (fun c : ColM => [.string c.n, .int .i64 c.k]) (fun c => Small c.n)
abbrev AggsAt := LAt 2 (fun c : AggM => [.int .i64 c.k, .int .i64 c.c]) (fun _ => True)
abbrev StgsAt := LAt 4 (fun c : StgM => [.string c.n, .string c.c, .int .i64 c.f, .string c.u]) (fun c => Small c.n ∧ Small c.c ∧ Small c.u)

def eqI (a b : Int) : Bool := a == b
def eqS (a b : ByteArray) : Bool := a.toList == b.toList
def eqCol (a b : ColM) : Bool := eqS a.n b.n && a.k == b.k
def eqAgg (a b : AggM) : Bool := a.k == b.k && a.c == b.c
def eqStg (a b : StgM) : Bool := eqS a.n b.n && eqS a.c b.c && a.f == b.f && eqS a.u b.u

/-- A node of a plan. -/
structure NodM where
  kind : Int
  name : ByteArray
  inputs : List Int
  schema : List ColM
  bound : Int
  expr : ByteArray
  exprs : List ByteArray
  cols : List Int
  others : List Int
  w0 : Int
  w1 : Int
  w2 : Int
  w3 : Int
  w4 : Int
  aggs : List AggM
  names : List ByteArray
  low : Int
  high : Int
  order : List Int
  down : Bool
  limit : Int
  mode : Int
  stages : List StgM
  within : Int
  skip : Int

/-- Where a node's lists lie. -/
structure NodS where
  inputs : Option Addr × Nat
  schema : Option Addr × Nat
  exprs : Option Addr × Nat
  cols : Option Addr × Nat
  others : Option Addr × Nat
  aggs : Option Addr × Nat
  names : Option Addr × Nat
  order : Option Addr × Nat
  stages : Option Addr × Nat

def nodL (m : NodM) (s : NodS) : List Value :=
  [.int .i64 m.kind, .string m.name, .slice s.inputs.1 m.inputs.length s.inputs.2, .slice s.schema.1 m.schema.length s.schema.2, .int .i64 m.bound, .string m.expr, .slice s.exprs.1 m.exprs.length s.exprs.2,
    .slice s.cols.1 m.cols.length s.cols.2, .slice s.others.1 m.others.length s.others.2, .int .i64 m.w0, .int .i64 m.w1, .int .i64 m.w2, .int .i64 m.w3, .int .i64 m.w4, .slice s.aggs.1 m.aggs.length s.aggs.2,
    .slice s.names.1 m.names.length s.names.2, .int .i64 m.low, .int .i64 m.high, .slice s.order.1 m.order.length s.order.2, .bool m.down, .int .i64 m.limit, .int .i64 m.mode,
    .slice s.stages.1 m.stages.length s.stages.2, .int .i64 m.within, .int .i64 m.skip]

abbrev nodV (m : NodM) (s : NodS) : Value :=
  .agg #[.int .i64 m.kind, .string m.name, .slice s.inputs.1 m.inputs.length s.inputs.2, .slice s.schema.1 m.schema.length s.schema.2, .int .i64 m.bound, .string m.expr, .slice s.exprs.1 m.exprs.length s.exprs.2,
    .slice s.cols.1 m.cols.length s.cols.2, .slice s.others.1 m.others.length s.others.2, .int .i64 m.w0, .int .i64 m.w1, .int .i64 m.w2, .int .i64 m.w3, .int .i64 m.w4, .slice s.aggs.1 m.aggs.length s.aggs.2,
    .slice s.names.1 m.names.length s.names.2, .int .i64 m.low, .int .i64 m.high, .slice s.order.1 m.order.length s.order.2, .bool m.down, .int .i64 m.limit, .int .i64 m.mode,
    .slice s.stages.1 m.stages.length s.stages.2, .int .i64 m.within, .int .i64 m.skip]

/-- A node's lists are there. -/
structure NodAt (w : World) (m : NodM) (s : NodS) : Prop where
  name : Small m.name
  expr : Small m.expr
  inputs : IntsAt w (.slice s.inputs.1 m.inputs.length s.inputs.2) m.inputs
  schema : ColsAt w (.slice s.schema.1 m.schema.length s.schema.2) m.schema
  exprs : StrsAt w (.slice s.exprs.1 m.exprs.length s.exprs.2) m.exprs
  cols : IntsAt w (.slice s.cols.1 m.cols.length s.cols.2) m.cols
  others : IntsAt w (.slice s.others.1 m.others.length s.others.2) m.others
  aggs : AggsAt w (.slice s.aggs.1 m.aggs.length s.aggs.2) m.aggs
  names : StrsAt w (.slice s.names.1 m.names.length s.names.2) m.names
  order : IntsAt w (.slice s.order.1 m.order.length s.order.2) m.order
  stages : StgsAt w (.slice s.stages.1 m.stages.length s.stages.2) m.stages

theorem NodAt.below {w w' : World} {m : NodM} {s : NodS} (h : NodAt w m s) (hb : Below w.heap.size w w') : NodAt w' m s :=
  ⟨h.name, h.expr, h.inputs.below hb, h.schema.below hb, h.exprs.below hb, h.cols.below hb, h.others.below hb, h.aggs.below hb, h.names.below hb, h.order.below hb, h.stages.below hb⟩

/-- A plan. -/
def PlanAt (w : World) (v : Value) (l : List NodM) : Prop :=
  ∃ a cap, v = .slice a l.length cap ∧ l.length ≤ 9223372036854775807 ∧ (l = [] ∨ ∃ b off, a = some ⟨b, off, none⟩ ∧ b < w.heap.size ∧
    ∀ i (h : i < l.length), ∃ s, NodAt w l[i] s ∧ ∀ j, j < 25 → w.cell? ⟨b, off + i * 25 + j, none⟩ = (nodL l[i] s)[j]?)

theorem PlanAt.below {w w' : World} {v : Value} {l : List NodM} (h : PlanAt w v l) (hb : Below w.heap.size w w') : PlanAt w' v l := by
  obtain ⟨a, cap, rfl, hl, hx⟩ := h
  refine ⟨a, cap, rfl, hl, hx.imp id ?_⟩
  rintro ⟨b, off, rfl, hlt, hc⟩
  refine ⟨b, off, rfl, Nat.lt_of_lt_of_le hlt hb.size, fun i hi => ?_⟩
  obtain ⟨s, hs, hj⟩ := hc i hi
  refine ⟨s, hs.below hb, fun j hj' => ?_⟩
  rw [hb.cell (p := ⟨b, _, none⟩) hlt]
  exact hj j hj'

theorem PlanAt.form {w : World} {v : Value} {l : List NodM} (h : PlanAt w v l) : ∃ a c, v = .slice a l.length c ∧ l.length ≤ 9223372036854775807 := by
  obtain ⟨a, cap, rfl, hl, _⟩ := h
  exact ⟨a, cap, rfl, hl⟩

theorem PlanAt.at {w : World} {a : Option Addr} {cap : Nat} {l : List NodM} (h : PlanAt w (.slice a l.length cap) l) {k : Nat} (hk : k < l.length) :
    ∃ b off s, a = some ⟨b, off, none⟩ ∧ b < w.heap.size ∧ NodAt w l[k] s ∧ ∀ j, j < 25 → w.cell? ⟨b, off + k * 25 + j, none⟩ = (nodL l[k] s)[j]? := by
  obtain ⟨a', cap', hv, hl, hx⟩ := h
  injection hv with hv _ _
  subst hv
  obtain ⟨b, off, rfl, hD, hc⟩ := hx.resolve_left (fun e => by rw [e] at hk; simp at hk)
  obtain ⟨s, hs, hj⟩ := hc k hk
  exact ⟨b, off, s, rfl, hD, hs, hj⟩

/-- The nodes are equal. -/
def eqNod (a b : NodM) : Bool :=
  a.kind == b.kind && eqS a.name b.name && eqL eqI a.inputs b.inputs && eqL eqCol a.schema b.schema && a.bound == b.bound && eqS a.expr b.expr && eqL eqS a.exprs b.exprs && eqL eqI a.cols b.cols &&
  eqL eqI a.others b.others && (a.w0 == b.w0 && a.w1 == b.w1 && a.w2 == b.w2 && a.w3 == b.w3 && a.w4 == b.w4) && eqL eqAgg a.aggs b.aggs && eqL eqS a.names b.names && a.low == b.low && a.high == b.high &&
  eqL eqI a.order b.order && a.down == b.down && a.limit == b.limit && a.mode == b.mode && eqL eqStg a.stages b.stages && a.within == b.within && a.skip == b.skip

theorem eqS_refl (s : ByteArray) : eqS s s = true := by simp [eqS]
theorem eqI_refl (s : Int) : eqI s s = true := by simp [eqI]
theorem eqCol_refl (s : ColM) : eqCol s s = true := by simp [eqCol, eqS_refl]
theorem eqAgg_refl (s : AggM) : eqAgg s s = true := by simp [eqAgg]
theorem eqStg_refl (s : StgM) : eqStg s s = true := by simp [eqStg, eqS_refl]
theorem eqNod_refl (s : NodM) : eqNod s s = true := by
  simp [eqNod, eqS_refl, eqL_refl eqI_refl, eqL_refl eqS_refl, eqL_refl eqCol_refl, eqL_refl eqAgg_refl, eqL_refl eqStg_refl]
end Go.Proofs.YtimahogkcmmcnaaGreatDoor

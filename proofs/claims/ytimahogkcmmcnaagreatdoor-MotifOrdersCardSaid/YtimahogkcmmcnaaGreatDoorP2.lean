/-
  Names, schemas, rows that fit, events that are right: the plain part. No conditions: definitions and their laws.
-/
import Derived.Test.YtimahogkcmmcnaaGreatDoorP1
import Derived.Laws.Strings
set_option linter.unusedSimpArgs false
set_option linter.unusedVariables false
namespace Go.Proofs.YtimahogkcmmcnaaGreatDoor.Cmps

def okI (i : Nat) (c : Int) : Bool := decide ((97 ≤ c ∧ c ≤ 122) ∨ (i ≠ 0 ∧ ((48 ≤ c ∧ c ≤ 57) ∨ c = 95)))

def okByte (i : Nat) (c : UInt8) : Bool := okI i (c.toNat : Int)

def nameB (s : ByteArray) : Bool := ((List.range s.size).all fun i => okByte i (s.data[i]!)) && decide (1 ≤ s.size ∧ s.size ≤ 16)

theorem nameB_miss {s : ByteArray} {k : Nat} (hk : k < s.size) (h : okByte k (s.data[k]!) = false) : nameB s = false := by
  unfold nameB
  have : ((List.range s.size).all fun i => okByte i (s.data[i]!)) = false := by
    rw [List.all_eq_false]
    exact ⟨k, by simpa using hk, by simp [h]⟩
  rw [this, Bool.false_and]

theorem nameB_all {s : ByteArray} (h : ∀ k, k < s.size → okByte k (s.data[k]!) = true) : nameB s = decide (1 ≤ s.size ∧ s.size ≤ 16) := by
  unfold nameB
  have : ((List.range s.size).all fun i => okByte i (s.data[i]!)) = true := by
    rw [List.all_eq_true]
    intro i hi
    exact h i (by simpa using hi)
  rw [this, Bool.true_and]

/-- Two texts are one. -/
def eqS (a b : ByteArray) : Bool := a.toList == b.toList

theorem eqS_true {a b : ByteArray} : eqS a b = true ↔ a = b := by
  unfold eqS
  rw [beq_iff_eq]
  constructor
  · intro h
    rw [ByteArray.toList_eq, ByteArray.toList_eq] at h
    obtain ⟨⟨a⟩⟩ := a
    obtain ⟨⟨b⟩⟩ := b
    simpa using h
  · rintro rfl; rfl

theorem eqS_comm (a b : ByteArray) : eqS a b = eqS b a := by
  rw [Bool.eq_iff_iff, eqS_true, eqS_true]
  exact ⟨Eq.symm, Eq.symm⟩

theorem eqS_beq (a b : ByteArray) : (a == b) = eqS a b := by
  have : (a == b) = (a.data == b.data) := rfl
  rw [this, Bool.eq_iff_iff, eqS_true, beq_iff_eq]
  exact ⟨fun h => by obtain ⟨a⟩ := a; obtain ⟨b⟩ := b; simpa using h, fun h => by rw [h]⟩

def hasS (l : List ByteArray) (n : ByteArray) : Bool := l.any fun x => eqS x n

/-- A column. -/
structure Col where
  n : ByteArray
  k : Int

def kindB (k : Int) : Bool := decide (1 ≤ k ∧ k ≤ 2)

def schemaFrom (seen : List ByteArray) : List Col → Bool
  | [] => true
  | c :: l => nameB c.n && !hasS seen c.n && kindB c.k && schemaFrom (seen ++ [c.n]) l

def validSchema (l : List Col) : Bool := schemaFrom [] l && decide (1 ≤ l.length ∧ l.length ≤ 8)

def namesTo (l : List Col) (k : Nat) : List ByteArray := (l.take k).map Col.n

theorem namesTo_succ {l : List Col} {k : Nat} (h : k < l.length) : namesTo l (k + 1) = namesTo l k ++ [l[k].n] := by
  unfold namesTo
  rw [List.take_succ_eq_append_getElem h, List.map_append]
  rfl

theorem schemaFrom_step {l : List Col} {k : Nat} (h : k < l.length) : schemaFrom (namesTo l k) (l.drop k) = (nameB l[k].n && !hasS (namesTo l k) l[k].n && kindB l[k].k && schemaFrom (namesTo l (k + 1)) (l.drop (k + 1))) := by
  rw [List.drop_eq_getElem_cons h, schemaFrom, namesTo_succ h]

theorem schemaFrom_go {l : List Col} {k : Nat} (h : k < l.length) (h1 : nameB l[k].n = true) (h2 : hasS (namesTo l k) l[k].n = false) (h3 : kindB l[k].k = true) :
    schemaFrom (namesTo l (k + 1)) (l.drop (k + 1)) = schemaFrom (namesTo l k) (l.drop k) := by
  rw [schemaFrom_step h, h1, h2, h3]; simp

theorem schemaFrom_bad {l : List Col} {k : Nat} (h : k < l.length) (hb : nameB l[k].n = false ∨ hasS (namesTo l k) l[k].n = true ∨ kindB l[k].k = false) :
    schemaFrom (namesTo l k) (l.drop k) = false := by
  rw [schemaFrom_step h]
  rcases hb with h | h | h <;> simp [h]

theorem schemaFrom_end (l : List Col) : schemaFrom (namesTo l l.length) (l.drop l.length) = true := by
  rw [List.drop_length]; rfl

def fitsFrom : List Col → List Val → Bool
  | c :: s, v :: r => (v.k == 0 || v.k == c.k) && fitsFrom s r
  | _, _ => true

theorem fitsFrom_go {s : List Col} {r : List Val} {k : Nat} (h : k < s.length) (h' : k < r.length) (hf : (r[k].k == 0 || r[k].k == s[k].k) = true) : fitsFrom (s.drop (k + 1)) (r.drop (k + 1)) = fitsFrom (s.drop k) (r.drop k) := by
  rw [List.drop_eq_getElem_cons h, List.drop_eq_getElem_cons h', fitsFrom, hf, Bool.true_and]

theorem fitsFrom_bad {s : List Col} {r : List Val} {k : Nat} (h : k < s.length) (h' : k < r.length) (hf : (r[k].k == 0 || r[k].k == s[k].k) = false) : fitsFrom (s.drop k) (r.drop k) = false := by
  rw [List.drop_eq_getElem_cons h, List.drop_eq_getElem_cons h', fitsFrom, hf, Bool.false_and]

theorem fitsFrom_end (s : List Col) (r : List Val) : fitsFrom (s.drop r.length) (r.drop r.length) = true := by
  rw [List.drop_length]
  cases s.drop r.length <;> rfl

end Go.Proofs.YtimahogkcmmcnaaGreatDoor.Cmps

import Derived.Test.YtdnkfgnjeibjeaaProg
import Derived.WalkKit
import Derived.WalkSpells
import Derived.WalkLawsBesides
import Derived.Lib.Hide
namespace Go.Proofs.Ytdnkfgnjeibjeaa
open Go.RowKit

theorem ret_bool {a b : Bool} (h : a = b) : Ending.returned (.bool a) = .returned (.bool b) := by rw [h]
theorem ret_int {k : IntKind} {a b : Int} (h : a = b) : Ending.returned (.int k a) = .returned (.int k b) := by rw [h]

def withinB (n lo hi : Int) : Bool := decide (lo ≤ n ∧ n ≤ hi)

theorem bcell {W w1 : World} (hb : Below W.heap.size W w1) : (∀ b o, b < W.heap.size → w1.cell? ⟨b, o, none⟩ = W.cell? ⟨b, o, none⟩) ∧ (∀ b o, b < W.heap.size → w1.frozen? ⟨b, o, none⟩ = W.frozen? ⟨b, o, none⟩) :=
  ⟨fun b o h => hb.cell (p := ⟨b, o, none⟩) h, fun b o h => hb.frozen (p := ⟨b, o, none⟩) h⟩

theorem below_box {w w' : World} {o : Obj} (h : Below (w.alloc o).heap.size (w.alloc o) w') : Below w.heap.size w w' :=
  ((Below.refl _ _).alloc (Nat.le_refl _) _).trans (h.mono (by simp))

theorem below_box2 {w w' : World} {o o' : Obj} (h : Below ((w.alloc o).alloc o').heap.size ((w.alloc o).alloc o') w') : Below w.heap.size w w' := below_box (below_box h)

theorem below_then {w w1 w' : World} (h : Below w.heap.size w w1) (h' : Below w1.heap.size w1 w') : Below w.heap.size w w' := h.trans (h'.mono h.size)

structure Val where
  k : Int
  n : Int
  s : ByteArray

def validValue (v : Val) : Bool :=
  if v.k == 0 then v.n == 0 && v.s.toList.isEmpty
  else if v.k == 1 then withinB v.n (-1000000000000000) 1000000000000000 && v.s.toList.isEmpty
  else if v.k == 2 then v.n == 0 && decide ((v.s.size : Int) ≤ 200)
  else false

abbrev Val.v (v : Val) : Value := .agg #[.int .i64 v.k, .int .i64 v.n, .string v.s]

/-- r reads in w as the row; its block is one of D. -/
def RowAt (w : World) (D : Nat → Prop) (r : Value) (row : List Val) : Prop :=
  ∃ a cap, r = .slice a row.length cap ∧ row.length ≤ 9223372036854775807 ∧ (row = [] ∨ ∃ b off, a = some ⟨b, off, none⟩ ∧ D b ∧ ∀ i, (h : i < row.length) →
    w.cell? ⟨b, off + i * 3, none⟩ = some (.int .i64 row[i].k) ∧ w.cell? ⟨b, off + i * 3 + 1, none⟩ = some (.int .i64 row[i].n) ∧ w.cell? ⟨b, off + i * 3 + 2, none⟩ = some (.string row[i].s))


theorem RowAt.mono {w : World} {D D' : Nat → Prop} {r : Value} {row : List Val} (h : RowAt w D r row) (hd : ∀ b, D b → D' b) : RowAt w D' r row := by
  obtain ⟨a, cap, rfl, hl, hx⟩ := h
  refine ⟨a, cap, rfl, hl, ?_⟩
  rcases hx with rfl | ⟨b, off, rfl, hb, hc⟩
  · exact .inl rfl
  · exact .inr ⟨b, off, rfl, hd b hb, hc⟩

theorem RowAt.keep {w w' : World} {D : Nat → Prop} {r : Value} {row : List Val} (h : RowAt w D r row) (hk : ∀ b, D b → b < w.heap.size → w'.heap[b]? = w.heap[b]?) : RowAt w' D r row := by
  obtain ⟨a, cap, rfl, hl, hx⟩ := h
  refine ⟨a, cap, rfl, hl, ?_⟩
  rcases hx with rfl | ⟨b, off, rfl, hb, hc⟩
  · exact .inl rfl
  · refine .inr ⟨b, off, rfl, hb, fun i hi => ?_⟩
    have hlt : b < w.heap.size := World.block_lt_of_cell? w ⟨b, off + i * 3, none⟩ (hc i hi).1
    have hh := hk b hb hlt
    have hcc : ∀ o, w'.cell? ⟨b, o, none⟩ = w.cell? ⟨b, o, none⟩ := fun o => World.cell?_of_block (a := ⟨b, o, none⟩) hh
    rw [hcc, hcc, hcc]
    exact hc i hi

theorem RowAt.below {w w' : World} {D : Nat → Prop} {r : Value} {row : List Val} (h : RowAt w D r row) (hb : Below w.heap.size w w') : RowAt w' D r row :=
  h.keep fun b _ hlt => hb.block b hlt

def badAt (row : List Val) : Int := match row.findIdx? (fun v => !validValue v) with | some i => i | none => -1

theorem badAt_hit {row : List Val} {k : Nat} (hk : k < row.length) (hb : (!validValue row[k]) = true) (h : ∀ j (h : j < row.length), j < k → validValue row[j] = true) : badAt row = k := by
  have : row.findIdx? (fun v => !validValue v) = some k := by
    rw [List.findIdx?_eq_some_iff_getElem]
    exact ⟨hk, hb, fun j hj => by simp [h j (by omega) hj]⟩
  simp [badAt, this]

theorem badAt_none {row : List Val} (h : ∀ j (h : j < row.length), validValue row[j] = true) : badAt row = -1 := by
  have : row.findIdx? (fun v => !validValue v) = none := by
    rw [List.findIdx?_eq_none_iff]
    intro x hx
    obtain ⟨i, hi, rfl⟩ := List.mem_iff_getElem.1 hx
    simp [h i hi]
  simp [badAt, this]

theorem badAt_all (row : List Val) : decide (0 ≤ badAt row) = !row.all validValue := by
  unfold badAt
  cases h : row.findIdx? (fun v => !validValue v) with
  | none =>
    rw [List.findIdx?_eq_none_iff] at h
    have : row.all validValue = true := by rw [List.all_eq_true]; intro x hx; simpa using h x hx
    simp [this]
  | some i =>
    rw [List.findIdx?_eq_some_iff_getElem] at h
    obtain ⟨hi, hb, _⟩ := h
    have : row.all validValue = false := by
      rw [List.all_eq_false]; exact ⟨row[i], List.getElem_mem hi, by simpa using hb⟩
    simp [this]

def validRow (row : List Val) : Bool := decide ((row.length : Int) ≤ 8) && row.all validValue

def validNum (n : Int) : Bool := n != 0 && withinB n (-1000000) 1000000

structure Elem where
  k : Int
  n : Int
  t : Int
  row : List Val
  c : Int

def validChange (e : Elem) : Bool := withinB e.t (-1000000000000) 1000000000000 && validRow e.row && validNum e.c

def bareElem (e : Elem) : Bool := e.t == 0 && e.row.length == 0 && e.c == 0

def validElem (e : Elem) : Bool :=
  if e.k == 1 then e.n == 0 && validChange e
  else if e.k == 2 then bareElem e && withinB e.n (-1000000000000) 1000000000001
  else if e.k == 3 then bareElem e && withinB e.n 1 1000000
  else false

abbrev ev (e : Elem) (r : Value) : Value := .agg #[.int .i64 e.k, .int .i64 e.n, .int .i64 e.t, r, .int .i64 e.c]

section leaves
set_option maxHeartbeats 400000

theorem f86_any (n lo hi : Int) (w : World) :
    Calls Try.prog 86 #[.int .i64 n, .int .i64 lo, .int .i64 hi] w fun e w' => e = .returned (.bool (withinB n lo hi)) ∧ w = w' := by
  go_enter Try.func86, Try.ntmps86
  go_wp2
  all_goals go_ret
  all_goals (exact ⟨ret_bool (by simp [withinB, *] <;> omega), rfl⟩)

theorem f103_any (n lo hi : Int) (w : World) :
    Calls Try.prog 103 #[.int .i64 n, .int .i64 lo, .int .i64 hi] w fun e w' => e = .returned (.bool (withinB n lo hi)) ∧ w = w' := by
  go_enter Try.func103, Try.ntmps103
  go_wp2
  all_goals go_ret
  all_goals (exact ⟨ret_bool (by simp [withinB, *] <;> omega), rfl⟩)

theorem f100_any (n lo hi : Int) (w : World) :
    Calls Try.prog 100 #[.int .i64 n, .int .i64 lo, .int .i64 hi] w fun e w' => e = .returned (.bool (withinB n lo hi)) ∧ w = w' := by
  go_enter Try.func100, Try.ntmps100
  go_wp2
  all_goals go_ret
  all_goals (exact ⟨ret_bool (by simp [withinB, *] <;> omega), rfl⟩)

theorem f96_any (n lo hi : Int) (w : World) :
    Calls Try.prog 96 #[.int .i64 n, .int .i64 lo, .int .i64 hi] w fun e w' => e = .returned (.bool (withinB n lo hi)) ∧ w = w' := by
  go_enter Try.func96, Try.ntmps96
  go_wp2
  all_goals go_ret
  all_goals (exact ⟨ret_bool (by simp [withinB, *] <;> omega), rfl⟩)

theorem f104_any (n lo hi : Int) (w : World) :
    Calls Try.prog 104 #[.int .i64 n, .int .i64 lo, .int .i64 hi] w fun e w' => e = .returned (.bool (withinB n lo hi)) ∧ w = w' := by
  go_enter Try.func104, Try.ntmps104
  go_wp2
  all_goals go_ret
  all_goals (exact ⟨ret_bool (by simp [withinB, *] <;> omega), rfl⟩)

theorem f94_any (n : Int) (w : World) :
    Calls Try.prog 94 #[.int .i64 n] w fun e w' => e = .returned (.bool (withinB n (-1000000000000) 1000000000000)) ∧ w = w' := by
  go_enter Try.func94, Try.ntmps94
  go_wp2_with (go_at_call 100; refine (f100_any _ _ _ _).mono ?_; rintro e w' ⟨rfl, rfl⟩)
  go_ret
  exact ⟨rfl, rfl⟩

theorem f88_any (n : Int) (w : World) :
    Calls Try.prog 88 #[.int .i64 n] w fun e w' => e = .returned (.bool (validNum n)) ∧ w = w' := by
  go_enter Try.func88, Try.ntmps88
  go_wp2_with (go_at_call 86; refine (f86_any _ _ _ _).mono ?_; rintro e w' ⟨rfl, rfl⟩)
  all_goals go_ret
  all_goals (exact ⟨ret_bool (by simp [validNum, *]), rfl⟩)

theorem f99_any (v : Val) (w : World) :
    Calls Try.prog 99 #[v.v] w fun e w' => e = .returned (.bool (validValue v)) ∧ Below w.heap.size w w' := by
  go_enter Try.func99, Try.ntmps99
  go_wp2_with (go_at_call 103; refine (f103_any _ _ _ _).mono ?_; rintro e w' ⟨rfl, rfl⟩)
  all_goals go_ret
  all_goals (exact ⟨ret_bool (by simp [validValue, *]), (Below.refl _ _).alloc (Nat.le_refl _) _⟩)

theorem f101_any (v : Val) (w : World) :
    Calls Try.prog 101 #[v.v] w fun e w' => e = .returned (.bool (validValue v)) ∧ Below w.heap.size w w' := by
  go_enter Try.func101, Try.ntmps101
  go_wp2_with (go_at_call 104; refine (f104_any _ _ _ _).mono ?_; rintro e w' ⟨rfl, rfl⟩)
  all_goals go_ret
  all_goals (exact ⟨ret_bool (by simp [validValue, *]), (Below.refl _ _).alloc (Nat.le_refl _) _⟩)

theorem f98_any (v : Val) (w : World) :
    Calls Try.prog 98 #[v.v] w fun e w' => e = .returned (.bool (!validValue v)) ∧ Below w.heap.size w w' := by
  go_enter Try.func98, Try.ntmps98
  go_wp2_with (go_at_call 99; refine (f99_any v _).mono ?_; rintro e w' ⟨rfl, hb⟩)
  go_ret
  exact ⟨rfl, ((Below.refl _ _).alloc (Nat.le_refl _) _).trans (hb.mono (by simp))⟩

theorem f102_any (w : World) (r : Value) (row : List Val) (D : Nat → Prop) (hr : RowAt w D r row) :
    Calls Try.prog 102 #[r, .func (.func 98) #[] #[]] w fun e w' => e = .returned (.int .i64 (badAt row)) ∧ Below w.heap.size w w' := by
  obtain ⟨a, cap, rfl, hl, hx⟩ := hr
  go_enter Try.func102, Try.ntmps102
  go_wp2
  go_loopw [8] (fun i wr => ∃ k : Nat, k ≤ row.length ∧ i = .int .i64 k ∧ (∀ j (h : j < row.length), j < k → validValue row[j] = true) ∧ Below w.heap.size w wr) (fun i _ => row.length - (intOf i).toNat)
  case atStart => exact ⟨0, by omega, rfl, by omega, Below.refl _ _⟩
  case round =>
    obtain ⟨k, hk, rfl, hv, hb⟩ := hrel
    by_cases hlt : k < row.length
    · rcases hx with rfl | ⟨b, off, rfl, hbD, hc⟩
      · simp at hlt
      · obtain ⟨h0, h1, h2⟩ := hc k hlt
        have hbb : b < w.heap.size := World.block_lt_of_cell? w ⟨b, off + k * 3, none⟩ h0
        rw [← hb.cell (p := ⟨b, _, none⟩) hbb] at h0 h1 h2
        clear hc
        go_wp2_with (go_at_call 98; refine (f98_any row[k] _).mono ?_; rintro e w' ⟨rfl, hb1⟩)
        · have hbad : (!validValue row[k]) = true := by assumption
          go_ret
          exact ⟨ret_int (badAt_hit hlt hbad hv).symm, hb.trans (hb1.mono hb.size)⟩
        · have hok : (!validValue row[k]) = false := by assumption
          go_roundw
          case rel =>
            refine ⟨k + 1, by omega, by go_num, fun j hj hjk => ?_, hb.trans (hb1.mono hb.size)⟩
            by_cases e : j = k
            · subst e; simpa using hok
            · exact hv j hj (by omega)
          case measure => simp [intOf]; omega
    · go_wp2
      go_ret
      exact ⟨ret_int (badAt_none (fun j hj => hv j hj (by omega))).symm, hb⟩

theorem f97_any (w : World) (r : Value) (row : List Val) (D : Nat → Prop) (hr : RowAt w D r row) :
    Calls Try.prog 97 #[r, .func (.func 98) #[] #[]] w fun e w' => e = .returned (.bool (!row.all validValue)) ∧ Below w.heap.size w w' := by
  have e := badAt_all row
  go_enter Try.func97, Try.ntmps97
  go_wp2_with (go_at_call 102; refine (f102_any _ _ row D hr).mono ?_; rintro e w' ⟨rfl, hb1⟩)
  go_ret
  exact ⟨rfl, hb1⟩

theorem f87_any (w : World) (r : Value) (row : List Val) (D : Nat → Prop) (hr : RowAt w D r row) :
    Calls Try.prog 87 #[r] w fun e w' => e = .returned (.bool (validRow row)) ∧ Below w.heap.size w w' := by
  have hc := f97_any w r row D hr
  obtain ⟨a, cap, rfl, hl, hx⟩ := hr
  go_enter Try.func87, Try.ntmps87
  go_wp2_with (go_at_call 97; refine (hc).mono ?_; rintro e w' ⟨rfl, hb1⟩)
  all_goals go_ret
  · exact ⟨ret_bool (by simp [validRow, *]), hb1⟩
  · exact ⟨ret_bool (by simp [validRow, *] <;> omega), Below.refl _ _⟩

end leaves
end Go.Proofs.Ytdnkfgnjeibjeaa

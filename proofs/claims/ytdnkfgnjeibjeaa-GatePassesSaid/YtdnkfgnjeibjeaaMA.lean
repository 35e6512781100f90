import Derived.Test.YtdnkfgnjeibjeaaProg
import Derived.WalkKit
import Derived.WalkSpells
import Derived.WalkLawsBesides
import Derived.Lib.Hide
import Derived.Deep.RegionHeld3
import Derived.Deep.QuietTactic
import Derived.BigQuiet
import Derived.Deep.DeepCutAuto
import Derived.Lib.QuietBelow
import Derived.Maps.AppendAt
import Derived.Deep.AppendLies

namespace Go.Proofs.Ytdnkfgnjeibjeaa
open Go.RowKit

theorem ret_bool {a b : Bool} (h : a = b) : Ending.returned (.bool a) = .returned (.bool b) := by rw [h]
theorem ret_int {k : IntKind} {a b : Int} (h : a = b) : Ending.returned (.int k a) = .returned (.int k b) := by rw [h]

def withinB (n lo hi : Int) : Bool := decide (lo ≤ n ∧ n ≤ hi)

theorem bcell {W w1 : World} (hb : Below W.heap.size W w1) : (∀ b o, b < W.heap.size → w1.cell? ⟨b, o, none⟩ = W.cell? ⟨b, o, none⟩) ∧ (∀ b o, b < W.heap.size → w1.frozen? ⟨b, o, none⟩ = W.frozen? ⟨b, o, none⟩) :=
  ⟨fun b o h => hb.cell (p := ⟨b, o, none⟩) h, fun b o h => hb.frozen (p := ⟨b, o, none⟩) h⟩

theorem below_box {w w' : World} {o : Obj} (h : Below (w.alloc o).heap.size (w.alloc o) w') : Below w.heap.size w w' :=
  ((Below.refl _ _).alloc (Nat.le_refl _) _).trans (h.mono (by simp))

theorem below_box2 {w w' : World} {o o' : Obj} (h : Below ((w.alloc o).alloc o').heap.size ((w.alloc o).alloc o') w') : Below w.heap.size w w' := below_box (below_box h)

theorem below_then {w w1 w' : World} (h : Below w.heap.size w w1) (h' : Below w1.heap.size w1 w') : Below w.heap.size w w' := h.trans (h'.mono h.size)

structure Val where
  k : Int
  n : Int
  s : ByteArray

def validValue (v : Val) : Bool :=
  if v.k == 0 then v.n == 0 && v.s.toList.isEmpty
  else if v.k == 1 then withinB v.n (-1000000000000000) 1000000000000000 && v.s.toList.isEmpty
  else if v.k == 2 then v.n == 0 && decide ((v.s.size : Int) ≤ 200)
  else false

abbrev Val.v (v : Val) : Value := .agg #[.int .i64 v.k, .int .i64 v.n, .string v.s]

/-- r reads in w as the row; its block is one of D. -/
def RowAt (w : World) (D : Nat → Prop) (r : Value) (row : List Val) : Prop :=
  ∃ a cap, r = .slice a row.length cap ∧ row.length ≤ 9223372036854775807 ∧ (row = [] ∨ ∃ b off, a = some ⟨b, off, none⟩ ∧ D b ∧ ∀ i, (h : i < row.length) →
    w.cell? ⟨b, off + i * 3, none⟩ = some (.int .i64 row[i].k) ∧ w.cell? ⟨b, off + i * 3 + 1, none⟩ = some (.int .i64 row[i].n) ∧ w.cell? ⟨b, off + i * 3 + 2, none⟩ = some (.string row[i].s))


theorem RowAt.mono {w : World} {D D' : Nat → Prop} {r : Value} {row : List Val} (h : RowAt w D r row) (hd : ∀ b, D b → D' b) : RowAt w D' r row := by
  obtain ⟨a, cap, rfl, hl, hx⟩ := h
  refine ⟨a, cap, rfl, hl, ?_⟩
  rcases hx with rfl | ⟨b, off, rfl, hb, hc⟩
  · exact .inl rfl
  · exact .inr ⟨b, off, rfl, hd b hb, hc⟩

theorem RowAt.keep {w w' : World} {D : Nat → Prop} {r : Value} {row : List Val} (h : RowAt w D r row) (hk : ∀ b, D b → b < w.heap.size → w'.heap[b]? = w.heap[b]?) : RowAt w' D r row := by
  obtain ⟨a, cap, rfl, hl, hx⟩ := h
  refine ⟨a, cap, rfl, hl, ?_⟩
  rcases hx with rfl | ⟨b, off, rfl, hb, hc⟩
  · exact .inl rfl
  · refine .inr ⟨b, off, rfl, hb, fun i hi => ?_⟩
    have hlt : b < w.heap.size := World.block_lt_of_cell? w ⟨b, off + i * 3, none⟩ (hc i hi).1
    have hh := hk b hb hlt
    have hcc : ∀ o, w'.cell? ⟨b, o, none⟩ = w.cell? ⟨b, o, none⟩ := fun o => World.cell?_of_block (a := ⟨b, o, none⟩) hh
    rw [hcc, hcc, hcc]
    exact hc i hi

theorem RowAt.below {w w' : World} {D : Nat → Prop} {r : Value} {row : List Val} (h : RowAt w D r row) (hb : Below w.heap.size w w') : RowAt w' D r row :=
  h.keep fun b _ hlt => hb.block b hlt

def badAt (row : List Val) : Int := match row.findIdx? (fun v => !validValue v) with | some i => i | none => -1

theorem badAt_hit {row : List Val} {k : Nat} (hk : k < row.length) (hb : (!validValue row[k]) = true) (h : ∀ j (h : j < row.length), j < k → validValue row[j] = true) : badAt row = k := by
  have : row.findIdx? (fun v => !validValue v) = some k := by
    rw [List.findIdx?_eq_some_iff_getElem]
    exact ⟨hk, hb, fun j hj => by simp [h j (by omega) hj]⟩
  simp [badAt, this]

theorem badAt_none {row : List Val} (h : ∀ j (h : j < row.length), validValue row[j] = true) : badAt row = -1 := by
  have : row.findIdx? (fun v => !validValue v) = none := by
    rw [List.findIdx?_eq_none_iff]
    intro x hx
    obtain ⟨i, hi, rfl⟩ := List.mem_iff_getElem.1 hx
    simp [h i hi]
  simp [badAt, this]

theorem badAt_all (row : List Val) : decide (0 ≤ badAt row) = !row.all validValue := by
  unfold badAt
  cases h : row.findIdx? (fun v => !validValue v) with
  | none =>
    rw [List.findIdx?_eq_none_iff] at h
    have : row.all validValue = true := by rw [List.all_eq_true]; intro x hx; simpa using h x hx
    simp [this]
  | some i =>
    rw [List.findIdx?_eq_some_iff_getElem] at h
    obtain ⟨hi, hb, _⟩ := h
    have : row.all validValue = false := by
      rw [List.all_eq_false]; exact ⟨row[i], List.getElem_mem hi, by simpa using hb⟩
    simp [this]

def validRow (row : List Val) : Bool := decide ((row.length : Int) ≤ 8) && row.all validValue

def validNum (n : Int) : Bool := n != 0 && withinB n (-1000000) 1000000

structure Elem where
  k : Int
  n : Int
  t : Int
  row : List Val
  c : Int

def validChange (e : Elem) : Bool := withinB e.t (-1000000000000) 1000000000000 && validRow e.row && validNum e.c

def bareElem (e : Elem) : Bool := e.t == 0 && e.row.length == 0 && e.c == 0

def validElem (e : Elem) : Bool :=
  if e.k == 1 then e.n == 0 && validChange e
  else if e.k == 2 then bareElem e && withinB e.n (-1000000000000) 1000000000001
  else if e.k == 3 then bareElem e && withinB e.n 1 1000000
  else false

abbrev ev (e : Elem) (r : Value) : Value := .agg #[.int .i64 e.k, .int .i64 e.n, .int .i64 e.t, r, .int .i64 e.c]

section leaves
set_option maxHeartbeats 400000

theorem f86_any (n lo hi : Int) (w : World) :
    Calls Try.prog 86 #[.int .i64 n, .int .i64 lo, .int .i64 hi] w fun e w' => e = .returned (.bool (withinB n lo hi)) ∧ w = w' := by
  go_enter Try.func86, Try.ntmps86
  go_wp2
  all_goals go_ret
  all_goals (exact ⟨ret_bool (by simp [withinB, *] <;> omega), rfl⟩)

theorem f103_any (n lo hi : Int) (w : World) :
    Calls Try.prog 103 #[.int .i64 n, .int .i64 lo, .int .i64 hi] w fun e w' => e = .returned (.bool (withinB n lo hi)) ∧ w = w' := by
  go_enter Try.func103, Try.ntmps103
  go_wp2
  all_goals go_ret
  all_goals (exact ⟨ret_bool (by simp [withinB, *] <;> omega), rfl⟩)

theorem f100_any (n lo hi : Int) (w : World) :
    Calls Try.prog 100 #[.int .i64 n, .int .i64 lo, .int .i64 hi] w fun e w' => e = .returned (.bool (withinB n lo hi)) ∧ w = w' := by
  go_enter Try.func100, Try.ntmps100
  go_wp2
  all_goals go_ret
  all_goals (exact ⟨ret_bool (by simp [withinB, *] <;> omega), rfl⟩)

theorem f96_any (n lo hi : Int) (w : World) :
    Calls Try.prog 96 #[.int .i64 n, .int .i64 lo, .int .i64 hi] w fun e w' => e = .returned (.bool (withinB n lo hi)) ∧ w = w' := by
  go_enter Try.func96, Try.ntmps96
  go_wp2
  all_goals go_ret
  all_goals (exact ⟨ret_bool (by simp [withinB, *] <;> omega), rfl⟩)

theorem f104_any (n lo hi : Int) (w : World) :
    Calls Try.prog 104 #[.int .i64 n, .int .i64 lo, .int .i64 hi] w fun e w' => e = .returned (.bool (withinB n lo hi)) ∧ w = w' := by
  go_enter Try.func104, Try.ntmps104
  go_wp2
  all_goals go_ret
  all_goals (exact ⟨ret_bool (by simp [withinB, *] <;> omega), rfl⟩)

theorem f94_any (n : Int) (w : World) :
    Calls Try.prog 94 #[.int .i64 n] w fun e w' => e = .returned (.bool (withinB n (-1000000000000) 1000000000000)) ∧ w = w' := by
  go_enter Try.func94, Try.ntmps94
  go_wp2_with (go_at_call 100; refine (f100_any _ _ _ _).mono ?_; rintro e w' ⟨rfl, rfl⟩)
  go_ret
  exact ⟨rfl, rfl⟩

theorem f88_any (n : Int) (w : World) :
    Calls Try.prog 88 #[.int .i64 n] w fun e w' => e = .returned (.bool (validNum n)) ∧ w = w' := by
  go_enter Try.func88, Try.ntmps88
  go_wp2_with (go_at_call 86; refine (f86_any _ _ _ _).mono ?_; rintro e w' ⟨rfl, rfl⟩)
  all_goals go_ret
  all_goals (exact ⟨ret_bool (by simp [validNum, *]), rfl⟩)

theorem f99_any (v : Val) (w : World) :
    Calls Try.prog 99 #[v.v] w fun e w' => e = .returned (.bool (validValue v)) ∧ Below w.heap.size w w' := by
  go_enter Try.func99, Try.ntmps99
  go_wp2_with (go_at_call 103; refine (f103_any _ _ _ _).mono ?_; rintro e w' ⟨rfl, rfl⟩)
  all_goals go_ret
  all_goals (exact ⟨ret_bool (by simp [validValue, *]), (Below.refl _ _).alloc (Nat.le_refl _) _⟩)

theorem f101_any (v : Val) (w : World) :
    Calls Try.prog 101 #[v.v] w fun e w' => e = .returned (.bool (validValue v)) ∧ Below w.heap.size w w' := by
  go_enter Try.func101, Try.ntmps101
  go_wp2_with (go_at_call 104; refine (f104_any _ _ _ _).mono ?_; rintro e w' ⟨rfl, rfl⟩)
  all_goals go_ret
  all_goals (exact ⟨ret_bool (by simp [validValue, *]), (Below.refl _ _).alloc (Nat.le_refl _) _⟩)

theorem f98_any (v : Val) (w : World) :
    Calls Try.prog 98 #[v.v] w fun e w' => e = .returned (.bool (!validValue v)) ∧ Below w.heap.size w w' := by
  go_enter Try.func98, Try.ntmps98
  go_wp2_with (go_at_call 99; refine (f99_any v _).mono ?_; rintro e w' ⟨rfl, hb⟩)
  go_ret
  exact ⟨rfl, ((Below.refl _ _).alloc (Nat.le_refl _) _).trans (hb.mono (by simp))⟩

theorem f102_any (w : World) (r : Value) (row : List Val) (D : Nat → Prop) (hr : RowAt w D r row) :
    Calls Try.prog 102 #[r, .func (.func 98) #[] #[]] w fun e w' => e = .returned (.int .i64 (badAt row)) ∧ Below w.heap.size w w' := by
  obtain ⟨a, cap, rfl, hl, hx⟩ := hr
  go_enter Try.func102, Try.ntmps102
  go_wp2
  go_loopw [8] (fun i wr => ∃ k : Nat, k ≤ row.length ∧ i = .int .i64 k ∧ (∀ j (h : j < row.length), j < k → validValue row[j] = true) ∧ Below w.heap.size w wr) (fun i _ => row.length - (intOf i).toNat)
  case atStart => exact ⟨0, by omega, rfl, by omega, Below.refl _ _⟩
  case round =>
    obtain ⟨k, hk, rfl, hv, hb⟩ := hrel
    by_cases hlt : k < row.length
    · rcases hx with rfl | ⟨b, off, rfl, hbD, hc⟩
      · simp at hlt
      · obtain ⟨h0, h1, h2⟩ := hc k hlt
        have hbb : b < w.heap.size := World.block_lt_of_cell? w ⟨b, off + k * 3, none⟩ h0
        rw [← hb.cell (p := ⟨b, _, none⟩) hbb] at h0 h1 h2
        clear hc
        go_wp2_with (go_at_call 98; refine (f98_any row[k] _).mono ?_; rintro e w' ⟨rfl, hb1⟩)
        · have hbad : (!validValue row[k]) = true := by assumption
          go_ret
          exact ⟨ret_int (badAt_hit hlt hbad hv).symm, hb.trans (hb1.mono hb.size)⟩
        · have hok : (!validValue row[k]) = false := by assumption
          go_roundw
          case rel =>
            refine ⟨k + 1, by omega, by go_num, fun j hj hjk => ?_, hb.trans (hb1.mono hb.size)⟩
            by_cases e : j = k
            · subst e; simpa using hok
            · exact hv j hj (by omega)
          case measure => simp [intOf]; omega
    · go_wp2
      go_ret
      exact ⟨ret_int (badAt_none (fun j hj => hv j hj (by omega))).symm, hb⟩

theorem f97_any (w : World) (r : Value) (row : List Val) (D : Nat → Prop) (hr : RowAt w D r row) :
    Calls Try.prog 97 #[r, .func (.func 98) #[] #[]] w fun e w' => e = .returned (.bool (!row.all validValue)) ∧ Below w.heap.size w w' := by
  have e := badAt_all row
  go_enter Try.func97, Try.ntmps97
  go_wp2_with (go_at_call 102; refine (f102_any _ _ row D hr).mono ?_; rintro e w' ⟨rfl, hb1⟩)
  go_ret
  exact ⟨rfl, hb1⟩

theorem f87_any (w : World) (r : Value) (row : List Val) (D : Nat → Prop) (hr : RowAt w D r row) :
    Calls Try.prog 87 #[r] w fun e w' => e = .returned (.bool (validRow row)) ∧ Below w.heap.size w w' := by
  have hc := f97_any w r row D hr
  obtain ⟨a, cap, rfl, hl, hx⟩ := hr
  go_enter Try.func87, Try.ntmps87
  go_wp2_with (go_at_call 97; refine (hc).mono ?_; rintro e w' ⟨rfl, hb1⟩)
  all_goals go_ret
  · exact ⟨ret_bool (by simp [validRow, *]), hb1⟩
  · exact ⟨ret_bool (by simp [validRow, *] <;> omega), Below.refl _ _⟩

end leaves
end Go.Proofs.Ytdnkfgnjeibjeaa

namespace Go.Proofs.Ytdnkfgnjeibjeaa
open Go.RowKit

section leaves
set_option maxHeartbeats 400000

theorem f67_any (e : Elem) (r : Value) (w : World) (D : Nat → Prop) (hr : RowAt w D r e.row) :
    Calls Try.prog 67 #[.agg #[.int .i64 e.t, r, .int .i64 e.c]] w fun x w' => x = .returned (.bool (validChange e)) ∧ Below w.heap.size w w' := by
  have hR := fun (W : World) (h : Below w.heap.size w W) => f87_any W r e.row D (RowAt.below hr h)
  obtain ⟨a, cap, rfl, hl, hx⟩ := hr
  clear hx
  go_enter Try.func67, Try.ntmps67
  go_wp2_with (first | (go_at_call 86; refine (f86_any _ _ _ _).mono ?_; rintro e w' ⟨rfl, rfl⟩) | (go_at_call 87; refine (hR _ ((Below.refl _ _).alloc (Nat.le_refl _) _)).mono ?_; rintro e w' ⟨rfl, hb⟩; obtain ⟨hc, hf⟩ := bcell hb) | (go_at_call 88; refine (f88_any _ _).mono ?_; rintro e w' ⟨rfl, rfl⟩))
  all_goals go_ret
  all_goals (exact ⟨ret_bool (by simp [validChange, *]), (by first | exact below_box hb | exact (Below.refl _ _).alloc (Nat.le_refl _) _)⟩)

theorem f40_any (e : Elem) (r : Value) (w : World) (D : Nat → Prop) (hr : RowAt w D r e.row) :
    Calls Try.prog 40 #[ev e r] w fun x w' => x = .returned (.bool (validElem e)) ∧ Below w.heap.size w w' := by
  have hR := fun (W : World) (h : Below w.heap.size w W) => f67_any e r W D (RowAt.below hr h)
  obtain ⟨a, cap, rfl, hl, hx⟩ := hr
  clear hx
  have HR := Lib.hid hR
  clear hR
  go_enter Try.func40, Try.ntmps40
  go_upto_region 2 with (fail)
  go_cut [4] (fun s4 wx => s4 = .bool (bareElem e) ∧ wx = ((w.alloc (.cells #[.int .i64 e.k, .int .i64 e.n, .int .i64 e.t, .slice a e.row.length cap, .int .i64 e.c] 34)).alloc (.cells #[.int .i64 e.t, .slice a e.row.length cap, .int .i64 e.c] 32)))
  case first =>
    cases h0 : (e.t == 0)
    · go_wp2
      go_meet
      exact ⟨by simp [bareElem, h0], rfl⟩
    · cases h1 : (e.row.length == 0)
      · have h1' : ((e.row.length : Int) == 0) = false := by simpa using h1
        go_wp2
        go_meet
        exact ⟨by simp [bareElem, h0, h1], rfl⟩
      · have h1' : ((e.row.length : Int) == 0) = true := by simpa using h1
        go_wp2
        go_meet
        exact ⟨by simp [bareElem, h0, h1], rfl⟩
  case rest =>
    obtain ⟨rfl, rfl⟩ := hcut
    go_wp2_with (go_at_call 67; refine (HR.out _ (((Below.refl _ _).alloc (Nat.le_refl _) _).alloc (by simp) _)).mono ?_; rintro e w' ⟨rfl, hb⟩; obtain ⟨hc, hf⟩ := bcell hb)
    all_goals go_ret
    all_goals (exact ⟨ret_bool (by simp [validElem, withinB, *] <;> omega), (by first | exact below_box2 hb | exact ((Below.refl _ _).alloc (Nat.le_refl _) _).alloc (by simp) _)⟩)
end leaves
end Go.Proofs.Ytdnkfgnjeibjeaa

namespace Go.Proofs.Ytdnkfgnjeibjeaa
open Go.RowKit

def cls (k : Int) : Int := if k == 1 || k == 2 then k else 0

theorem cls_vals (k : Int) : cls k = 0 ∨ cls k = 1 ∨ cls k = 2 := by
  unfold cls; by_cases h1 : k = 1
  · simp [h1]
  · by_cases h2 : k = 2 <;> simp [h1, h2]

def lessS (a b : ByteArray) : Bool := Op.bytesLess a.toList b.toList

def cmpVal (a b : Val) : Int :=
  if cls a.k != cls b.k then (if cls a.k < cls b.k then -1 else 1)
  else if cls a.k == 1 then (if a.n < b.n then -1 else if b.n < a.n then 1 else 0)
  else if cls a.k == 2 then (if Op.bytesLess a.s.toList b.s.toList then -1 else if (!Op.bytesLess a.s.toList b.s.toList && !(a.s.toList == b.s.toList)) then 1 else 0)
  else 0

section leaves
set_option maxHeartbeats 400000

theorem f89_any (v : Val) (w : World) :
    Calls Try.prog 89 #[v.v] w fun e w' => e = .returned (.int .i64 (cls v.k)) ∧ Below w.heap.size w w' := by
  go_enter Try.func89, Try.ntmps89
  go_wp2
  all_goals go_ret
  all_goals (exact ⟨ret_int (by simp_all [cls]), (Below.refl _ _).alloc (Nat.le_refl _) _⟩)

/-- What the two class regions leave. -/
theorem below_of_class {w w' : World} (h : ∃ p : Regrown, w' = Sort.grow (redrawn w p.d) p.os) : Below w.heap.size w w' := by
  obtain ⟨p, rfl⟩ := h
  exact below_regrown _ _ _

theorem f69_ne (a b : Val) (w : World) (hne : (cls a.k != cls b.k) = true) :
    Calls Try.prog 69 #[a.v, b.v] w fun e w' => e = .returned (.int .i64 (cmpVal a b)) ∧ Below w.heap.size w w' := by
  have hA := fun (W : World) d os => Calls.regrown_of (f89_any a (Sort.grow (redrawn W d) os))
  have hB := fun (W : World) d os => Calls.regrown_of (f89_any b (Sort.grow (redrawn W d) os))
  have HA := Lib.hid hA
  have HB := Lib.hid hB
  clear hA hB
  go_enter Try.func69, Try.ntmps69
  go_wp2_with fail
  have hcl := fun d os b' o' h => (below_regrown ((w.alloc (Obj.cells #[Value.int IntKind.i64 a.k, Value.int IntKind.i64 a.n, Value.string a.s] 112)).alloc (Obj.cells #[Value.int IntKind.i64 b.k, Value.int IntKind.i64 b.n, Value.string b.s] 112)) d os).cell (p := ⟨b', o', none⟩) h
  refine wp_region_quiet_below (by kernel_rfl) (by kernel_rfl) ?_
  repeat (quiet_step (first | with_reducible exact HA.out _ _ _ | with_reducible exact HB.out _ _ _))
  refine wpQuiet_nil ?_
  intro wq hw'
  have hq := below_of_class hw'
  clear hw' hcl
  obtain ⟨hc, hf⟩ := bcell hq
  go_wp2_with fail
  have hcl := fun d os b' o' h => (below_regrown wq d os).cell (p := ⟨b', o', none⟩) h
  have hz : w.heap.size + 1 < wq.heap.size := by have := hq.size; simp at this; omega
  have hz0 : w.heap.size < wq.heap.size := by omega
  refine wp_region_quiet_below (by kernel_rfl) (by kernel_rfl) ?_
  repeat (quiet_step (first | with_reducible exact HA.out _ _ _ | with_reducible exact HB.out _ _ _))
  refine wpQuiet_nil ?_
  intro wr hw'
  have hr := below_of_class hw'
  have hbb := below_then (below_box2 hq) hr
  clear hw' hcl hc hf hz hq hr
  go_wp2_with fail
  all_goals go_ret
  · rename_i h
    exact ⟨ret_int (by simp [cmpVal, hne, h]), hbb⟩
  · rename_i h
    exact ⟨ret_int (by simp [cmpVal, hne]; omega), hbb⟩

theorem f69_eq (a b : Val) (w : World) (hne : (cls a.k != cls b.k) = false) :
    Calls Try.prog 69 #[a.v, b.v] w fun e w' => e = .returned (.int .i64 (cmpVal a b)) ∧ Below w.heap.size w w' := by
  have hA := fun (W : World) d os => Calls.regrown_of (f89_any a (Sort.grow (redrawn W d) os))
  have hB := fun (W : World) d os => Calls.regrown_of (f89_any b (Sort.grow (redrawn W d) os))
  have HA := Lib.hid hA
  have HB := Lib.hid hB
  clear hA hB
  go_enter Try.func69, Try.ntmps69
  go_wp2_with fail
  have hcl := fun d os b' o' h => (below_regrown ((w.alloc (Obj.cells #[Value.int IntKind.i64 a.k, Value.int IntKind.i64 a.n, Value.string a.s] 112)).alloc (Obj.cells #[Value.int IntKind.i64 b.k, Value.int IntKind.i64 b.n, Value.string b.s] 112)) d os).cell (p := ⟨b', o', none⟩) h
  refine wp_region_quiet_below (by kernel_rfl) (by kernel_rfl) ?_
  repeat (quiet_step (first | with_reducible exact HA.out _ _ _ | with_reducible exact HB.out _ _ _))
  refine wpQuiet_nil ?_
  intro wq hw'
  have hq := below_of_class hw'
  clear hw' hcl
  obtain ⟨hc, hf⟩ := bcell hq
  have HQ := Lib.hid hq
  clear hq
  rcases cls_vals a.k with h | h | h
  · have h1 : (cls a.k == 1) = false := by simp [h]
    have h2 : (cls a.k == 2) = false := by simp [h]
    clear h
    go_wp2_with (go_at_call 89; refine (f89_any a _).mono ?_; rintro e w' ⟨rfl, hb⟩; have HQ := Lib.hid (below_then HQ.out hb); obtain ⟨hc, hf⟩ := bcell HQ.out; clear hb)
    go_ret
    exact ⟨ret_int (by simp [cmpVal, hne, h1, h2]), below_box2 HQ.out⟩
  · have h1 : (cls a.k == 1) = true := by simp [h]
    have h2 : (cls a.k == 2) = false := by simp [h]
    clear h
    go_wp2_with (go_at_call 89; refine (f89_any a _).mono ?_; rintro e w' ⟨rfl, hb⟩; have HQ := Lib.hid (below_then HQ.out hb); obtain ⟨hc, hf⟩ := bcell HQ.out; clear hb)
    all_goals go_ret
    all_goals (exact ⟨ret_int (by simp only [cmpVal, hne, h1]; simp only [Bool.false_eq_true, if_false, if_true]; (repeat' split) <;> omega), below_box2 HQ.out⟩)
  · have h1 : (cls a.k == 1) = false := by simp [h]
    have h2 : (cls a.k == 2) = true := by simp [h]
    clear h
    go_wp2_with (go_at_call 89; refine (f89_any a _).mono ?_; rintro e w' ⟨rfl, hb⟩; have HQ := Lib.hid (below_then HQ.out hb); obtain ⟨hc, hf⟩ := bcell HQ.out; clear hb)
    all_goals go_ret
    all_goals (exact ⟨ret_int (by simp_all [cmpVal]), below_box2 HQ.out⟩)

theorem f69_any (a b : Val) (w : World) :
    Calls Try.prog 69 #[a.v, b.v] w fun e w' => e = .returned (.int .i64 (cmpVal a b)) ∧ Below w.heap.size w w' := by
  cases h : (cls a.k != cls b.k)
  · exact f69_eq a b w h
  · exact f69_ne a b w h

end leaves
end Go.Proofs.Ytdnkfgnjeibjeaa

namespace Go.Proofs.Ytdnkfgnjeibjeaa
open Go.RowKit

def cmpRow : List Val → List Val → Int
  | [], [] => 0
  | [], _ :: _ => -1
  | _ :: _, [] => 1
  | x :: xs, y :: ys => if cmpVal x y != 0 then cmpVal x y else cmpRow xs ys

theorem drop_cons {α : Type} {l : List α} {k : Nat} (h : k < l.length) : l.drop k = l[k] :: l.drop (k + 1) := List.drop_eq_getElem_cons h

theorem cmpRow_hit {a b : List Val} {k : Nat} (ha : k < a.length) (hb : k < b.length) (h : (cmpVal a[k] b[k] != 0) = true) : cmpRow (a.drop k) (b.drop k) = cmpVal a[k] b[k] := by
  rw [drop_cons ha, drop_cons hb, cmpRow, if_pos h]

theorem cmpRow_miss {a b : List Val} {k : Nat} (ha : k < a.length) (hb : k < b.length) (h : (cmpVal a[k] b[k] != 0) = false) : cmpRow (a.drop (k + 1)) (b.drop (k + 1)) = cmpRow (a.drop k) (b.drop k) := by
  rw [drop_cons ha, drop_cons hb, cmpRow, if_neg (by simp [h])]

theorem cmpRow_end {a b : List Val} {k : Nat} (hk : k ≤ a.length) (hk' : k ≤ b.length) (h : ¬ (k < a.length ∧ k < b.length)) : cmpRow (a.drop k) (b.drop k) = if a.length < b.length then -1 else if b.length < a.length then 1 else 0 := by
  by_cases ha : k < a.length
  · have hb : k = b.length := by omega
    subst hb
    rw [drop_cons ha, List.drop_length, cmpRow, if_neg (by omega), if_pos ha]
  · have hb : k = a.length := by omega
    subst hb
    by_cases hb : a.length < b.length
    · rw [List.drop_length, drop_cons hb, cmpRow, if_pos hb]
    · have e : a.length = b.length := by omega
      rw [List.drop_length, e, List.drop_length, cmpRow, if_neg (by omega), if_neg (by omega)]

section leaves
set_option maxHeartbeats 400000

theorem f45_any (w : World) (r1 r2 : Value) (a b : List Val) (D1 D2 : Nat → Prop) (h1 : RowAt w D1 r1 a) (h2 : RowAt w D2 r2 b) :
    Calls Try.prog 45 #[r1, r2] w fun e w' => e = .returned (.int .i64 (cmpRow a b)) ∧ Below w.heap.size w w' := by
  obtain ⟨p1, cap1, rfl, hl1, hx1⟩ := h1
  obtain ⟨p2, cap2, rfl, hl2, hx2⟩ := h2
  go_enter Try.func45, Try.ntmps45
  go_wp2
  go_loopw [5] (fun i wr => ∃ k : Nat, k ≤ a.length ∧ k ≤ b.length ∧ i = .int .i64 k ∧ cmpRow (a.drop k) (b.drop k) = cmpRow a b ∧ Below w.heap.size w wr) (fun i _ => a.length - (intOf i).toNat)
  case atStart => exact ⟨0, by omega, by omega, rfl, rfl, Below.refl _ _⟩
  case round =>
    obtain ⟨k, hk, hk', rfl, hv, hb⟩ := hrel
    have HV := Lib.hid hv
    clear hv
    by_cases hlt : k < a.length ∧ k < b.length
    · obtain ⟨hlt, hlt'⟩ := hlt
      rcases hx1 with rfl | ⟨b1, o1, rfl, hD1, hc1⟩
      · simp at hlt
      rcases hx2 with rfl | ⟨b2, o2, rfl, hD2, hc2⟩
      · simp at hlt'
      obtain ⟨x0, x1, x2⟩ := hc1 k hlt
      obtain ⟨y0, y1, y2⟩ := hc2 k hlt'
      have hbx : b1 < w.heap.size := World.block_lt_of_cell? w ⟨b1, o1 + k * 3, none⟩ x0
      have hby : b2 < w.heap.size := World.block_lt_of_cell? w ⟨b2, o2 + k * 3, none⟩ y0
      rw [← hb.cell (p := ⟨b1, _, none⟩) hbx] at x0 x1 x2
      rw [← hb.cell (p := ⟨b2, _, none⟩) hby] at y0 y1 y2
      have hbx' : b1 < wr.heap.size := Nat.lt_of_lt_of_le hbx hb.size
      have hby' : b2 < wr.heap.size := Nat.lt_of_lt_of_le hby hb.size
      clear hc1 hc2 hbx hby
      have HB := Lib.hid hb
      clear hb
      have g1 : (0 : Int) ≤ (k : Int) := by omega
      have g2 : (k : Int) < (a.length : Int) := by omega
      have g3 : (k : Int) < (b.length : Int) := by omega
      go_wp2_with fail
      have hcl := fun d os b' o' h => (below_regrown wr d os).cell (p := ⟨b', o', none⟩) h
      have hA := fun (W : World) d os => Calls.regrown_of (f69_any a[k] b[k] (Sort.grow (redrawn W d) os))
      have HA := Lib.hid hA
      clear hA
      refine wp_region_quiet_below (by kernel_rfl) (by kernel_rfl) ?_
      repeat (quiet_step (with_reducible exact HA.out _ _ _))
      refine wpQuiet_nil ?_
      intro wq hw'
      have hq := below_of_class hw'
      clear hw' hcl
      have hbb := below_then HB.out hq
      go_wp2_with fail
      · rename_i hne
        go_ret
        exact ⟨ret_int (by rw [← HV.out, cmpRow_hit hlt hlt' hne]), hbb⟩
      · rename_i hne
        go_roundw
        case rel => exact ⟨k + 1, by omega, by omega, by go_num, by rw [cmpRow_miss hlt hlt' hne, HV.out], hbb⟩
        case measure => simp [intOf]; omega
    · have he := cmpRow_end hk hk' hlt
      rw [HV.out] at he
      have HE := Lib.hid he
      clear he
      have hend : ∀ (v : Int), v = (if a.length < b.length then -1 else if b.length < a.length then 1 else 0) → Ending.returned (.int .i64 v) = .returned (.int .i64 (cmpRow a b)) := fun v hv => by rw [hv, HE.out]
      by_cases ha : k < a.length
      · have hkb : ¬ k < b.length := by omega
        have l1 : ¬ a.length < b.length := by omega
        have l2 : b.length < a.length := by omega
        have HN := Lib.hid hend
        clear hend
        go_wp2
        go_ret
        exact ⟨HN.out _ (by rw [if_neg l1, if_pos l2]), hb⟩
      · have HN := Lib.hid hend
        clear hend
        by_cases l1 : a.length < b.length
        · go_wp2
          go_ret
          exact ⟨HN.out _ (by rw [if_pos l1]), hb⟩
        · by_cases l2 : b.length < a.length
          · go_wp2
            go_ret
            exact ⟨HN.out _ (by rw [if_neg l1, if_pos l2]), hb⟩
          · go_wp2
            go_ret
            exact ⟨HN.out _ (by rw [if_neg l1, if_neg l2]), hb⟩

theorem nat_beq (a b : Nat) : ((a : Int) == (b : Int)) = (a == b) := by
  rw [Bool.eq_iff_iff]; simp; omega

def sameElem (x y : Elem) : Bool := x.k == y.k && x.n == y.n && x.t == y.t && x.c == y.c && cmpRow x.row y.row == 0 && x.row.length == y.row.length

theorem f16_any (w : World) (x y : Elem) (r1 r2 : Value) (D1 D2 : Nat → Prop) (h1 : RowAt w D1 r1 x.row) (h2 : RowAt w D2 r2 y.row) :
    Calls Try.prog 16 #[ev x r1, ev y r2] w fun e w' => e = .returned (.bool (sameElem x y)) ∧ Below w.heap.size w w' := by
  have hR := fun (W : World) (h : Below w.heap.size w W) => f45_any W r1 r2 x.row y.row D1 D2 (RowAt.below h1 h) (RowAt.below h2 h)
  obtain ⟨p1, cap1, rfl, hl1, hx1⟩ := h1
  obtain ⟨p2, cap2, rfl, hl2, hx2⟩ := h2
  clear hx1 hx2
  have HR := Lib.hid hR
  clear hR
  have hb2 : ∀ o1 o2, Below w.heap.size w ((w.alloc o1).alloc o2) := fun o1 o2 => ((Below.refl _ _).alloc (Nat.le_refl _) _).alloc (by simp) _
  have HB2 := Lib.hid hb2
  clear hb2
  cases e1 : (x.k == y.k)
  · go_enter Try.func16, Try.ntmps16
    go_wp2_with fail
    go_ret
    exact ⟨ret_bool (by simp [sameElem, e1]), HB2.out _ _⟩
  cases e2 : (x.n == y.n)
  · go_enter Try.func16, Try.ntmps16
    go_wp2_with fail
    go_ret
    exact ⟨ret_bool (by simp [sameElem, e2]), HB2.out _ _⟩
  cases e3 : (x.t == y.t)
  · go_enter Try.func16, Try.ntmps16
    go_wp2_with fail
    go_ret
    exact ⟨ret_bool (by simp [sameElem, e3]), HB2.out _ _⟩
  cases e4 : (x.c == y.c)
  · go_enter Try.func16, Try.ntmps16
    go_wp2_with fail
    go_ret
    exact ⟨ret_bool (by simp [sameElem, e4]), HB2.out _ _⟩
  go_enter Try.func16, Try.ntmps16
  go_wp2_with (go_at_call 45; refine (HR.out _ (HB2.out _ _)).mono ?_; rintro e w' ⟨rfl, hb⟩; obtain ⟨hc, hf⟩ := bcell hb)
  all_goals go_ret
  · rename_i h
    exact ⟨ret_bool (by simp [sameElem, e1, e2, e3, e4, h, nat_beq]), below_then (HB2.out _ _) hb⟩
  · rename_i h
    exact ⟨ret_bool (by simp [sameElem, e1, e2, e3, e4, h]), below_then (HB2.out _ _) hb⟩

end leaves

/-- The five cells of an element. -/
def ElemCell (w : World) (D : Nat → Prop) (b o : Nat) (e : Elem) : Prop :=
  ∃ r, w.cell? ⟨b, o, none⟩ = some (.int .i64 e.k) ∧ w.cell? ⟨b, o + 1, none⟩ = some (.int .i64 e.n) ∧ w.cell? ⟨b, o + 2, none⟩ = some (.int .i64 e.t) ∧
    w.cell? ⟨b, o + 3, none⟩ = some r ∧ w.cell? ⟨b, o + 4, none⟩ = some (.int .i64 e.c) ∧ RowAt w D r e.row

def ElemsAt (w : World) (D : Nat → Prop) (v : Value) (l : List Elem) : Prop :=
  ∃ a cap, v = .slice a l.length cap ∧ l.length ≤ 9223372036854775807 ∧ (l = [] ∨ ∃ b off, a = some ⟨b, off, none⟩ ∧ D b ∧ ∀ i, (h : i < l.length) → ElemCell w D b (off + i * 5) l[i])

/-- A list of what passed: input and element. -/
def OutsAt (w : World) (D : Nat → Prop) (v : Value) (l : List (Int × Elem)) : Prop :=
  ∃ a cap, v = .slice a l.length cap ∧ l.length ≤ 9223372036854775807 ∧ (l = [] ∨ ∃ b off, a = some ⟨b, off, none⟩ ∧ D b ∧ ∀ i, (h : i < l.length) →
    w.cell? ⟨b, off + i * 6, none⟩ = some (.int .i64 l[i].1) ∧ ElemCell w D b (off + i * 6 + 1) l[i].2)

theorem cell_keep {w w' : World} {b : Nat} (h : w'.heap[b]? = w.heap[b]?) (o : Nat) : w'.cell? ⟨b, o, none⟩ = w.cell? ⟨b, o, none⟩ := World.cell?_of_block (a := ⟨b, o, none⟩) h

theorem cell_lt {w : World} {b o : Nat} {v : Value} (h : w.cell? ⟨b, o, none⟩ = some v) : b < w.heap.size := World.block_lt_of_cell? w ⟨b, o, none⟩ h

theorem ElemCell.keep {w w' : World} {D : Nat → Prop} {b o : Nat} {e : Elem} (h : ElemCell w D b o e) (hb : D b) (hk : ∀ b, D b → b < w.heap.size → w'.heap[b]? = w.heap[b]?) : ElemCell w' D b o e := by
  obtain ⟨r, h0, h1, h2, h3, h4, hr⟩ := h
  have hh := hk b hb (cell_lt h0)
  exact ⟨r, by rw [cell_keep hh]; exact h0, by rw [cell_keep hh]; exact h1, by rw [cell_keep hh]; exact h2, by rw [cell_keep hh]; exact h3, by rw [cell_keep hh]; exact h4, hr.keep hk⟩

theorem ElemCell.mono {w : World} {D D' : Nat → Prop} {b o : Nat} {e : Elem} (h : ElemCell w D b o e) (hd : ∀ b, D b → D' b) : ElemCell w D' b o e := by
  obtain ⟨r, h0, h1, h2, h3, h4, hr⟩ := h
  exact ⟨r, h0, h1, h2, h3, h4, hr.mono hd⟩

theorem ElemsAt.keep {w w' : World} {D : Nat → Prop} {v : Value} {l : List Elem} (h : ElemsAt w D v l) (hk : ∀ b, D b → b < w.heap.size → w'.heap[b]? = w.heap[b]?) : ElemsAt w' D v l := by
  obtain ⟨a, cap, rfl, hl, hx⟩ := h
  refine ⟨a, cap, rfl, hl, ?_⟩
  rcases hx with rfl | ⟨b, off, rfl, hb, hc⟩
  · exact .inl rfl
  · exact .inr ⟨b, off, rfl, hb, fun i hi => (hc i hi).keep hb hk⟩

theorem ElemsAt.mono {w : World} {D D' : Nat → Prop} {v : Value} {l : List Elem} (h : ElemsAt w D v l) (hd : ∀ b, D b → D' b) : ElemsAt w D' v l := by
  obtain ⟨a, cap, rfl, hl, hx⟩ := h
  refine ⟨a, cap, rfl, hl, ?_⟩
  rcases hx with rfl | ⟨b, off, rfl, hb, hc⟩
  · exact .inl rfl
  · exact .inr ⟨b, off, rfl, hd b hb, fun i hi => (hc i hi).mono hd⟩

theorem ElemsAt.below {w w' : World} {D : Nat → Prop} {v : Value} {l : List Elem} (h : ElemsAt w D v l) (hb : Below w.heap.size w w') : ElemsAt w' D v l := h.keep fun b _ hlt => hb.block b hlt

theorem OutsAt.keep {w w' : World} {D : Nat → Prop} {v : Value} {l : List (Int × Elem)} (h : OutsAt w D v l) (hk : ∀ b, D b → b < w.heap.size → w'.heap[b]? = w.heap[b]?) : OutsAt w' D v l := by
  obtain ⟨a, cap, rfl, hl, hx⟩ := h
  refine ⟨a, cap, rfl, hl, ?_⟩
  rcases hx with rfl | ⟨b, off, rfl, hb, hc⟩
  · exact .inl rfl
  · exact .inr ⟨b, off, rfl, hb, fun i hi => ⟨by rw [cell_keep (hk b hb (cell_lt (hc i hi).1))]; exact (hc i hi).1, (hc i hi).2.keep hb hk⟩⟩

theorem OutsAt.mono {w : World} {D D' : Nat → Prop} {v : Value} {l : List (Int × Elem)} (h : OutsAt w D v l) (hd : ∀ b, D b → D' b) : OutsAt w D' v l := by
  obtain ⟨a, cap, rfl, hl, hx⟩ := h
  refine ⟨a, cap, rfl, hl, ?_⟩
  rcases hx with rfl | ⟨b, off, rfl, hb, hc⟩
  · exact .inl rfl
  · exact .inr ⟨b, off, rfl, hd b hb, fun i hi => ⟨(hc i hi).1, (hc i hi).2.mono hd⟩⟩

theorem OutsAt.below {w w' : World} {D : Nat → Prop} {v : Value} {l : List (Int × Elem)} (h : OutsAt w D v l) (hb : Below w.heap.size w w') : OutsAt w' D v l := h.keep fun b _ hlt => hb.block b hlt

def sameElems : List Elem → List Elem → Bool
  | [], [] => true
  | x :: xs, y :: ys => sameElem x y && sameElems xs ys
  | _, _ => false

theorem sameElems_len {a b : List Elem} (h : a.length ≠ b.length) : sameElems a b = false := by
  induction a generalizing b with
  | nil => cases b with | nil => simp at h | cons y ys => rfl
  | cons x xs ih => cases b with | nil => rfl | cons y ys => simp only [sameElems, ih (b := ys) (by simpa using h), Bool.and_false]

theorem sameElems_step {a b : List Elem} {k : Nat} (ha : k < a.length) (hb : k < b.length) : sameElems (a.drop k) (b.drop k) = (sameElem a[k] b[k] && sameElems (a.drop (k + 1)) (b.drop (k + 1))) := by
  rw [drop_cons ha, drop_cons hb, sameElems]

section leaves
set_option maxHeartbeats 400000

theorem f22_any (w : World) (v1 v2 : Value) (a b : List Elem) (D1 D2 : Nat → Prop) (h1 : ElemsAt w D1 v1 a) (h2 : ElemsAt w D2 v2 b) :
    Calls Try.prog 22 #[v1, v2] w fun e w' => e = .returned (.bool (sameElems a b)) ∧ Below w.heap.size w w' := by
  obtain ⟨p1, cap1, rfl, hl1, hx1⟩ := h1
  obtain ⟨p2, cap2, rfl, hl2, hx2⟩ := h2
  cases hlen : (a.length != b.length)
  · have hlen' : a.length = b.length := by simpa using hlen
    have hlen2 : ((a.length : Int) != (b.length : Int)) = false := by simp [hlen']
    have HL := Lib.hid hlen'
    clear hlen'
    go_enter Try.func22, Try.ntmps22
    go_wp2
    go_loopw [5] (fun i wr => ∃ k : Nat, k ≤ a.length ∧ i = .int .i64 k ∧ sameElems (a.drop k) (b.drop k) = sameElems a b ∧ Below w.heap.size w wr) (fun i _ => a.length - (intOf i).toNat)
    case atStart => exact ⟨0, by omega, rfl, rfl, Below.refl _ _⟩
    case round =>
      obtain ⟨k, hk, rfl, hv, hb⟩ := hrel
      have HV := Lib.hid hv
      clear hv
      by_cases hlt : k < a.length
      · have hlt' : k < b.length := by have := HL.out; omega
        rcases hx1 with rfl | ⟨b1, o1, rfl, hD1, hc1⟩
        · simp at hlt
        rcases hx2 with rfl | ⟨b2, o2, rfl, hD2, hc2⟩
        · simp at hlt'
        obtain ⟨r1, x0, x1, x2, x3, x4, xr⟩ := hc1 k hlt
        obtain ⟨r2, y0, y1, y2, y3, y4, yr⟩ := hc2 k hlt'
        have hbx : b1 < w.heap.size := cell_lt x0
        have hby : b2 < w.heap.size := cell_lt y0
        rw [← hb.cell (p := ⟨b1, _, none⟩) hbx] at x0 x1 x2 x3 x4
        rw [← hb.cell (p := ⟨b2, _, none⟩) hby] at y0 y1 y2 y3 y4
        have hbx' : b1 < wr.heap.size := Nat.lt_of_lt_of_le hbx hb.size
        have hby' : b2 < wr.heap.size := Nat.lt_of_lt_of_le hby hb.size
        have hA := fun d os => Calls.regrown_of (f16_any (Sort.grow (redrawn wr d) os) a[k] b[k] r1 r2 D1 D2 ((xr.below hb).below (below_regrown wr d os)) ((yr.below hb).below (below_regrown wr d os)))
        have HA := Lib.hid hA
        clear hA hc1 hc2 hbx hby xr yr
        have HB := Lib.hid hb
        clear hb
        have g1 : (0 : Int) ≤ (k : Int) := by omega
        have g2 : (k : Int) < (a.length : Int) := by omega
        have g3 : (k : Int) < (b.length : Int) := by omega
        have hst := sameElems_step hlt hlt'
        have HS := Lib.hid hst
        clear hst
        go_wp2_with fail
        have hcl := fun d os b' o' h => (below_regrown wr d os).cell (p := ⟨b', o', none⟩) h
        refine wp_region_quiet_below (by kernel_rfl) (by kernel_rfl) ?_
        repeat (quiet_step (with_reducible exact HA.out _ _))
        refine wpQuiet_nil ?_
        intro wq hw'
        have hq := below_of_class hw'
        clear hw' hcl
        have hbb := below_then HB.out hq
        go_wp2_with fail
        · rename_i hne
          have hne' : sameElem a[k] b[k] = false := by simpa using hne
          go_ret
          exact ⟨ret_bool (by rw [← HV.out, HS.out, hne', Bool.false_and]), hbb⟩
        · rename_i hne
          have hne' : sameElem a[k] b[k] = true := by simpa using hne
          go_roundw
          case rel => exact ⟨k + 1, by omega, by go_num, by rw [← HV.out, HS.out, hne', Bool.true_and], hbb⟩
          case measure => simp [intOf]; omega
      · have he : sameElems (a.drop k) (b.drop k) = true := by rw [List.drop_of_length_le (by omega), List.drop_of_length_le (by have := HL.out; omega)]; rfl
        rw [HV.out] at he
        have HE := Lib.hid he
        clear he
        go_wp2
        go_ret
        exact ⟨ret_bool HE.out.symm, hb⟩
  · have hlen2 : ((a.length : Int) != (b.length : Int)) = true := by simp at hlen ⊢; omega
    have hs := sameElems_len (a := a) (b := b) (by simpa using hlen)
    have HS := Lib.hid hs
    clear hs
    go_enter Try.func22, Try.ntmps22
    go_wp2
    go_ret
    exact ⟨ret_bool HS.out.symm, Below.refl _ _⟩
end leaves
end Go.Proofs.Ytdnkfgnjeibjeaa

namespace Go.Proofs.Ytdnkfgnjeibjeaa
open Go.RowKit

def sameOuts : List (Int × Elem) → List (Int × Elem) → Bool
  | [], [] => true
  | x :: xs, y :: ys => !(x.1 != y.1 || !sameElem x.2 y.2) && sameOuts xs ys
  | _, _ => false

theorem sameOuts_len {a b : List (Int × Elem)} (h : a.length ≠ b.length) : sameOuts a b = false := by
  induction a generalizing b with
  | nil => cases b with | nil => simp at h | cons y ys => rfl
  | cons x xs ih => cases b with | nil => rfl | cons y ys => simp only [sameOuts, ih (b := ys) (by simpa using h), Bool.and_false]

theorem sameOuts_step {a b : List (Int × Elem)} {k : Nat} (ha : k < a.length) (hb : k < b.length) : sameOuts (a.drop k) (b.drop k) = (!(a[k].1 != b[k].1 || !sameElem a[k].2 b[k].2) && sameOuts (a.drop (k + 1)) (b.drop (k + 1))) := by
  rw [drop_cons ha, drop_cons hb, sameOuts]

section leaves
set_option maxHeartbeats 400000
set_option maxRecDepth 100000

set_option maxHeartbeats 2000000 in
theorem f14_any (w : World) (v1 v2 : Value) (a b : List (Int × Elem)) (D1 D2 : Nat → Prop) (h1 : OutsAt w D1 v1 a) (h2 : OutsAt w D2 v2 b) :
    Calls Try.prog 14 #[v1, v2] w fun e w' => e = .returned (.bool (sameOuts a b)) ∧ Below w.heap.size w w' := by
  obtain ⟨p1, cap1, rfl, hl1, hx1⟩ := h1
  obtain ⟨p2, cap2, rfl, hl2, hx2⟩ := h2
  cases hlen : (a.length != b.length)
  · have hlen' : a.length = b.length := by simpa using hlen
    have hlen2 : ((a.length : Int) != (b.length : Int)) = false := by simp [hlen']
    have HL := Lib.hid hlen'
    clear hlen'
    go_enter Try.func14, Try.ntmps14
    go_wp2
    go_loopw [5] (fun i wr => ∃ k : Nat, k ≤ a.length ∧ i = .int .i64 k ∧ sameOuts (a.drop k) (b.drop k) = sameOuts a b ∧ Below w.heap.size w wr) (fun i _ => a.length - (intOf i).toNat)
    case atStart => exact ⟨0, by omega, rfl, rfl, Below.refl _ _⟩
    case round =>
      obtain ⟨k, hk, rfl, hv, hb⟩ := hrel
      have HV := Lib.hid hv
      clear hv
      by_cases hlt : k < a.length
      · have hlt' : k < b.length := by have := HL.out; omega
        rcases hx1 with rfl | ⟨b1, o1, rfl, hD1, hc1⟩
        · simp at hlt
        rcases hx2 with rfl | ⟨b2, o2, rfl, hD2, hc2⟩
        · simp at hlt'
        obtain ⟨x5, r1, x0, x1, x2, x3, x4, xr⟩ := hc1 k hlt
        obtain ⟨y5, r2, y0, y1, y2, y3, y4, yr⟩ := hc2 k hlt'
        have hbx : b1 < w.heap.size := cell_lt x0
        have hby : b2 < w.heap.size := cell_lt y0
        rw [← hb.cell (p := ⟨b1, _, none⟩) hbx] at x0 x1 x2 x3 x4 x5
        rw [← hb.cell (p := ⟨b2, _, none⟩) hby] at y0 y1 y2 y3 y4 y5
        have hbx' : b1 < wr.heap.size := Nat.lt_of_lt_of_le hbx hb.size
        have hby' : b2 < wr.heap.size := Nat.lt_of_lt_of_le hby hb.size
        have hA := fun d os => Calls.regrown_of (f16_any (Sort.grow (redrawn wr d) os) a[k].2 b[k].2 r1 r2 D1 D2 ((xr.below hb).below (below_regrown wr d os)) ((yr.below hb).below (below_regrown wr d os)))
        have HA := Lib.hid hA
        clear hA hc1 hc2 hbx hby xr yr
        have HB := Lib.hid hb
        clear hb
        have g1 : (0 : Int) ≤ (k : Int) := by omega
        have g2 : (k : Int) < (a.length : Int) := by omega
        have g3 : (k : Int) < (b.length : Int) := by omega
        have hst := sameOuts_step hlt hlt'
        have HS := Lib.hid hst
        clear hst
        cases hne1 : (a[k].1 != b[k].1)
        · go_wp2_with fail
          have hcl := fun d os b' o' h => (below_regrown wr d os).cell (p := ⟨b', o', none⟩) h
          refine wp_region_quiet_below (by kernel_rfl) (by kernel_rfl) ?_
          repeat (first | go_big_quiet_skip | quiet_step (with_reducible exact HA.out _ _))
          refine wpQuiet_nil ?_
          intro wq hw'
          have hq := below_of_class hw'
          clear hw' hcl
          have hbb := below_then HB.out hq
          go_wp2_with fail
          · rename_i hne
            have hne' : sameElem a[k].2 b[k].2 = false := by simpa using hne
            go_ret
            exact ⟨ret_bool (by rw [← HV.out, HS.out, hne', hne1]; simp), hbb⟩
          · rename_i hne
            have hne' : sameElem a[k].2 b[k].2 = true := by simpa using hne
            go_roundw
            case rel => exact ⟨k + 1, by omega, by go_num, by rw [← HV.out, HS.out, hne', hne1]; simp, hbb⟩
            case measure => simp [intOf]; omega
        · go_wp2_with fail
          have hcl := fun d os b' o' h => (below_regrown wr d os).cell (p := ⟨b', o', none⟩) h
          refine wp_region_quiet_below (by kernel_rfl) (by kernel_rfl) ?_
          repeat (first | go_big_quiet_skip | quiet_step (with_reducible exact HA.out _ _))
          refine wpQuiet_nil ?_
          intro wq hw'
          have hq := below_of_class hw'
          clear hw' hcl
          have hbb := below_then HB.out hq
          go_wp2_with fail
          go_ret
          exact ⟨ret_bool (by rw [← HV.out, HS.out, hne1]; simp), hbb⟩
      · have he : sameOuts (a.drop k) (b.drop k) = true := by rw [List.drop_of_length_le (by omega), List.drop_of_length_le (by have := HL.out; omega)]; rfl
        rw [HV.out] at he
        have HE := Lib.hid he
        clear he
        go_wp2
        go_ret
        exact ⟨ret_bool HE.out.symm, hb⟩
  · have hlen2 : ((a.length : Int) != (b.length : Int)) = true := by simp at hlen ⊢; omega
    have hs := sameOuts_len (a := a) (b := b) (by simpa using hlen)
    have HS := Lib.hid hs
    clear hs
    go_enter Try.func14, Try.ntmps14
    go_wp2
    go_ret
    exact ⟨ret_bool HS.out.symm, Below.refl _ _⟩

/-- Whether an element is larger than is looked at. -/
def greatE (e : Elem) : Bool := e.row.any (fun v => decide ((300 : Int) < v.s.size)) || decide ((20 : Int) < e.row.length)

theorem f28_any (e : Elem) (r : Value) (w : World) (D : Nat → Prop) (hr : RowAt w D r e.row) :
    Calls Try.prog 28 #[ev e r] w fun x w' => x = .returned (.bool (greatE e)) ∧ Below w.heap.size w w' := by
  obtain ⟨a, cap, rfl, hl, hx⟩ := hr
  go_enter Try.func28, Try.ntmps28
  go_wp2
  go_loop [3] (fun i => ∃ k : Nat, k ≤ e.row.length ∧ i = .int .i64 k ∧ ∀ j (h : j < e.row.length), j < k → ¬ (300 : Int) < e.row[j].s.size) (fun i => e.row.length - (intOf i).toNat)
  case atStart => exact ⟨0, by omega, rfl, by omega⟩
  case round =>
    obtain ⟨k, hk, rfl, hv⟩ := hrel
    have HV := Lib.hid hv
    clear hv
    by_cases hlt : k < e.row.length
    · rcases hx with hx | ⟨b, off, rfl, hbD, hc⟩
      · simp [hx] at hlt
      · obtain ⟨h0, h1, h2⟩ := hc k hlt
        have hbb : b < w.heap.size := cell_lt h0
        clear hc
        by_cases hbig : (300 : Int) < e.row[k].s.size
        · go_wp2
          go_ret
          refine ⟨ret_bool ?_, (Below.refl _ _).alloc (Nat.le_refl _) _⟩
          have : e.row.any (fun v => decide ((300 : Int) < v.s.size)) = true := List.any_eq_true.2 ⟨e.row[k], List.getElem_mem hlt, by simpa using hbig⟩
          simp [greatE, this]
        · go_wp2
          go_round
          case rel =>
            refine ⟨k + 1, by omega, by go_num, fun j hj hjk => ?_⟩
            by_cases e' : j = k
            · subst e'; exact hbig
            · exact HV.out j hj (by omega)
          case measure => simp [intOf]; omega
    · clear hx
      have hall : e.row.any (fun v => decide ((300 : Int) < v.s.size)) = false := by
        rw [List.any_eq_false]
        intro x hx
        obtain ⟨i, hi, rfl⟩ := List.mem_iff_getElem.1 hx
        simpa using HV.out i hi (by omega)
      have HA := Lib.hid hall
      clear hall
      go_wp2
      go_ret
      exact ⟨ret_bool (by simp [greatE, HA.out]), (Below.refl _ _).alloc (Nat.le_refl _) _⟩

end leaves
end Go.Proofs.Ytdnkfgnjeibjeaa

namespace Go.Proofs.Ytdnkfgnjeibjeaa
open Go.RowKit

/-- A slice value whose elements are known, with the block that it may write to. -/
def SlOwn (w : World) (e : TypeId) (size : Nat) (v : Value) (n : Nat) (xs : List Value) (blk : Option Nat) : Prop :=
  xs.length = n * size ∧ ((v = .slice none 0 0 ∧ n = 0 ∧ blk = none) ∨
    ∃ g o cap cur, blk = some g ∧ v = .slice (some ⟨g, o, none⟩) n cap ∧ w.heap[g]? = some (.cells cur e (0, 0)) ∧ n ≤ cap ∧ cap ≤ maxLen ∧ o + cap * size ≤ cur.size ∧ (cur.toList.drop o).take (n * size) = xs)

/-- What is appended: a slice of m elements. -/
def Src (w : World) (size : Nat) (x : Value) (m : Nat) (news : List Value) : Prop :=
  news.length = m * size ∧ ∃ a c, x = .slice a m c ∧ (news = [] ∨ ∃ ad, a = some ad ∧ ∀ j u, news[j]? = some u → w.cell? (ad.add j) = some u)

theorem SlOwn.nil (w : World) (e : TypeId) (size : Nat) : SlOwn w e size (.slice none 0 0) 0 [] none := ⟨by simp, .inl ⟨rfl, rfl, rfl⟩⟩

theorem add_at (g o j : Nat) : (⟨g, o, none⟩ : Addr).add j = ⟨g, o + j, none⟩ := by unfold Addr.add; split <;> simp_all

theorem heap_lt {w : World} {g : Nat} {o : Obj} (h : w.heap[g]? = some o) : g < w.heap.size := by
  rcases Nat.lt_or_ge g w.heap.size with hlt | hge
  · exact hlt
  · rw [Array.getElem?_eq_none hge] at h; cases h

theorem SlOwn.blk_lt {w : World} {e : TypeId} {size : Nat} {v : Value} {n : Nat} {xs : List Value} {g : Nat} (h : SlOwn w e size v n xs (some g)) : g < w.heap.size := by
  rcases h.2 with ⟨_, _, h⟩ | ⟨g', o, cap, cur, hb, _, hg, _⟩
  · cases h
  · injection hb with hb
    subst hb
    exact heap_lt hg

theorem SlOwn.cell {w : World} {e : TypeId} {size : Nat} {g o n cap : Nat} {xs : List Value} {blk : Option Nat} (h : SlOwn w e size (.slice (some ⟨g, o, none⟩) n cap) n xs blk) : ∀ j u, xs[j]? = some u → w.cell? ⟨g, o + j, none⟩ = some u := by
  intro j u hu
  rcases h.2 with ⟨h, _⟩ | ⟨g', o', cap', cur, hb, hv, hg, _, _, _, ht⟩
  · cases h
  · injection hv with ha _ _
    injection ha with ha
    injection ha with ha ho _
    subst ha ho
    rw [cell_of_row w g (o + j) cur e (0, 0) hg]
    rw [← ht, List.getElem?_take] at hu
    split at hu
    · rw [List.getElem?_drop] at hu; simpa using hu
    · cases hu

theorem SlOwn.keep {w w' : World} {e : TypeId} {size : Nat} {v : Value} {n : Nat} {xs : List Value} {blk : Option Nat} (h : SlOwn w e size v n xs blk) (hk : ∀ g, blk = some g → w'.heap[g]? = w.heap[g]?) : SlOwn w' e size v n xs blk := by
  refine ⟨h.1, ?_⟩
  rcases h.2 with h | ⟨g', o, cap, cur, hb, hv, hg, rest⟩
  · exact .inl h
  · exact .inr ⟨g', o, cap, cur, hb, hv, (hk g' hb).trans hg, rest⟩

/-- append, in whatever case. -/
theorem run_append_S {P : Program} (w : World) (t ty e : TypeId) (i : TypeInfo) (z : Value) (size bytes : Nat) (ht : P.underlying t = some (.slice e)) (hi : P.info? e = some i) (hz : i.zero = some z)
    (hsize : i.size = size) (hby : i.bytes = bytes) (hzs : z.cells.size = size) (hsz : 0 < size)
    (v : Value) (n : Nat) (xs : List Value) (blk : Option Nat) (hown : SlOwn w e size v n xs blk)
    (x : Value) (m : Nat) (news : List Value) (hsrc : Src w size x m news) (h1 : ∀ u ∈ news, u.oneCell' = true)
    (h63 : n + m ≤ maxLen) (hbytes : (n + m) * bytes ≤ 140737488355328) :
    ∃ v' w' blk', (Builtin.append_ #[t, t] ty #[v, x]).run P w = .ok v' w' ∧ SlOwn w' e size v' (n + m) (xs ++ news) blk' ∧ w.grownBy w' blk ∧ (blk' = blk ∨ blk' = some w.heap.size) := by
  subst hsize
  subst hby
  obtain ⟨hl, a, c, rfl, hnew⟩ := hsrc
  have hsmall : n + m ≤ 9223372036854775807 := by simp only [maxLen] at h63; omega
  have hlen : (xs ++ news).length = (n + m) * i.size := by rw [List.length_append, hown.1, hl, Nat.add_mul]
  rcases a with _ | ad
  · -- nothing is appended
    have hn : news = [] := by
      rcases hnew with h | ⟨ad, h, _⟩
      · exact h
      · cases h
    subst hn
    have hm : m = 0 := by
      rcases Nat.eq_zero_or_pos m with h | h
      · exact h
      · have : 0 < m * i.size := Nat.mul_pos h hsz
        simp at hl
        omega
    subst hm
    refine ⟨v, w, blk, ?_, by simpa using hown, ⟨rfl, rfl, rfl, Nat.le_refl _, fun _ _ _ => rfl⟩, .inl rfl⟩
    rcases hown.2 with ⟨rfl, rfl, _⟩ | ⟨g, o, cap, cur, _, rfl, _, hnc, _⟩
    · simp [Builtin.append_, run_underlying ht, sizeOf, typeInfo, hi, Builtin.lenOf, Builtin.firstCells]
    · simp [Builtin.append_, run_underlying ht, sizeOf, typeInfo, hi, Builtin.lenOf, Builtin.firstCells, hnc, storeCells]
  have hnews : ∀ j u, news[j]? = some u → w.cell? (ad.add j) = some u := by
    rcases hnew with h | ⟨ad', h, hc⟩
    · subst h; intro j u hu; simp at hu
    · injection h with h; subst h; exact hc
  have grown : ∀ (old : Nat), old < n + m → ∀ (row : Option Nat),
      SlOwn (w.drew.alloc (.cells (xs.toArray ++ news.toArray ++ Builtin.zeroCells z.cells (grownCap w (n + m) old e - (n + m))) e)) e i.size
        (.slice (some ⟨w.heap.size, 0, none⟩) (n + m) (grownCap w (n + m) old e)) (n + m) (xs ++ news) (some w.heap.size) ∧
      w.grownBy (w.drew.alloc (.cells (xs.toArray ++ news.toArray ++ Builtin.zeroCells z.cells (grownCap w (n + m) old e - (n + m))) e)) row := by
    intro old ho row
    have hge := grownCap_ge w (n + m) old e
    have hcm : grownCap w (n + m) old e ≤ maxLen := grownCap_le_maxLen w (n + m) old e h63
    refine ⟨⟨hlen, .inr ⟨w.heap.size, 0, _, _, rfl, rfl, heap_alloc_new w.drew _, hge, hcm, ?_, ?_⟩⟩, ⟨rfl, rfl, rfl, by simp, fun k hk _ => Below.heap_alloc w.drew _ k hk⟩⟩
    · simp only [Array.size_append, List.size_toArray, size_zeroCells, hzs, hown.1, hl, ← Nat.add_mul, Nat.zero_add]
      rw [Nat.le_iff_lt_or_eq]
      right
      congr 1
      omega
    · simp only [Array.toList_append, List.append_assoc, List.drop_zero]
      rw [← List.append_assoc, ← hlen]
      exact List.take_left
  rcases hown.2 with ⟨rfl, rfl, rfl⟩ | ⟨g, o, cap, cur, rfl, rfl, hg, hnc, hcm, hcs, htake⟩
  · have hx : xs = [] := List.eq_nil_of_length_eq_zero (by simpa using hown.1)
    subst hx
    by_cases hm : m = 0
    · subst hm
      have hn : news = [] := List.eq_nil_of_length_eq_zero (by simpa using hl)
      subst hn
      refine ⟨.slice none 0 0, w, none, ?_, SlOwn.nil w e i.size, ⟨rfl, rfl, rfl, Nat.le_refl _, fun _ _ _ => rfl⟩, Or.inl rfl⟩
      simp [Builtin.append_, run_underlying ht, sizeOf, typeInfo, hi, Builtin.lenOf, Builtin.firstCells, loadCells, loadCellsFrom]
    · have hr := run_append_nil (P := P) w t ty e i z ht hi hz ad m c news hl hnews (by omega) (by omega) (by have hb := hbytes; simp only [Nat.zero_add] at hb; omega)
      have hgr := grown 0 (by omega) none
      simp only [Nat.zero_add, List.nil_append, Array.empty_append] at hgr ⊢
      exact ⟨_, _, _, hr, hgr.1, hgr.2, Or.inr rfl⟩
  · by_cases hroom : n + m ≤ cap
    · have hfit : o + n * i.size + 0 + news.length ≤ cur.size := by
        rw [hl]
        have h2 : (n + m) * i.size ≤ cap * i.size := Nat.mul_le_mul_right _ hroom
        rw [Nat.add_mul] at h2
        omega
      have hf := run_firstCells_some (P := P) w i.size m ad m c news hl hnews
      have hst := run_storeCells_at P g (o + n * i.size) e news 0 cur w hg hfit h1
      have hr : (Builtin.append_ #[t, t] ty #[.slice (some ⟨g, o, none⟩) n cap, .slice (some ad) m c]).run P w =
          .ok (.slice (some ⟨g, o, none⟩) (n + m) cap) (w.setRow g (cur.toList.take (o + n * i.size + 0) ++ news ++ cur.toList.drop (o + n * i.size + 0 + news.length)).toArray) := by
        simp only [Nat.add_zero] at hst ⊢
        simp [Builtin.append_, run_underlying ht, sizeOf, typeInfo, hi, Builtin.lenOf, hroom, hf, add_at, hst]
      refine ⟨_, _, some g, hr, ⟨hlen, .inr ⟨g, o, cap, _, rfl, rfl, setRow_heap w g cur _ e _ hg, hroom, hcm, ?_, ?_⟩⟩, ⟨rfl, rfl, rfl, by simp, fun k _ hk => setRow_other w g k _ (fun e => hk (by simp [e]))⟩, Or.inl rfl⟩
      · simp only [List.size_toArray, List.length_append, List.length_take, List.length_drop, Array.length_toList]
        omega
      · have hlx : xs.length = n * i.size := hown.1
        have e1 : cur.toList.take (o + n * i.size + 0) = cur.toList.take o ++ xs := by
          rw [Nat.add_zero, ← htake, List.take_add]
        have hol : (cur.toList.take o).length = o := by rw [List.length_take, Array.length_toList]; omega
        simp only [e1]
        rw [List.append_assoc, List.append_assoc, List.drop_append_of_le_length (by rw [hol]; omega), List.drop_of_length_le (by rw [hol]; omega), List.nil_append, ← List.append_assoc, ← hlen]
        exact List.take_left
    · have holds : ∀ j u, xs[j]? = some u → w.cell? ((⟨g, o, none⟩ : Addr).add j) = some u := by
        intro j u hu
        rw [add_at]
        exact hown.cell j u hu
      have hr := run_append_grow (P := P) w t ty e i z ht hi hz ⟨g, o, none⟩ n cap xs hown.1 holds ad m c news hl hnews (by omega) (by omega) (growslice_fits (by omega) hbytes)
      have hgr := grown cap (by omega) (some g)
      exact ⟨_, _, _, hr, hgr.1, hgr.2, Or.inr rfl⟩

theorem wp_append_S {P : Program} {w : World} {o : Oper} {a : Act} {K : Act → World → Prop} {Q : Exit → Act → World → Prop} (s x : Operand) (t : TypeId)
    (ho : o.op = .call { callee := .builtin .append, args := #[s, x], argTypes := #[t, t] })
    (e : TypeId) (i : TypeInfo) (z : Value) (size bytes : Nat) (ht : P.underlying t = some (.slice e)) (hi : P.info? e = some i) (hz : i.zero = some z)
    (hsize : i.size = size) (hby : i.bytes = bytes) (hzs : z.cells.size = size) (hsz : 0 < size)
    (v : Value) (n : Nat) (xs : List Value) (blk : Option Nat) (hs : a.eval s = v) (hown : SlOwn w e size v n xs blk)
    (xv : Value) (m : Nat) (news : List Value) (hx : a.eval x = xv) (hsrc : Src w size xv m news) (h1 : ∀ u ∈ news, u.oneCell' = true)
    (h63 : n + m ≤ maxLen) (hbytes : (n + m) * bytes ≤ 140737488355328)
    (h : ∀ v' w' blk', SlOwn w' e size v' (n + m) (xs ++ news) blk' → w.grownBy w' blk → (blk' = blk ∨ blk' = some w.heap.size) → K (a.put o.dst v') w') : o.wp P a w K Q := by
  obtain ⟨v', w', blk', hr, h2, h3, h4⟩ := run_append_S (P := P) w t o.type e i z size bytes ht hi hz hsize hby hzs hsz v n xs blk hown xv m news hsrc h1 h63 hbytes
  unfold Oper.wp execOp
  simp only [ho, resolve, invoke, builtin, Sem.run_bind, Sem.run_pure, Result.andThen_ok, List.map_toArray, List.map_cons, List.map_nil, hs, hx, hr]
  exact h v' w' blk' h2 h3 h4

theorem wpList_append_S {P : Program} {w : World} {ops : Array Oper} {rest : List Oper} {o : Oper} {a : Act} {Q : Exit → Act → World → Prop} (hgd : o.guard = none) (s x : Operand) (t : TypeId)
    (ho : o.op = .call { callee := .builtin .append, args := #[s, x], argTypes := #[t, t] })
    (e : TypeId) (i : TypeInfo) (z : Value) (size bytes : Nat) (ht : P.underlying t = some (.slice e)) (hi : P.info? e = some i) (hz : i.zero = some z)
    (hsize : i.size = size) (hby : i.bytes = bytes) (hzs : z.cells.size = size) (hsz : 0 < size)
    (v : Value) (n : Nat) (xs : List Value) (blk : Option Nat) (hs : a.eval s = v) (hown : SlOwn w e size v n xs blk)
    (xv : Value) (m : Nat) (news : List Value) (hx : a.eval x = xv) (hsrc : Src w size xv m news) (h1 : ∀ u ∈ news, u.oneCell' = true)
    (h63 : n + m ≤ maxLen) (hbytes : (n + m) * bytes ≤ 140737488355328)
    (h : ∀ v' w' blk', SlOwn w' e size v' (n + m) (xs ++ news) blk' → w.grownBy w' blk → (blk' = blk ∨ blk' = some w.heap.size) → wpList P ops Q rest (a.put o.dst v') w') : wpList P ops Q (o :: rest) a w :=
  wpList_plain hgd fun _ hK => wp_append_S s x t ho e i z size bytes ht hi hz hsize hby hzs hsz v n xs blk hs hown xv m news hx hsrc h1 h63 hbytes fun v' w' blk' h2 h3 h4 => hK _ _ (h v' w' blk' h2 h3 h4)

/-- Lists of rows of one width. -/
theorem flat_len {α : Type} {f : α → List Value} {s : Nat} (hf : ∀ x, (f x).length = s) (l : List α) : (l.flatMap f).length = l.length * s := by
  induction l with
  | nil => simp
  | cons x l ih => rw [List.flatMap_cons, List.length_append, hf, ih, List.length_cons, Nat.add_mul]; omega

theorem flat_at {α : Type} {f : α → List Value} {s : Nat} (hf : ∀ x, (f x).length = s) (l : List α) (i r : Nat) (hi : i < l.length) (hr : r < s) : (l.flatMap f)[i * s + r]? = (f l[i])[r]? := by
  induction l generalizing i with
  | nil => simp at hi
  | cons x l ih =>
    rw [List.flatMap_cons]
    cases i with
    | zero => rw [List.getElem?_append_left (by rw [hf]; omega)]; simp
    | succ i =>
      rw [List.getElem?_append_right (by rw [hf, Nat.add_mul]; omega), hf]
      have : (i + 1) * s + r - s = i * s + r := by rw [Nat.add_mul]; omega
      rw [this, ih i (by simpa using hi)]
      simp

theorem flat_inv {α : Type} {f : α → List Value} {s : Nat} (hs : 0 < s) (hf : ∀ x, (f x).length = s) (l : List α) (j : Nat) (u : Value) (h : (l.flatMap f)[j]? = some u) : ∃ i r, ∃ hi : i < l.length, r < s ∧ j = i * s + r ∧ (f l[i])[r]? = some u := by
  have hj : j < (l.flatMap f).length := (List.getElem?_eq_some_iff.1 h).1
  rw [flat_len hf] at hj
  have hi : j / s < l.length := Nat.div_lt_of_lt_mul (by rw [Nat.mul_comm]; exact hj)
  have hr : j % s < s := Nat.mod_lt _ hs
  have hjj : j = j / s * s + j % s := by rw [Nat.mul_comm]; exact (Nat.div_add_mod j s).symm
  refine ⟨j / s, j % s, hi, hr, hjj, ?_⟩
  rw [← flat_at hf l (j / s) (j % s) hi hr, ← hjj]
  exact h

theorem box1 (w : World) (o : Obj) : (w.alloc o).heap[w.heap.size]? = some o := heap_alloc_new w o
theorem box2_fst (w : World) (o1 o2 : Obj) : ((w.alloc o1).alloc o2).heap[w.heap.size]? = some o1 := by
  rw [Below.heap_alloc _ _ _ (by simp)]; exact heap_alloc_new w o1
theorem box2_snd (w : World) (o1 o2 : Obj) : ((w.alloc o1).alloc o2).heap[w.heap.size + 1]? = some o2 := by
  have := heap_alloc_new (w.alloc o1) o2
  simpa using this

section
variable {w : World} {g : Nat} {t : TypeId} {a b c d e f h : Value}
theorem blk_frozen {cs : Array Value} (hg : w.heap[g]? = some (.cells cs t (0, 0))) (o : Nat) : w.frozen? ⟨g, o, none⟩ = false := by simp [World.frozen?, hg]
theorem blk1 (hg : w.heap[g]? = some (.cells #[a] t (0, 0))) : w.cell? ⟨g, 0, none⟩ = some a ∧ w.frozen? ⟨g, 0, none⟩ = false := ⟨by simp [World.cell?, hg], blk_frozen hg _⟩
theorem blk2 (hg : w.heap[g]? = some (.cells #[a, b] t (0, 0))) : w.cell? ⟨g, 0, none⟩ = some a ∧ w.cell? ⟨g, 1, none⟩ = some b ∧ (∀ o, w.frozen? ⟨g, o, none⟩ = false) :=
  ⟨by simp [World.cell?, hg], by simp [World.cell?, hg], blk_frozen hg⟩
theorem blk5 (hg : w.heap[g]? = some (.cells #[a, b, c, d, e] t (0, 0))) : w.cell? ⟨g, 0, none⟩ = some a ∧ w.cell? ⟨g, 1, none⟩ = some b ∧ w.cell? ⟨g, 2, none⟩ = some c ∧ w.cell? ⟨g, 3, none⟩ = some d ∧ w.cell? ⟨g, 4, none⟩ = some e ∧ (∀ o, w.frozen? ⟨g, o, none⟩ = false) :=
  ⟨by simp [World.cell?, hg], by simp [World.cell?, hg], by simp [World.cell?, hg], by simp [World.cell?, hg], by simp [World.cell?, hg], blk_frozen hg⟩
end

end Go.Proofs.Ytdnkfgnjeibjeaa

namespace Go.Proofs.Ytdnkfgnjeibjeaa
open Go.RowKit

def Val.cl (v : Val) : List Value := [.int .i64 v.k, .int .i64 v.n, .string v.s]

theorem Val.cl_len (v : Val) : v.cl.length = 3 := rfl

theorem cl_one {row : List Val} : ∀ u ∈ row.flatMap Val.cl, u.oneCell' = true := by
  intro u hu
  rw [List.mem_flatMap] at hu
  obtain ⟨v, _, h⟩ := hu
  simp only [Val.cl, List.mem_cons, List.not_mem_nil, or_false] at h
  rcases h with rfl | rfl | rfl <;> rfl

theorem RowAt.src {w : World} {D : Nat → Prop} {r : Value} {row : List Val} (h : RowAt w D r row) : Src w 3 r row.length (row.flatMap Val.cl) := by
  obtain ⟨a, cap, rfl, hl, hx⟩ := h
  refine ⟨flat_len Val.cl_len row, a, cap, rfl, ?_⟩
  rcases hx with rfl | ⟨b, off, rfl, hb, hc⟩
  · exact .inl rfl
  · refine .inr ⟨_, rfl, fun j u hu => ?_⟩
    obtain ⟨i, r, hi, hr, rfl, hv⟩ := flat_inv (by omega) Val.cl_len row j u hu
    rw [add_at]
    obtain ⟨h0, h1, h2⟩ := hc i hi
    match r, hr with
    | 0, _ => simp only [Val.cl, List.getElem?_cons_zero, Option.some.injEq] at hv; subst hv; exact h0
    | 1, _ => simp only [Val.cl, List.getElem?_cons_succ, List.getElem?_cons_zero, Option.some.injEq] at hv; subst hv; exact h1
    | 2, _ => simp only [Val.cl, List.getElem?_cons_succ, List.getElem?_cons_zero, Option.some.injEq] at hv; subst hv; exact h2

theorem RowAt.of_own {w : World} {v : Value} {n : Nat} {row : List Val} {blk : Option Nat} (h : SlOwn w 112 3 v n (row.flatMap Val.cl) blk) (hs : row.length ≤ 9223372036854775807) : RowAt w (fun b => blk = some b) v row := by
  have hn : n = row.length := by
    have := h.1
    rw [flat_len Val.cl_len] at this
    omega
  subst hn
  rcases h.2 with ⟨rfl, h0, _⟩ | ⟨g, o, cap, cur, rfl, rfl, _⟩
  · have : row = [] := List.eq_nil_of_length_eq_zero h0
    subst this
    exact ⟨none, 0, rfl, by simp, .inl rfl⟩
  · refine ⟨_, cap, rfl, hs, .inr ⟨g, o, rfl, rfl, fun i hi => ?_⟩⟩
    have key : ∀ r u, r < 3 → row[i].cl[r]? = some u → w.cell? ⟨g, o + (i * 3 + r), none⟩ = some u := fun r u hr hu => h.cell _ u (by rw [flat_at Val.cl_len row i r hi hr]; exact hu)
    exact ⟨key 0 _ (by omega) rfl, key 1 _ (by omega) rfl, key 2 _ (by omega) rfl⟩

/-- A row of its own: in new memory. -/
def GivesRow (w : World) (row : List Val) (e : Ending) (w' : World) : Prop := ∃ r, e = .returned r ∧ RowAt w' (fun b => w.heap.size ≤ b) r row ∧ Below w.heap.size w w'

theorem info112 : (Try.prog.info? 112).map (fun i => (i.zero, i.size, i.bytes)) = some (some (.agg #[.int .i64 0, .int .i64 0, .string ⟨#[]⟩]), 3, 32) := by kernel_rfl

section leaves
set_option maxHeartbeats 400000

set_option maxRecDepth 100000 in
theorem f68_any (w : World) (r : Value) (row : List Val) (D : Nat → Prop) (hr : RowAt w D r row) (hsm : row.length ≤ 1000000) :
    Calls Try.prog 68 #[r] w (GivesRow w row) := by
  have hr' := hr
  obtain ⟨a, cap, rfl, hl, hx⟩ := hr
  cases a with
  | none =>
    have hrow : row = [] := by
      rcases hx with h | ⟨_, _, h, _⟩
      · exact h
      · cases h
    subst hrow
    have hk := fun (w : World) => Lib.run_eql_slice_nil (P := Try.prog) w 30 112 none 0 cap 0 0 Try.underlying30
    clear hr' hx hl hsm
    go_enter Try.func68, Try.ntmps68
    go_wp2
    go_ret
    exact ⟨_, rfl, ⟨none, 0, rfl, by simp, .inl rfl⟩, Below.refl _ _⟩
  | some ad =>
    have hk := fun (w : World) => Lib.run_eql_slice_nil (P := Try.prog) w 30 112 (some ad) row.length cap 0 0 Try.underlying30
    have hsrc := (hr'.below ((Below.refl _ w).alloc (Nat.le_refl _) (.cells #[] 112))).src
    have hown : SlOwn (w.alloc (.cells #[] 112)) 112 3 (.slice (some ⟨w.heap.size, 0, none⟩) 0 0) 0 [] (some w.heap.size) :=
      ⟨by simp, .inr ⟨w.heap.size, 0, 0, #[], rfl, rfl, heap_alloc_new w _, by omega, by simp [maxLen], by simp, by simp⟩⟩
    obtain ⟨i0, hi0, hz0, hz1, hz2⟩ := info_parts info112
    have HS := Lib.hid hsrc
    have HO := Lib.hid hown
    clear hr' hx hsrc hl hown
    go_enter Try.func68, Try.ntmps68
    go_wp2_with (at_builtin; refine wpList_append_S rfl (.tmp 5) (.tmp 6) 30 rfl 112 i0 _ 3 32 Try.underlying30 hi0 hz0 hz1 hz2 rfl (by omega) (.slice (some ⟨w.heap.size, 0, none⟩) 0 0) 0 [] (some w.heap.size) rfl HO.out (.slice (some ad) row.length cap) row.length (row.flatMap Val.cl) rfl HS.out cl_one (by simp only [maxLen]; omega) (by omega) ?_; intro v1 w1 blk1 hown1 hgrow1 hat1)
    have hrow := RowAt.of_own (row := row) hown1 (by omega)
    go_ret
    refine ⟨_, rfl, hrow.mono fun b hb => ?_, ((Below.refl _ w).alloc (Nat.le_refl _) _).grown hgrow1 (by simp) (fun k hk => by cases hk; exact Nat.le_refl _)⟩
    rcases hat1 with h | h <;> rw [h] at hb <;> cases hb <;> simp

/-- An element of its own. -/
def GivesElem (w : World) (x : Elem) (e : Ending) (w' : World) : Prop := ∃ r, e = .returned (ev x r) ∧ RowAt w' (fun b => w.heap.size ≤ b) r x.row ∧ Below w.heap.size w w'

theorem f43_any (w : World) (x : Elem) (r : Value) (D : Nat → Prop) (hr : RowAt w D r x.row) (hsm : x.row.length ≤ 1000000) :
    Calls Try.prog 43 #[ev x r] w (GivesElem w x) := by
  have hR := fun (W : World) (h : Below w.heap.size w W) => f68_any W r x.row D (hr.below h) hsm
  obtain ⟨a, cap, rfl, hl, hx⟩ := hr
  have HR := Lib.hid hR
  clear hx hl hR
  go_enter Try.func43, Try.ntmps43
  go_wp2_with (go_at_call 68; refine (HR.out _ (((Below.refl _ _).alloc (Nat.le_refl _) _).alloc (by simp) _)).mono ?_; rintro e w' ⟨r', rfl, hr1, hb1⟩; have HR1 := Lib.hid hr1; obtain ⟨a', cap', rfl, hl', hx'⟩ := hr1; obtain ⟨c0, c1, c2, c3, c4, cf⟩ := blk5 ((hb1.block w.heap.size (by simp <;> omega)).trans (box2_fst _ _ _)); obtain ⟨d0, d1, d2, d3, d4, df⟩ := blk5 ((hb1.block (w.heap.size + 1) (by simp <;> omega)).trans (box2_snd _ _ _)); clear hx' hl')
  have hbb := below_box2 hb1
  have hfar : ∀ (W : World) (o : Nat) (u : Value), RowAt W (fun b => w.heap.size + 1 < b) (.slice a' x.row.length cap') x.row → RowAt (W.setCell ⟨w.heap.size, o, none⟩ u) (fun b => w.heap.size + 1 < b) (.slice a' x.row.length cap') x.row :=
    fun W o u h => h.keep fun b hb _ => Below.heap_setCell _ _ _ _ (by simp; omega)
  have hfar' : ∀ (W : World) (o : Nat) (u : Value), RowAt W (fun b => w.heap.size + 1 < b) (.slice a' x.row.length cap') x.row → RowAt (W.setCell ⟨w.heap.size + 1, o, none⟩ u) (fun b => w.heap.size + 1 < b) (.slice a' x.row.length cap') x.row :=
    fun W o u h => h.keep fun b hb _ => Below.heap_setCell _ _ _ _ (by simp; omega)
  refine bodyPost_ret (v := ev x (.slice a' x.row.length cap')) (by simp [results, Try.results43, go_sem, d0, d1, d2, d3, d4]) rfl ⟨_, rfl, ?_, ?_⟩
  · have h1 : RowAt w' (fun b => w.heap.size + 1 < b) (.slice a' x.row.length cap') x.row := HR1.out.mono fun b hb => by simp at hb; omega
    exact (hfar' _ _ _ (hfar' _ _ _ (hfar' _ _ _ (hfar' _ _ _ (hfar' _ _ _ (hfar _ _ _ h1)))))).mono fun b hb => by omega
  · exact (((((hbb.setCell (Nat.le_refl _) _).setCell (Nat.le_succ _) _).setCell (Nat.le_succ _) _).setCell (Nat.le_succ _) _).setCell (Nat.le_succ _) _).setCell (Nat.le_succ _) _

end leaves
end Go.Proofs.Ytdnkfgnjeibjeaa

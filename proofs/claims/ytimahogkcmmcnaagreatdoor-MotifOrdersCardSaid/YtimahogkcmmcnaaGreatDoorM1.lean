/-
  Values, rows and schemas: what the small functions of both sides answer, part 1. Conditions: the rows lie in the world as the words say.
-/
import Derived.Test.YtimahogkcmmcnaaGreatDoorProg
import Derived.WalkKit
import Derived.WalkSpells
import Derived.WalkLawsBesides
import Derived.Lib.Hide
import Derived.Deep.RegionHeld3
import Derived.Deep.QuietTactic
import Derived.BigQuiet
import Derived.Deep.DeepCutAuto
import Derived.Lib.QuietBelow
import Derived.Shelf.SlSortCmp.QuietGrown
import Derived.Maps.AppendAt
import Derived.Deep.AppendLies
import Derived.Test.YtimahogkcmmcnaaGreatDoorP1
set_option linter.unusedSimpArgs false
set_option linter.unusedVariables false
namespace Go.Proofs.YtimahogkcmmcnaaGreatDoor
open Go.RowKit Go.Proofs.YtimahogkcmmcnaaGreatDoor.Cmps

theorem ret_bool {a b : Bool} (h : a = b) : Ending.returned (.bool a) = .returned (.bool b) := by rw [h]
theorem ret_int {k : IntKind} {a b : Int} (h : a = b) : Ending.returned (.int k a) = .returned (.int k b) := by rw [h]

def withinB (n lo hi : Int) : Bool := decide (lo ≤ n ∧ n ≤ hi)

theorem bcell {W w1 : World} (hb : Below W.heap.size W w1) : (∀ b o, b < W.heap.size → w1.cell? ⟨b, o, none⟩ = W.cell? ⟨b, o, none⟩) ∧ (∀ b o, b < W.heap.size → w1.frozen? ⟨b, o, none⟩ = W.frozen? ⟨b, o, none⟩) :=
  ⟨fun b o h => hb.cell (p := ⟨b, o, none⟩) h, fun b o h => hb.frozen (p := ⟨b, o, none⟩) h⟩

theorem below_box {w w' : World} {o : Obj} (h : Below (w.alloc o).heap.size (w.alloc o) w') : Below w.heap.size w w' :=
  ((Below.refl _ _).alloc (Nat.le_refl _) _).trans (h.mono (by simp))

theorem below_box2 {w w' : World} {o o' : Obj} (h : Below ((w.alloc o).alloc o').heap.size ((w.alloc o).alloc o') w') : Below w.heap.size w w' := below_box (below_box h)

theorem below_then {w w1 w' : World} (h : Below w.heap.size w w1) (h' : Below w1.heap.size w1 w') : Below w.heap.size w w' := h.trans (h'.mono h.size)

/-- Some draws, some blocks laid behind. -/
def Grew (w w' : World) : Prop := ∃ q os, w' = Sort.grow (w.drewN q) os

theorem Grew.refl (w : World) : Grew w w := ⟨0, #[], by rw [Sort.grow_empty]; rfl⟩
theorem Grew.trans {a b c : World} (h : Grew a b) (k : Grew b c) : Grew a c := by
  obtain ⟨q, os, rfl⟩ := h
  obtain ⟨q', os', rfl⟩ := k
  exact ⟨q + q', os ++ os', by show Sort.grow (Sort.grow ((a.drewN q).drewN q') os) os' = _; rw [Sort.grow_grow, World.drewN_drewN]⟩
theorem Grew.alloc {a b : World} (h : Grew a b) (o : Obj) : Grew a (b.alloc o) := by
  obtain ⟨q, os, rfl⟩ := h
  exact ⟨q, os ++ #[o], by rw [Sort.alloc_eq_grow, Sort.grow_grow]⟩
theorem Grew.drew {a b : World} (h : Grew a b) : Grew a b.drew := h.trans ⟨1, #[], by rw [Sort.grow_empty]; rfl⟩
theorem Grew.box {a b : World} {o : Obj} (h : Grew (a.alloc o) b) : Grew a b := ((Grew.refl a).alloc o).trans h
theorem Grew.below {a b : World} (h : Grew a b) : Below a.heap.size a b := by
  obtain ⟨q, os, rfl⟩ := h
  exact below_regrown a (a.drawn + q) os
theorem Grew.at {w : World} {n : Nat} {os : Array Obj} {w' : World} (h : Grew (Sort.grow (w.drewN n) os) w') : ∃ q os', w' = Sort.grow ((Sort.grow (w.drewN n) os).drewN q) os' := h
theorem Grew.of {w w' : World} (h : ∃ p : GrownBy, w' = Sort.grow (w.drewN p.n) p.os) : Grew w w' := by
  obtain ⟨p, rfl⟩ := h
  exact ⟨_, _, rfl⟩

def validValue (v : Val) : Bool :=
  if v.k == 0 then v.n == 0 && v.s.toList.isEmpty
  else if v.k == 1 then withinB v.n (-1000000000000000) 1000000000000000 && v.s.toList.isEmpty
  else if v.k == 2 then v.n == 0 && decide ((v.s.size : Int) ≤ 200)
  else false

abbrev _root_.Go.Proofs.YtimahogkcmmcnaaGreatDoor.Cmps.Val.v (v : Val) : Value := .agg #[.int .i64 v.k, .int .i64 v.n, .string v.s]

/-- r reads in w as the row; its block is one of D. -/
def RowAt (w : World) (D : Nat → Prop) (r : Value) (row : List Val) : Prop :=
  ∃ a cap, r = .slice a row.length cap ∧ row.length ≤ 9223372036854775807 ∧ (row = [] ∨ ∃ b off, a = some ⟨b, off, none⟩ ∧ D b ∧ ∀ i, (h : i < row.length) →
    w.cell? ⟨b, off + i * 3, none⟩ = some (.int .i64 row[i].k) ∧ w.cell? ⟨b, off + i * 3 + 1, none⟩ = some (.int .i64 row[i].n) ∧ w.cell? ⟨b, off + i * 3 + 2, none⟩ = some (.string row[i].s))

theorem RowAt.mono {w : World} {D D' : Nat → Prop} {r : Value} {row : List Val} (h : RowAt w D r row) (hd : ∀ b, D b → D' b) : RowAt w D' r row := by
  obtain ⟨a, cap, rfl, hl, hx⟩ := h
  refine ⟨a, cap, rfl, hl, ?_⟩
  rcases hx with rfl | ⟨b, off, rfl, hb, hc⟩
  · exact .inl rfl
  · exact .inr ⟨b, off, rfl, hd b hb, hc⟩

theorem RowAt.keep {w w' : World} {D : Nat → Prop} {r : Value} {row : List Val} (h : RowAt w D r row) (hk : ∀ b, D b → b < w.heap.size → w'.heap[b]? = w.heap[b]?) : RowAt w' D r row := by
  obtain ⟨a, cap, rfl, hl, hx⟩ := h
  refine ⟨a, cap, rfl, hl, ?_⟩
  rcases hx with rfl | ⟨b, off, rfl, hb, hc⟩
  · exact .inl rfl
  · refine .inr ⟨b, off, rfl, hb, fun i hi => ?_⟩
    have hlt : b < w.heap.size := World.block_lt_of_cell? w ⟨b, off + i * 3, none⟩ (hc i hi).1
    have hh := hk b hb hlt
    have hcc : ∀ o, w'.cell? ⟨b, o, none⟩ = w.cell? ⟨b, o, none⟩ := fun o => World.cell?_of_block (a := ⟨b, o, none⟩) hh
    rw [hcc, hcc, hcc]
    exact hc i hi

theorem RowAt.below {w w' : World} {D : Nat → Prop} {r : Value} {row : List Val} (h : RowAt w D r row) (hb : Below w.heap.size w w') : RowAt w' D r row :=
  h.keep fun b _ hlt => hb.block b hlt

def badAt (row : List Val) : Int := match row.findIdx? (fun v => !validValue v) with | some i => i | none => -1

theorem badAt_hit {row : List Val} {k : Nat} (hk : k < row.length) (hb : (!validValue row[k]) = true) (h : ∀ j (h : j < row.length), j < k → validValue row[j] = true) : badAt row = k := by
  have : row.findIdx? (fun v => !validValue v) = some k := by
    rw [List.findIdx?_eq_some_iff_getElem]
    exact ⟨hk, hb, fun j hj => by simp [h j (by omega) hj]⟩
  simp [badAt, this]

theorem badAt_none {row : List Val} (h : ∀ j (h : j < row.length), validValue row[j] = true) : badAt row = -1 := by
  have : row.findIdx? (fun v => !validValue v) = none := by
    rw [List.findIdx?_eq_none_iff]
    intro x hx
    obtain ⟨i, hi, rfl⟩ := List.mem_iff_getElem.1 hx
    simp [h i hi]
  simp [badAt, this]

theorem badAt_all (row : List Val) : decide (0 ≤ badAt row) = !row.all validValue := by
  unfold badAt
  cases h : row.findIdx? (fun v => !validValue v) with
  | none =>
    rw [List.findIdx?_eq_none_iff] at h
    have : row.all validValue = true := by rw [List.all_eq_true]; intro x hx; simpa using h x hx
    simp [this]
  | some i =>
    rw [List.findIdx?_eq_some_iff_getElem] at h
    obtain ⟨hi, hb, _⟩ := h
    have : row.all validValue = false := by
      rw [List.all_eq_false]; exact ⟨row[i], List.getElem_mem hi, by simpa using hb⟩
    simp [this]

def validRow (row : List Val) : Bool := decide ((row.length : Int) ≤ 8) && row.all validValue

section leaves
set_option maxHeartbeats 400000

theorem f104_any (n lo hi : Int) (w : World) :
    Calls Tryz.prog 104 #[.int .i64 n, .int .i64 lo, .int .i64 hi] w fun e w' => e = .returned (.bool (withinB n lo hi)) ∧ w = w' := by
  go_enter Tryz.func104, Tryz.ntmps104
  go_wp2
  all_goals go_ret
  all_goals (exact ⟨ret_bool (by simp [withinB, *] <;> omega), rfl⟩)

theorem f115_any (n lo hi : Int) (w : World) :
    Calls Tryz.prog 115 #[.int .i64 n, .int .i64 lo, .int .i64 hi] w fun e w' => e = .returned (.bool (withinB n lo hi)) ∧ w = w' := by
  go_enter Tryz.func115, Tryz.ntmps115
  go_wp2
  all_goals go_ret
  all_goals (exact ⟨ret_bool (by simp [withinB, *] <;> omega), rfl⟩)

theorem f181_any (n lo hi : Int) (w : World) :
    Calls Tryz.prog 181 #[.int .i64 n, .int .i64 lo, .int .i64 hi] w fun e w' => e = .returned (.bool (withinB n lo hi)) ∧ w = w' := by
  go_enter Tryz.func181, Tryz.ntmps181
  go_wp2
  all_goals go_ret
  all_goals (exact ⟨ret_bool (by simp [withinB, *] <;> omega), rfl⟩)

theorem f234_any (n lo hi : Int) (w : World) :
    Calls Tryz.prog 234 #[.int .i64 n, .int .i64 lo, .int .i64 hi] w fun e w' => e = .returned (.bool (withinB n lo hi)) ∧ w = w' := by
  go_enter Tryz.func234, Tryz.ntmps234
  go_wp2
  all_goals go_ret
  all_goals (exact ⟨ret_bool (by simp [withinB, *] <;> omega), rfl⟩)

def validTime (n : Int) : Bool := withinB n (-1000000000000) 1000000000000

theorem f174_any (n : Int) (w : World) :
    Calls Tryz.prog 174 #[.int .i64 n] w fun e w' => e = .returned (.bool (validTime n)) ∧ w = w' := by
  go_enter Tryz.func174, Tryz.ntmps174
  go_wp2_with (go_at_call 234; refine (f234_any _ _ _ _).mono ?_; rintro e w' ⟨rfl, rfl⟩)
  go_ret
  exact ⟨rfl, rfl⟩

theorem f116_any (n : Int) (w : World) :
    Calls Tryz.prog 116 #[.int .i64 n] w fun e w' => e = .returned (.bool (validTime n)) ∧ w = w' := by
  go_enter Tryz.func116, Tryz.ntmps116
  go_wp2_with (go_at_call 181; refine (f181_any _ _ _ _).mono ?_; rintro e w' ⟨rfl, rfl⟩)
  go_ret
  exact ⟨rfl, rfl⟩

theorem f304_any (v : Val) (w : World) :
    Calls Tryz.prog 304 #[v.v] w fun e w' => e = .returned (.bool (validValue v)) ∧ Below w.heap.size w w' := by
  go_enter Tryz.func304, Tryz.ntmps304
  go_wp2_with (go_at_call 104; refine (f104_any _ _ _ _).mono ?_; rintro e w' ⟨rfl, rfl⟩)
  all_goals go_ret
  all_goals (exact ⟨ret_bool (by simp [validValue, *]), (Below.refl _ _).alloc (Nat.le_refl _) _⟩)

theorem f243_any (v : Val) (w : World) :
    Calls Tryz.prog 243 #[v.v] w fun e w' => e = .returned (.bool (validValue v)) ∧ Below w.heap.size w w' := by
  go_enter Tryz.func243, Tryz.ntmps243
  go_wp2_with (go_at_call 115; refine (f115_any _ _ _ _).mono ?_; rintro e w' ⟨rfl, rfl⟩)
  all_goals go_ret
  all_goals (exact ⟨ret_bool (by simp [validValue, *]), (Below.refl _ _).alloc (Nat.le_refl _) _⟩)

theorem f303_any (v : Val) (w : World) :
    Calls Tryz.prog 303 #[v.v] w fun e w' => e = .returned (.bool (!validValue v)) ∧ Below w.heap.size w w' := by
  go_enter Tryz.func303, Tryz.ntmps303
  go_wp2_with (go_at_call 304; refine (f304_any v _).mono ?_; rintro e w' ⟨rfl, hb⟩)
  go_ret
  exact ⟨rfl, ((Below.refl _ _).alloc (Nat.le_refl _) _).trans (hb.mono (by simp))⟩

theorem f359_any (w : World) (r : Value) (row : List Val) (D : Nat → Prop) (hr : RowAt w D r row) :
    Calls Tryz.prog 359 #[r, .func (.func 303) #[] #[]] w fun e w' => e = .returned (.int .i64 (badAt row)) ∧ Below w.heap.size w w' := by
  obtain ⟨a, cap, rfl, hl, hx⟩ := hr
  go_enter Tryz.func359, Tryz.ntmps359
  go_wp2
  go_loopw [8] (fun i wr => ∃ k : Nat, k ≤ row.length ∧ i = .int .i64 k ∧ (∀ j (h : j < row.length), j < k → validValue row[j] = true) ∧ Below w.heap.size w wr) (fun i _ => row.length - (intOf i).toNat)
  case atStart => exact ⟨0, by omega, rfl, by omega, Below.refl _ _⟩
  case round =>
    obtain ⟨k, hk, rfl, hv, hb⟩ := hrel
    by_cases hlt : k < row.length
    · rcases hx with rfl | ⟨b, off, rfl, hbD, hc⟩
      · simp at hlt
      · obtain ⟨h0, h1, h2⟩ := hc k hlt
        have hbb : b < w.heap.size := World.block_lt_of_cell? w ⟨b, off + k * 3, none⟩ h0
        rw [← hb.cell (p := ⟨b, _, none⟩) hbb] at h0 h1 h2
        clear hc
        go_wp2_with (go_at_call 303; refine (f303_any row[k] _).mono ?_; rintro e w' ⟨rfl, hb1⟩)
        · have hbad : (!validValue row[k]) = true := by assumption
          go_ret
          exact ⟨ret_int (badAt_hit hlt hbad hv).symm, hb.trans (hb1.mono hb.size)⟩
        · have hok : (!validValue row[k]) = false := by assumption
          go_roundw
          case rel =>
            refine ⟨k + 1, by omega, by go_num, fun j hj hjk => ?_, hb.trans (hb1.mono hb.size)⟩
            by_cases e : j = k
            · subst e; simpa using hok
            · exact hv j hj (by omega)
          case measure => simp [intOf]; omega
    · go_wp2
      go_ret
      exact ⟨ret_int (badAt_none (fun j hj => hv j hj (by omega))).symm, hb⟩

theorem f302_any (w : World) (r : Value) (row : List Val) (D : Nat → Prop) (hr : RowAt w D r row) :
    Calls Tryz.prog 302 #[r, .func (.func 303) #[] #[]] w fun e w' => e = .returned (.bool (!row.all validValue)) ∧ Below w.heap.size w w' := by
  have e := badAt_all row
  go_enter Tryz.func302, Tryz.ntmps302
  go_wp2_with (go_at_call 359; refine (f359_any _ _ row D hr).mono ?_; rintro e w' ⟨rfl, hb1⟩)
  go_ret
  exact ⟨rfl, hb1⟩

theorem f235_any (w : World) (r : Value) (row : List Val) (D : Nat → Prop) (hr : RowAt w D r row) :
    Calls Tryz.prog 235 #[r] w fun e w' => e = .returned (.bool (validRow row)) ∧ Below w.heap.size w w' := by
  have hc := f302_any w r row D hr
  obtain ⟨a, cap, rfl, hl, hx⟩ := hr
  go_enter Tryz.func235, Tryz.ntmps235
  go_wp2_with (go_at_call 302; refine (hc).mono ?_; rintro e w' ⟨rfl, hb1⟩)
  all_goals go_ret
  · exact ⟨ret_bool (by simp [validRow, *]), hb1⟩
  · exact ⟨ret_bool (by simp [validRow, *] <;> omega), Below.refl _ _⟩

theorem f182_any (w : World) (r : Value) (row : List Val) (D : Nat → Prop) (hr : RowAt w D r row) :
    Calls Tryz.prog 182 #[r] w fun e w' => e = .returned (.bool (validRow row)) ∧ Below w.heap.size w w' := by
  obtain ⟨a, cap, rfl, hl, hx⟩ := hr
  go_enter Tryz.func182, Tryz.ntmps182
  go_wp2
  go_loopw [3] (fun i wr => ∃ k : Nat, k ≤ row.length ∧ i = .int .i64 k ∧ (∀ j (h : j < row.length), j < k → validValue row[j] = true) ∧ Below w.heap.size w wr) (fun i _ => row.length - (intOf i).toNat)
  case atStart => exact ⟨0, by omega, rfl, by omega, Below.refl _ _⟩
  case round =>
    obtain ⟨k, hk, rfl, hv, hb⟩ := hrel
    by_cases hlt : k < row.length
    · rcases hx with rfl | ⟨b, off, rfl, hbD, hc⟩
      · simp at hlt
      · obtain ⟨h0, h1, h2⟩ := hc k hlt
        have hbb : b < w.heap.size := World.block_lt_of_cell? w ⟨b, off + k * 3, none⟩ h0
        rw [← hb.cell (p := ⟨b, _, none⟩) hbb] at h0 h1 h2
        clear hc
        go_wp2_with (go_at_call 243; refine (f243_any row[k] _).mono ?_; rintro e w' ⟨rfl, hb1⟩)
        · have hbad' : (!validValue row[k]) = true := by assumption
          have hbad : validValue row[k] = false := by simpa using hbad'
          go_ret
          refine ⟨ret_bool ?_, hb.trans (hb1.mono hb.size)⟩
          have : row.all validValue = false := by
            rw [List.all_eq_false]; exact ⟨row[k], List.getElem_mem hlt, by simp [hbad]⟩
          simp [validRow, this]
        · have hok' : (!validValue row[k]) = false := by assumption
          have hok : validValue row[k] = true := by simpa using hok'
          go_roundw
          case rel =>
            refine ⟨k + 1, by omega, by go_num, fun j hj hjk => ?_, hb.trans (hb1.mono hb.size)⟩
            by_cases e : j = k
            · subst e; exact hok
            · exact hv j hj (by omega)
          case measure => simp [intOf]; omega
    · go_wp2
      go_ret
      refine ⟨ret_bool ?_, hb⟩
      have : row.all validValue = true := by
        rw [List.all_eq_true]; intro x hx'
        obtain ⟨i, hi, rfl⟩ := List.mem_iff_getElem.1 hx'
        exact hv i hi (by omega)
      simp [validRow, this]
end leaves
end Go.Proofs.YtimahogkcmmcnaaGreatDoor

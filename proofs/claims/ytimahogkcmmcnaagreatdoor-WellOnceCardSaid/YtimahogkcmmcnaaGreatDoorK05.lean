/-
  The well, part 4: what the reference's well tells: how many events, marks, idle, done, owners. Conditions: the well lies in the world as the words say. The well, part 5: what the reference's well tells: how many events are left. Conditions: the well lies in the world as the words say. Slices of one's own and what append does to them; lists of numbers. No conditions. The well, part 6: how the program's well lies in memory, and its small functions. Conditions: the well lies in the world as the words say.
-/
import Derived.Test.YtimahogkcmmcnaaGreatDoorK04
import Derived.Deep.RegionHeld3
import Derived.Deep.QuietTactic
import Derived.BigQuiet
import Derived.Lib.QuietBelow
import Derived.Test.YtimahogkcmmcnaaGreatDoorK03
import Derived.Maps.AppendAt
import Derived.OwnWalk
import Derived.Deep.AppendLies
set_option linter.unusedSimpArgs false
set_option linter.unusedVariables false

namespace Go.Proofs.YtimahogkcmmcnaaGreatDoor
open Go.RowKit Go.Proofs.YtimahogkcmmcnaaGreatDoor.Cmps

def markI (m : WlM) (r : Int) : Int := if 0 ≤ r ∧ r < (m.marks.length : Int) then m.marks.getD r.toNat 0 else -1000000000000

theorem markI_in {m : WlM} {k : Nat} (h : k < m.marks.length) : markI m k = m.marks[k] := by
  have h1 : (0 : Int) ≤ (k : Int) ∧ (k : Int) < (m.marks.length : Int) := by omega
  rw [markI, if_pos h1]
  simp [List.getD, h]
theorem markI_lo {m : WlM} {r : Int} (h : r < 0) : markI m r = -1000000000000 := by rw [markI, if_neg (by omega)]
theorem markI_hi {m : WlM} {r : Int} (h : (m.marks.length : Int) ≤ r) : markI m r = -1000000000000 := by rw [markI, if_neg (by omega)]

def idleB (m : WlM) (r : Int) : Bool := decide (0 ≤ r ∧ r < (m.marks.length : Int)) && !m.sealed && !(m.splits.any fun x => (x.owner : Int) == r)
def doneB (m : WlM) : Bool := m.splits.all SpM.done && m.sealed

/-- The owner of a split, and the error. -/
def ownerI (m : WlM) (n : ByteArray) : Int × Int := if findI m.splits n < 0 then (0, 5) else (((m.splits.getD (findI m.splits n).toNat ⟨n, 0, [], 0, 0, false⟩).owner : Int), 0)

theorem idxI_lt {α : Type} {p : α → Bool} {l : List α} : idxI p l < 0 ∨ ∃ k, k < l.length ∧ idxI p l = (k : Int) := by
  unfold idxI
  cases h : l.findIdx? p with
  | none => left; decide
  | some i =>
    right
    rw [List.findIdx?_eq_some_iff_getElem] at h
    exact ⟨i, h.1, rfl⟩

theorem any_none {α : Type} {p : α → Bool} {l : List α} (h : ∀ j (h : j < l.length), p l[j] = false) : l.any p = false := by
  rw [List.any_eq_false]
  intro x hx
  obtain ⟨j, hj, rfl⟩ := List.mem_iff_getElem.1 hx
  simp [h j hj]
theorem any_hit {α : Type} {p : α → Bool} {l : List α} {k : Nat} (hk : k < l.length) (h : p l[k] = true) : l.any p = true := by
  rw [List.any_eq_true]; exact ⟨l[k], List.getElem_mem hk, h⟩
theorem all_yes {α : Type} {p : α → Bool} {l : List α} (h : ∀ j (h : j < l.length), p l[j] = true) : l.all p = true := by
  rw [List.all_eq_true]
  intro x hx
  obtain ⟨j, hj, rfl⟩ := List.mem_iff_getElem.1 hx
  exact h j hj
theorem all_miss {α : Type} {p : α → Bool} {l : List α} {k : Nat} (hk : k < l.length) (h : p l[k] = false) : l.all p = false := by
  rw [List.all_eq_false]; exact ⟨l[k], List.getElem_mem hk, by simp [h]⟩

section leaves
set_option maxHeartbeats 400000
set_option maxRecDepth 10000

theorem f90_any (w : World) (D : Nat → Prop) (s : List Col) (m : WlM) (p : RS) (h : RefAt w D s m p) (hok : WOk m) :
    Calls Tryz.prog 90 #[refV m p] w fun e w' => e = .returned (.int .i64 (allN m.splits)) ∧ Below w.heap.size w w' := by
  have HB : Hid (∀ o, Below w.heap.size w (w.alloc o)) := fun o => (Below.refl _ _).alloc (Nat.le_refl _) o
  obtain ⟨sch, ⟨sa, sc⟩, ⟨ma, mc⟩, back⟩ := p
  have HS := Lib.hid h.spl
  dsimp only at HS
  have h50 := hok.splits
  have HA := Lib.hid hok.all
  clear h hok
  go_enter Tryz.func90, Tryz.ntmps90
  go_wp2_with fail
  go_loopw [3, 4] (fun z i wr => ∃ (k : Nat), k ≤ m.splits.length ∧ z = .int .i64 (allN (m.splits.take k)) ∧ i = .int .i64 k ∧ w.alloc (.cells #[sch, .int .i64 m.bound, .slice sa m.splits.length sc, .slice ma m.marks.length mc, .bool m.sealed, back] 45) = wr) (fun _ i _ => m.splits.length - (intOf i).toNat)
  case atStart => exact ⟨0, by omega, by rfl, rfl, rfl⟩
  case round =>
    obtain ⟨k, hk, rfl, rfl, rfl⟩ := hrel
    by_cases hlt : k < m.splits.length
    · obtain ⟨b, off, e1, e2, rfl, hbw, -, -, -, x2, -⟩ := (HS.out.below (HB.out (.cells #[sch, .int .i64 m.bound, .slice sa m.splits.length sc, .slice ma m.marks.length mc, .bool m.sealed, back] 45))).at hlt
      have hb1 : allN (m.splits.take k) + m.splits[k].evs.length ≤ 400 := by
        rw [← allN_take hlt]
        exact Nat.le_trans (allN_le _ _) HA.out
      have HT := Lib.hid (allN_take hlt)
      obtain ⟨n1, e1'⟩ : ∃ n, allN (m.splits.take k) = n := ⟨_, rfl⟩
      obtain ⟨n2, e2'⟩ : ∃ n, m.splits[k].evs.length = n := ⟨_, rfl⟩
      rw [e1', e2'] at HT hb1
      rw [e2'] at x2
      rw [e1']
      go_wp2_with fail
      go_roundw
      case rel => exact ⟨k + 1, by omega, by rw [HT.out]; go_num, by go_num, trivial⟩
      case measure => simp [intOf]; omega
    · have hk' : k = m.splits.length := by omega
      subst hk'
      go_wp2_with fail
      go_ret
      exact ⟨ret_int (by rw [List.take_length]), HB.out _⟩

theorem f63_any (w : World) (D : Nat → Prop) (s : List Col) (m : WlM) (p : RS) (r : Int) (h : RefAt w D s m p) (hok : WOk m) :
    Calls Tryz.prog 63 #[refV m p, .int .i64 r] w fun e w' => e = .returned (.int .i64 (markI m r)) ∧ Below w.heap.size w w' := by
  have HB : Hid (∀ o, Below w.heap.size w (w.alloc o)) := fun o => (Below.refl _ _).alloc (Nat.le_refl _) o
  obtain ⟨sch, ⟨sa, sc⟩, ⟨ma, mc⟩, back⟩ := p
  have HS := Lib.hid h.mks
  dsimp only at HS
  have h16 := hok.hi
  clear h hok
  by_cases h1 : r < 0
  · have HE := Lib.hid (markI_lo (m := m) h1)
    go_enter Tryz.func63, Tryz.ntmps63
    go_wp2_with fail
    go_ret
    exact ⟨ret_int HE.out.symm, HB.out _⟩
  · by_cases h2 : (m.marks.length : Int) ≤ r
    · have HE := Lib.hid (markI_hi (m := m) h2)
      go_enter Tryz.func63, Tryz.ntmps63
      go_wp2_with fail
      go_ret
      exact ⟨ret_int HE.out.symm, HB.out _⟩
    · obtain ⟨k, rfl⟩ : ∃ k : Nat, r = k := ⟨r.toNat, by omega⟩
      have hlt : k < m.marks.length := by omega
      have HE := Lib.hid (markI_in hlt)
      obtain ⟨b, off, rfl, hbw, x0⟩ := (HS.out.below (HB.out (.cells #[sch, .int .i64 m.bound, .slice sa m.splits.length sc, .slice ma m.marks.length mc, .bool m.sealed, back] 45))).at hlt
      go_enter Tryz.func63, Tryz.ntmps63
      go_wp2_with fail
      go_ret
      exact ⟨ret_int HE.out.symm, HB.out _⟩

theorem f65_any (w : World) (D : Nat → Prop) (s : List Col) (m : WlM) (p : RS) (r : Int) (h : RefAt w D s m p) (hok : WOk m) :
    Calls Tryz.prog 65 #[refV m p, .int .i64 r] w fun e w' => e = .returned (.bool (idleB m r)) ∧ Below w.heap.size w w' := by
  have HB : Hid (∀ o, Below w.heap.size w (w.alloc o)) := fun o => (Below.refl _ _).alloc (Nat.le_refl _) o
  obtain ⟨sch, ⟨sa, sc⟩, ⟨ma, mc⟩, back⟩ := p
  have HS := Lib.hid h.spl
  dsimp only at HS
  have h50 := hok.splits
  clear h hok
  obtain ⟨sl, hsl⟩ : ∃ b, m.sealed = b := ⟨_, rfl⟩
  by_cases h1 : r < 0
  · have HE : Hid (idleB m r = false) := by show idleB m r = false; rw [idleB, decide_eq_false (by omega)]; rfl
    go_enter Tryz.func65, Tryz.ntmps65
    go_wp2_with fail
    go_ret
    exact ⟨ret_bool HE.out.symm, HB.out _⟩
  · by_cases h2 : (m.marks.length : Int) ≤ r
    · have HE : Hid (idleB m r = false) := by show idleB m r = false; rw [idleB, decide_eq_false (by omega)]; rfl
      go_enter Tryz.func65, Tryz.ntmps65
      go_wp2_with fail
      go_ret
      exact ⟨ret_bool HE.out.symm, HB.out _⟩
    · have HE : Hid (idleB m r = (!sl && !(m.splits.any fun x => (x.owner : Int) == r))) := by
        show idleB m r = _
        rw [idleB, decide_eq_true (by omega), hsl, Bool.true_and]
      dsimp only [refV]
      rw [hsl]
      clear hsl
      cases sl
      · go_enter Tryz.func65, Tryz.ntmps65
        go_wp2_with fail
        go_loopw [5] (fun i wr => ∃ k : Nat, k ≤ m.splits.length ∧ i = .int .i64 k ∧ Hid (∀ j (h : j < m.splits.length), j < k → ((m.splits[j].owner : Int) == r) = false) ∧ w.alloc (.cells #[sch, .int .i64 m.bound, .slice sa m.splits.length sc, .slice ma m.marks.length mc, .bool false, back] 45) = wr) (fun i _ => m.splits.length - (intOf i).toNat)
        case atStart => exact ⟨0, by omega, rfl, Lib.hid (by omega), rfl⟩
        case round =>
          obtain ⟨k, hk, rfl, hv, rfl⟩ := hrel
          by_cases hlt : k < m.splits.length
          · obtain ⟨b, off, e1, e2, rfl, hbw, -, -, x1, -⟩ := (HS.out.below (HB.out (.cells #[sch, .int .i64 m.bound, .slice sa m.splits.length sc, .slice ma m.marks.length mc, .bool false, back] 45))).at hlt
            cases ho : ((m.splits[k].owner : Int) == r)
            · go_wp2_with fail
              go_roundw
              case rel =>
                refine ⟨k + 1, by omega, by go_num, Lib.hid fun j hj hjk => ?_, trivial⟩
                by_cases e : j = k
                · subst e; exact ho
                · exact hv.out j hj (by omega)
              case measure => simp [intOf]; omega
            · go_wp2_with fail
              go_ret
              exact ⟨ret_bool (by rw [HE.out, any_hit hlt ho]; rfl), HB.out _⟩
          · have hn := Lib.hid (any_none (p := fun x : SpM => (x.owner : Int) == r) (l := m.splits) (fun j hj => hv.out j hj (by omega)))
            go_wp2_with fail
            go_ret
            exact ⟨ret_bool (by rw [HE.out, hn.out]; rfl), HB.out _⟩
      · go_enter Tryz.func65, Tryz.ntmps65
        go_wp2_with fail
        go_ret
        exact ⟨ret_bool (by rw [HE.out]; rfl), HB.out _⟩

theorem f71_any (w : World) (D : Nat → Prop) (s : List Col) (m : WlM) (p : RS) (h : RefAt w D s m p) (hok : WOk m) :
    Calls Tryz.prog 71 #[refV m p] w fun e w' => e = .returned (.bool (doneB m)) ∧ Below w.heap.size w w' := by
  have HB : Hid (∀ o, Below w.heap.size w (w.alloc o)) := fun o => (Below.refl _ _).alloc (Nat.le_refl _) o
  obtain ⟨sch, ⟨sa, sc⟩, ⟨ma, mc⟩, back⟩ := p
  have HS := Lib.hid h.spl
  dsimp only at HS
  have h50 := hok.splits
  clear h hok
  have HL : Hid (∀ w1, Below (w.alloc (.cells #[sch, .int .i64 m.bound, .slice sa m.splits.length sc, .slice ma m.marks.length mc, .bool m.sealed, back] 45)).heap.size (w.alloc (.cells #[sch, .int .i64 m.bound, .slice sa m.splits.length sc, .slice ma m.marks.length mc, .bool m.sealed, back] 45)) w1 → w1.cell? ⟨w.heap.size, 2, none⟩ = some (.slice sa m.splits.length sc) ∧ w1.cell? ⟨w.heap.size, 4, none⟩ = some (.bool m.sealed)) :=
    fun w1 h => ⟨by rw [h.cell (p := ⟨w.heap.size, 2, none⟩) (by simp)]; simp, by rw [h.cell (p := ⟨w.heap.size, 4, none⟩) (by simp)]; simp⟩
  go_enter Tryz.func71, Tryz.ntmps71
  go_wp2_with fail
  go_loopw [3] (fun i wr => ∃ k : Nat, k ≤ m.splits.length ∧ i = .int .i64 k ∧ Hid (∀ j (h : j < m.splits.length), j < k → m.splits[j].done = true) ∧ Hid (Below (w.alloc (.cells #[sch, .int .i64 m.bound, .slice sa m.splits.length sc, .slice ma m.marks.length mc, .bool m.sealed, back] 45)).heap.size (w.alloc (.cells #[sch, .int .i64 m.bound, .slice sa m.splits.length sc, .slice ma m.marks.length mc, .bool m.sealed, back] 45)) wr)) (fun i _ => m.splits.length - (intOf i).toNat)
  case atStart => exact ⟨0, by omega, rfl, Lib.hid (by omega), Lib.hid (Below.refl _ _)⟩
  case round =>
    obtain ⟨k, hk, rfl, hv, hbr⟩ := hrel
    obtain ⟨c2, c4⟩ := HL.out wr hbr.out
    have HW := Lib.hid (below_box hbr.out)
    by_cases hlt : k < m.splits.length
    · obtain ⟨b, off, e1, e2, rfl, hbw, -, x0, x1, x2, x3, x4, x5⟩ := (HS.out.below HW.out).at hlt
      have H89 := Lib.hid (f89_any m.splits[k] e1 e2 wr)
      obtain ⟨dn, hdn⟩ : ∃ b, m.splits[k].done = b := ⟨_, rfl⟩
      rw [hdn] at H89
      have HDN := Lib.hid hdn
      clear hdn
      cases dn
      · go_wp2_with (go_at_call 89; with_reducible refine H89.out.mono ?_; rintro e w1 ⟨rfl, hb1⟩; have HB1 := Lib.hid hb1; clear hb1)
        go_ret
        exact ⟨ret_bool (by rw [doneB, all_miss hlt HDN.out]; rfl), below_then HW.out HB1.out⟩
      · go_wp2_with (go_at_call 89; with_reducible refine H89.out.mono ?_; rintro e w1 ⟨rfl, hb1⟩; have HB1 := Lib.hid hb1; clear hb1)
        go_roundw
        case rel =>
          refine ⟨k + 1, by omega, by go_num, Lib.hid fun j hj hjk => ?_, Lib.hid (below_then hbr.out HB1.out)⟩
          by_cases e : j = k
          · subst e; exact HDN.out
          · exact hv.out j hj (by omega)
        case measure => simp [intOf]; omega
    · have hn := Lib.hid (all_yes (p := SpM.done) (l := m.splits) (fun j hj => hv.out j hj (by omega)))
      go_wp2_with fail
      go_ret
      exact ⟨ret_bool (by rw [doneB, hn.out]; rfl), HW.out⟩

theorem f73_any (w : World) (D : Nat → Prop) (s : List Col) (m : WlM) (p : RS) (nm : ByteArray) (h : RefAt w D s m p) (hok : WOk m) :
    Calls Tryz.prog 73 #[refV m p, .string nm] w fun e w' => e = .returned (.tuple #[.int .i64 (ownerI m nm).1, .int .i64 (ownerI m nm).2]) ∧ Below w.heap.size w w' := by
  have HB : Hid (∀ o, Below w.heap.size w (w.alloc o)) := fun o => (Below.refl _ _).alloc (Nat.le_refl _) o
  obtain ⟨sch, ⟨sa, sc⟩, ⟨ma, mc⟩, back⟩ := p
  have HS := Lib.hid h.spl
  dsimp only at HS
  have h50 := hok.splits
  have H88 := Lib.hid (f88_any (w.alloc (.cells #[sch, .int .i64 m.bound, .slice sa m.splits.length sc, .slice ma m.marks.length mc, .bool m.sealed, back] 45)) D s m ⟨sch, (sa, sc), (ma, mc), back⟩ nm (h.below (HB.out _)) hok)
  dsimp only [refV] at H88
  clear h hok
  have HL : Hid (∀ w1, Below (w.alloc (.cells #[sch, .int .i64 m.bound, .slice sa m.splits.length sc, .slice ma m.marks.length mc, .bool m.sealed, back] 45)).heap.size (w.alloc (.cells #[sch, .int .i64 m.bound, .slice sa m.splits.length sc, .slice ma m.marks.length mc, .bool m.sealed, back] 45)) w1 → w1.cell? ⟨w.heap.size, 2, none⟩ = some (.slice sa m.splits.length sc)) :=
    fun w1 h => by rw [h.cell (p := ⟨w.heap.size, 2, none⟩) (by simp)]; simp
  rcases idxI_lt (p := fun x : SpM => eqS x.name nm) (l := m.splits) with hi | ⟨k, hlt, hi⟩
  · have hi' : findI m.splits nm < 0 := hi
    have HE : Hid (ownerI m nm = (0, 5)) := by show ownerI m nm = _; rw [ownerI, if_pos hi']
    rw [HE.out]
    go_enter Tryz.func73, Tryz.ntmps73
    go_wp2_with (go_at_call 88; with_reducible refine H88.out.mono ?_; rintro e w1 ⟨rfl, hb1⟩; have HB1 := Lib.hid (below_box hb1); clear hb1)
    go_ret2
    exact ⟨rfl, HB1.out⟩
  · have hi' : findI m.splits nm = k := hi
    have HE : Hid (ownerI m nm = ((m.splits[k].owner : Int), 0)) := by
      show ownerI m nm = _
      rw [ownerI, hi', if_neg (by omega)]
      simp [List.getD, hlt]
    rw [HE.out]
    rw [hi'] at H88
    clear hi hi'
    go_enter Tryz.func73, Tryz.ntmps73
    go_wp2_with (go_at_call 88; with_reducible refine H88.out.mono ?_; rintro e w1 ⟨rfl, hb1⟩; have c2 := HL.out w1 hb1; have HB1 := Lib.hid (below_box hb1); clear hb1; obtain ⟨b, off, e1, e2, rfl, hbw, -, x0, x1, -⟩ := (HS.out.below HB1.out).at hlt)
    go_ret2
    exact ⟨rfl, HB1.out⟩
end leaves
end Go.Proofs.YtimahogkcmmcnaaGreatDoor

namespace Go.Proofs.YtimahogkcmmcnaaGreatDoor
open Go.RowKit Go.Proofs.YtimahogkcmmcnaaGreatDoor.Cmps

theorem below_of_class {w w' : World} (h : ∃ p : Regrown, w' = Sort.grow (redrawn w p.d) p.os) : Below w.heap.size w w' := by
  obtain ⟨p, rfl⟩ := h
  exact below_regrown _ _ _

def leftI (l : List SpM) (r : Int) : Int := (l.map fun x => if ((x.owner : Int) == r) = true then (x.evs.length : Int) - x.read else 0).sum

theorem leftI_take {l : List SpM} {r : Int} {k : Nat} (h : k < l.length) : leftI (l.take (k + 1)) r = leftI (l.take k) r + (if ((l[k].owner : Int) == r) = true then (l[k].evs.length : Int) - l[k].read else 0) := by
  unfold leftI
  rw [← List.take_append_getElem h]
  simp only [List.map_append, List.sum_append, List.map_cons, List.map_nil, List.sum_cons, List.sum_nil, Int.add_zero]

theorem leftI_bound {l : List SpM} (r : Int) (h : ∀ x ∈ l, x.read ≤ x.evs.length) : 0 ≤ leftI l r ∧ leftI l r ≤ (allN l : Int) := by
  induction l with
  | nil => simp [leftI, allN]
  | cons x l ih =>
    have h1 := h x (List.mem_cons_self ..)
    have h2 := ih fun y hy => h y (List.mem_cons_of_mem _ hy)
    have e1 : leftI (x :: l) r = (if ((x.owner : Int) == r) = true then (x.evs.length : Int) - x.read else 0) + leftI l r := by simp only [leftI, List.map_cons, List.sum_cons]
    have e2 : allN (x :: l) = x.evs.length + allN l := by simp [allN]
    rw [e1, e2]
    split <;> omega

theorem wrapI {n : Int} (h : -9223372036854775808 ≤ n ∧ n ≤ 9223372036854775807) : IntKind.i64.wrap n = n := by
  simp [IntKind.wrap, IntKind.bits, IntKind.signed]
  omega

section leaves
set_option maxHeartbeats 400000
set_option maxRecDepth 10000

theorem f66_any (w : World) (D : Nat → Prop) (s : List Col) (m : WlM) (p : RS) (r : Int) (h : RefAt w D s m p) (hok : WOk m) :
    Calls Tryz.prog 66 #[refV m p, .int .i64 r] w fun e w' => e = .returned (.int .i64 (leftI m.splits r)) ∧ Below w.heap.size w w' := by
  have HB : Hid (∀ o, Below w.heap.size w (w.alloc o)) := fun o => (Below.refl _ _).alloc (Nat.le_refl _) o
  obtain ⟨sch, ⟨sa, sc⟩, ⟨ma, mc⟩, back⟩ := p
  have HS := Lib.hid h.spl
  dsimp only at HS
  have h50 := hok.splits
  have HA := Lib.hid hok.all
  have HR := Lib.hid hok.read
  clear h hok
  have HL : Hid (∀ w1, Below (w.alloc (.cells #[sch, .int .i64 m.bound, .slice sa m.splits.length sc, .slice ma m.marks.length mc, .bool m.sealed, back] 45)).heap.size (w.alloc (.cells #[sch, .int .i64 m.bound, .slice sa m.splits.length sc, .slice ma m.marks.length mc, .bool m.sealed, back] 45)) w1 → w1.cell? ⟨w.heap.size, 2, none⟩ = some (.slice sa m.splits.length sc)) :=
    fun w1 h => by rw [h.cell (p := ⟨w.heap.size, 2, none⟩) (by simp)]; simp
  go_enter Tryz.func66, Tryz.ntmps66
  go_wp2_with fail
  go_loopw [5, 6] (fun z i wr => ∃ (k : Nat), k ≤ m.splits.length ∧ z = .int .i64 (leftI (m.splits.take k) r) ∧ i = .int .i64 k ∧ Hid (Below (w.alloc (.cells #[sch, .int .i64 m.bound, .slice sa m.splits.length sc, .slice ma m.marks.length mc, .bool m.sealed, back] 45)).heap.size (w.alloc (.cells #[sch, .int .i64 m.bound, .slice sa m.splits.length sc, .slice ma m.marks.length mc, .bool m.sealed, back] 45)) wr)) (fun _ i _ => m.splits.length - (intOf i).toNat)
  case atStart => exact ⟨0, by omega, by rfl, rfl, Lib.hid (Below.refl _ _)⟩
  case round =>
    obtain ⟨k, hk, rfl, rfl, hbr⟩ := hrel
    have c2 := HL.out wr hbr.out
    have HW := Lib.hid (below_box hbr.out)
    have hz : w.heap.size < wr.heap.size := by have := hbr.out.size; simp at this; omega
    by_cases hlt : k < m.splits.length
    · obtain ⟨b, off, e1, e2, rfl, hbw, -, -, x1, x2, x3, -⟩ := (HS.out.below HW.out).at hlt
      have hb0 := leftI_bound (l := m.splits.take k) r (fun x hx => HR.out x (List.mem_of_mem_take hx))
      have ha0 := allN_take hlt
      have ha1 := allN_le m.splits (k + 1)
      have ha2 := HA.out
      have hr0 := HR.out _ (List.getElem_mem hlt)
      have HT := Lib.hid (leftI_take (r := r) hlt)
      obtain ⟨n1, q1⟩ : ∃ n, leftI (m.splits.take k) r = n := ⟨_, rfl⟩
      obtain ⟨n2, q2⟩ : ∃ n, m.splits[k].evs.length = n := ⟨_, rfl⟩
      obtain ⟨n3, q3⟩ : ∃ n, m.splits[k].read = n := ⟨_, rfl⟩
      rw [q1] at hb0
      rw [q2] at ha0 hr0 x2
      rw [q3] at hr0 x3
      rw [q1, q2, q3] at HT
      rw [q1]
      have hbb : 0 ≤ n1 ∧ n1 + n2 ≤ 400 ∧ n3 ≤ n2 := by omega
      clear ha0 ha1 ha2 hr0 hb0 q1 q2 q3
      obtain ⟨y1, y2, y3⟩ := hbb
      cases ho : ((m.splits[k].owner : Int) == r)
      · rw [ho] at HT
        go_wp2_with fail
        go_roundw
        case rel => exact ⟨k + 1, by omega, by rw [HT.out]; simp, by go_num, hbr⟩
        case measure => simp [intOf]; omega
      · have HU : Hid (leftI (m.splits.take (k + 1)) r = n1 + ((n2 : Int) - n3)) := by
          have := HT.out
          rw [ho] at this
          show leftI (m.splits.take (k + 1)) r = _
          rw [this]
          rfl
        clear HT
        go_wp2_with fail
        have hcl := fun d os b' o' h => (below_regrown wr d os).cell (p := ⟨b', o', none⟩) h
        refine wp_region_quiet_below (by kernel_rfl) (by kernel_rfl) ?_
        repeat (quiet_step (fail))
        refine wpQuiet_nil ?_
        intro wq hw'
        have HQ := Lib.hid (below_of_class hw')
        clear hw' hcl
        go_wp2_with fail
        go_roundw
        case rel => exact ⟨k + 1, by omega, by rw [HU.out, wrapI (n := (n2 : Int) - n3) (by omega), wrapI (by omega)], by go_num, Lib.hid (hbr.out.trans (HQ.out.mono hbr.out.size))⟩
        case measure => simp [intOf]; omega
    · have hk' : k = m.splits.length := by omega
      subst hk'
      go_wp2_with fail
      go_ret
      exact ⟨ret_int (by rw [List.take_length]), HW.out⟩
end leaves
end Go.Proofs.YtimahogkcmmcnaaGreatDoor

namespace Go.Proofs.YtimahogkcmmcnaaGreatDoor
open Go.RowKit

/-- A slice value whose elements are known, with the block that it may write to. -/
def SlOwn (w : World) (e : TypeId) (size : Nat) (v : Value) (n : Nat) (xs : List Value) (blk : Option Nat) : Prop :=
  xs.length = n * size ∧ ((v = .slice none 0 0 ∧ n = 0 ∧ blk = none) ∨
    ∃ g o cap cur, blk = some g ∧ v = .slice (some ⟨g, o, none⟩) n cap ∧ w.heap[g]? = some (.cells cur e (0, 0)) ∧ n ≤ cap ∧ cap ≤ maxLen ∧ o + cap * size ≤ cur.size ∧ (cur.toList.drop o).take (n * size) = xs)

/-- What is appended: a slice of m elements. -/
def Src (w : World) (size : Nat) (x : Value) (m : Nat) (news : List Value) : Prop :=
  news.length = m * size ∧ ∃ a c, x = .slice a m c ∧ (news = [] ∨ ∃ ad, a = some ad ∧ ∀ j u, news[j]? = some u → w.cell? (ad.add j) = some u)

theorem SlOwn.nil (w : World) (e : TypeId) (size : Nat) : SlOwn w e size (.slice none 0 0) 0 [] none := ⟨by simp, .inl ⟨rfl, rfl, rfl⟩⟩

theorem add_at (g o j : Nat) : (⟨g, o, none⟩ : Addr).add j = ⟨g, o + j, none⟩ := by unfold Addr.add; split <;> simp_all

theorem heap_lt {w : World} {g : Nat} {o : Obj} (h : w.heap[g]? = some o) : g < w.heap.size := by
  rcases Nat.lt_or_ge g w.heap.size with hlt | hge
  · exact hlt
  · rw [Array.getElem?_eq_none hge] at h; cases h

theorem SlOwn.blk_lt {w : World} {e : TypeId} {size : Nat} {v : Value} {n : Nat} {xs : List Value} {g : Nat} (h : SlOwn w e size v n xs (some g)) : g < w.heap.size := by
  rcases h.2 with ⟨_, _, h⟩ | ⟨g', o, cap, cur, hb, _, hg, _⟩
  · cases h
  · injection hb with hb
    subst hb
    exact heap_lt hg

theorem SlOwn.cell {w : World} {e : TypeId} {size : Nat} {g o n cap : Nat} {xs : List Value} {blk : Option Nat} (h : SlOwn w e size (.slice (some ⟨g, o, none⟩) n cap) n xs blk) : ∀ j u, xs[j]? = some u → w.cell? ⟨g, o + j, none⟩ = some u := by
  intro j u hu
  rcases h.2 with ⟨h, _⟩ | ⟨g', o', cap', cur, hb, hv, hg, _, _, _, ht⟩
  · cases h
  · injection hv with ha _ _
    injection ha with ha
    injection ha with ha ho _
    subst ha ho
    rw [cell_of_row w g (o + j) cur e (0, 0) hg]
    rw [← ht, List.getElem?_take] at hu
    split at hu
    · rw [List.getElem?_drop] at hu; simpa using hu
    · cases hu

theorem SlOwn.keep {w w' : World} {e : TypeId} {size : Nat} {v : Value} {n : Nat} {xs : List Value} {blk : Option Nat} (h : SlOwn w e size v n xs blk) (hk : ∀ g, blk = some g → w'.heap[g]? = w.heap[g]?) : SlOwn w' e size v n xs blk := by
  refine ⟨h.1, ?_⟩
  rcases h.2 with h | ⟨g', o, cap, cur, hb, hv, hg, rest⟩
  · exact .inl h
  · exact .inr ⟨g', o, cap, cur, hb, hv, (hk g' hb).trans hg, rest⟩

/-- append, in whatever case. -/
theorem run_append_S {P : Program} (w : World) (t ty e : TypeId) (i : TypeInfo) (z : Value) (size bytes : Nat) (ht : P.underlying t = some (.slice e)) (hi : P.info? e = some i) (hz : i.zero = some z)
    (hsize : i.size = size) (hby : i.bytes = bytes) (hzs : z.cells.size = size) (hsz : 0 < size)
    (v : Value) (n : Nat) (xs : List Value) (blk : Option Nat) (hown : SlOwn w e size v n xs blk)
    (x : Value) (m : Nat) (news : List Value) (hsrc : Src w size x m news) (h1 : ∀ u ∈ news, u.oneCell' = true)
    (h63 : n + m ≤ maxLen) (hbytes : (n + m) * bytes ≤ 140737488355328) :
    ∃ v' w' blk', (Builtin.append_ #[t, t] ty #[v, x]).run P w = .ok v' w' ∧ SlOwn w' e size v' (n + m) (xs ++ news) blk' ∧ w.grownBy w' blk ∧ (blk' = blk ∨ blk' = some w.heap.size) := by
  subst hsize
  subst hby
  obtain ⟨hl, a, c, rfl, hnew⟩ := hsrc
  have hsmall : n + m ≤ 9223372036854775807 := by simp only [maxLen] at h63; omega
  have hlen : (xs ++ news).length = (n + m) * i.size := by rw [List.length_append, hown.1, hl, Nat.add_mul]
  rcases a with _ | ad
  · -- nothing is appended
    have hn : news = [] := by
      rcases hnew with h | ⟨ad, h, _⟩
      · exact h
      · cases h
    subst hn
    have hm : m = 0 := by
      rcases Nat.eq_zero_or_pos m with h | h
      · exact h
      · have : 0 < m * i.size := Nat.mul_pos h hsz
        simp at hl
        omega
    subst hm
    refine ⟨v, w, blk, ?_, by simpa using hown, ⟨rfl, rfl, rfl, Nat.le_refl _, fun _ _ _ => rfl⟩, .inl rfl⟩
    rcases hown.2 with ⟨rfl, rfl, _⟩ | ⟨g, o, cap, cur, _, rfl, _, hnc, _⟩
    · simp [Builtin.append_, run_underlying ht, sizeOf, typeInfo, hi, Builtin.lenOf, Builtin.firstCells]
    · simp [Builtin.append_, run_underlying ht, sizeOf, typeInfo, hi, Builtin.lenOf, Builtin.firstCells, hnc, storeCells]
  have hnews : ∀ j u, news[j]? = some u → w.cell? (ad.add j) = some u := by
    rcases hnew with h | ⟨ad', h, hc⟩
    · subst h; intro j u hu; simp at hu
    · injection h with h; subst h; exact hc
  have grown : ∀ (old : Nat), old < n + m → ∀ (row : Option Nat),
      SlOwn (w.drew.alloc (.cells (xs.toArray ++ news.toArray ++ Builtin.zeroCells z.cells (grownCap w (n + m) old e - (n + m))) e)) e i.size
        (.slice (some ⟨w.heap.size, 0, none⟩) (n + m) (grownCap w (n + m) old e)) (n + m) (xs ++ news) (some w.heap.size) ∧
      w.grownBy (w.drew.alloc (.cells (xs.toArray ++ news.toArray ++ Builtin.zeroCells z.cells (grownCap w (n + m) old e - (n + m))) e)) row := by
    intro old ho row
    have hge := grownCap_ge w (n + m) old e
    have hcm : grownCap w (n + m) old e ≤ maxLen := grownCap_le_maxLen w (n + m) old e h63
    refine ⟨⟨hlen, .inr ⟨w.heap.size, 0, _, _, rfl, rfl, heap_alloc_new w.drew _, hge, hcm, ?_, ?_⟩⟩, ⟨rfl, rfl, rfl, by simp, fun k hk _ => Below.heap_alloc w.drew _ k hk⟩⟩
    · simp only [Array.size_append, List.size_toArray, size_zeroCells, hzs, hown.1, hl, ← Nat.add_mul, Nat.zero_add]
      rw [Nat.le_iff_lt_or_eq]
      right
      congr 1
      omega
    · simp only [Array.toList_append, List.append_assoc, List.drop_zero]
      rw [← List.append_assoc, ← hlen]
      exact List.take_left
  rcases hown.2 with ⟨rfl, rfl, rfl⟩ | ⟨g, o, cap, cur, rfl, rfl, hg, hnc, hcm, hcs, htake⟩
  · have hx : xs = [] := List.eq_nil_of_length_eq_zero (by simpa using hown.1)
    subst hx
    by_cases hm : m = 0
    · subst hm
      have hn : news = [] := List.eq_nil_of_length_eq_zero (by simpa using hl)
      subst hn
      refine ⟨.slice none 0 0, w, none, ?_, SlOwn.nil w e i.size, ⟨rfl, rfl, rfl, Nat.le_refl _, fun _ _ _ => rfl⟩, Or.inl rfl⟩
      simp [Builtin.append_, run_underlying ht, sizeOf, typeInfo, hi, Builtin.lenOf, Builtin.firstCells, loadCells, loadCellsFrom]
    · have hr := run_append_nil (P := P) w t ty e i z ht hi hz ad m c news hl hnews (by omega) (by omega) (by have hb := hbytes; simp only [Nat.zero_add] at hb; omega)
      have hgr := grown 0 (by omega) none
      simp only [Nat.zero_add, List.nil_append, Array.empty_append] at hgr ⊢
      exact ⟨_, _, _, hr, hgr.1, hgr.2, Or.inr rfl⟩
  · by_cases hroom : n + m ≤ cap
    · have hfit : o + n * i.size + 0 + news.length ≤ cur.size := by
        rw [hl]
        have h2 : (n + m) * i.size ≤ cap * i.size := Nat.mul_le_mul_right _ hroom
        rw [Nat.add_mul] at h2
        omega
      have hf := run_firstCells_some (P := P) w i.size m ad m c news hl hnews
      have hst := run_storeCells_at P g (o + n * i.size) e news 0 cur w hg hfit h1
      have hr : (Builtin.append_ #[t, t] ty #[.slice (some ⟨g, o, none⟩) n cap, .slice (some ad) m c]).run P w =
          .ok (.slice (some ⟨g, o, none⟩) (n + m) cap) (w.setRow g (cur.toList.take (o + n * i.size + 0) ++ news ++ cur.toList.drop (o + n * i.size + 0 + news.length)).toArray) := by
        simp only [Nat.add_zero] at hst ⊢
        simp [Builtin.append_, run_underlying ht, sizeOf, typeInfo, hi, Builtin.lenOf, hroom, hf, add_at, hst]
      refine ⟨_, _, some g, hr, ⟨hlen, .inr ⟨g, o, cap, _, rfl, rfl, setRow_heap w g cur _ e _ hg, hroom, hcm, ?_, ?_⟩⟩, ⟨rfl, rfl, rfl, by simp, fun k _ hk => setRow_other w g k _ (fun e => hk (by simp [e]))⟩, Or.inl rfl⟩
      · simp only [List.size_toArray, List.length_append, List.length_take, List.length_drop, Array.length_toList]
        omega
      · have hlx : xs.length = n * i.size := hown.1
        have e1 : cur.toList.take (o + n * i.size + 0) = cur.toList.take o ++ xs := by
          rw [Nat.add_zero, ← htake, List.take_add]
        have hol : (cur.toList.take o).length = o := by rw [List.length_take, Array.length_toList]; omega
        simp only [e1]
        rw [List.append_assoc, List.append_assoc, List.drop_append_of_le_length (by rw [hol]; omega), List.drop_of_length_le (by rw [hol]; omega), List.nil_append, ← List.append_assoc, ← hlen]
        exact List.take_left
    · have holds : ∀ j u, xs[j]? = some u → w.cell? ((⟨g, o, none⟩ : Addr).add j) = some u := by
        intro j u hu
        rw [add_at]
        exact hown.cell j u hu
      have hr := run_append_grow (P := P) w t ty e i z ht hi hz ⟨g, o, none⟩ n cap xs hown.1 holds ad m c news hl hnews (by omega) (by omega) (growslice_fits (by omega) hbytes)
      have hgr := grown cap (by omega) (some g)
      exact ⟨_, _, _, hr, hgr.1, hgr.2, Or.inr rfl⟩

theorem wp_append_S {P : Program} {w : World} {o : Oper} {a : Act} {K : Act → World → Prop} {Q : Exit → Act → World → Prop} (s x : Operand) (t : TypeId)
    (ho : o.op = .call { callee := .builtin .append, args := #[s, x], argTypes := #[t, t] })
    (e : TypeId) (i : TypeInfo) (z : Value) (size bytes : Nat) (ht : P.underlying t = some (.slice e)) (hi : P.info? e = some i) (hz : i.zero = some z)
    (hsize : i.size = size) (hby : i.bytes = bytes) (hzs : z.cells.size = size) (hsz : 0 < size)
    (v : Value) (n : Nat) (xs : List Value) (blk : Option Nat) (hs : a.eval s = v) (hown : SlOwn w e size v n xs blk)
    (xv : Value) (m : Nat) (news : List Value) (hx : a.eval x = xv) (hsrc : Src w size xv m news) (h1 : ∀ u ∈ news, u.oneCell' = true)
    (h63 : n + m ≤ maxLen) (hbytes : (n + m) * bytes ≤ 140737488355328)
    (h : ∀ v' w' blk', SlOwn w' e size v' (n + m) (xs ++ news) blk' → w.grownBy w' blk → (blk' = blk ∨ blk' = some w.heap.size) → K (a.put o.dst v') w') : o.wp P a w K Q := by
  obtain ⟨v', w', blk', hr, h2, h3, h4⟩ := run_append_S (P := P) w t o.type e i z size bytes ht hi hz hsize hby hzs hsz v n xs blk hown xv m news hsrc h1 h63 hbytes
  unfold Oper.wp execOp
  simp only [ho, resolve, invoke, builtin, Sem.run_bind, Sem.run_pure, Result.andThen_ok, List.map_toArray, List.map_cons, List.map_nil, hs, hx, hr]
  exact h v' w' blk' h2 h3 h4

theorem wpList_append_S {P : Program} {w : World} {ops : Array Oper} {rest : List Oper} {o : Oper} {a : Act} {Q : Exit → Act → World → Prop} (hgd : o.guard = none) (s x : Operand) (t : TypeId)
    (ho : o.op = .call { callee := .builtin .append, args := #[s, x], argTypes := #[t, t] })
    (e : TypeId) (i : TypeInfo) (z : Value) (size bytes : Nat) (ht : P.underlying t = some (.slice e)) (hi : P.info? e = some i) (hz : i.zero = some z)
    (hsize : i.size = size) (hby : i.bytes = bytes) (hzs : z.cells.size = size) (hsz : 0 < size)
    (v : Value) (n : Nat) (xs : List Value) (blk : Option Nat) (hs : a.eval s = v) (hown : SlOwn w e size v n xs blk)
    (xv : Value) (m : Nat) (news : List Value) (hx : a.eval x = xv) (hsrc : Src w size xv m news) (h1 : ∀ u ∈ news, u.oneCell' = true)
    (h63 : n + m ≤ maxLen) (hbytes : (n + m) * bytes ≤ 140737488355328)
    (h : ∀ v' w' blk', SlOwn w' e size v' (n + m) (xs ++ news) blk' → w.grownBy w' blk → (blk' = blk ∨ blk' = some w.heap.size) → wpList P ops Q rest (a.put o.dst v') w') : wpList P ops Q (o :: rest) a w :=
  wpList_plain hgd fun _ hK => wp_append_S s x t ho e i z size bytes ht hi hz hsize hby hzs hsz v n xs blk hs hown xv m news hx hsrc h1 h63 hbytes fun v' w' blk' h2 h3 h4 => hK _ _ (h v' w' blk' h2 h3 h4)

theorem SlOwn.form {w : World} {e : TypeId} {size : Nat} {v : Value} {n : Nat} {xs : List Value} {blk : Option Nat} (h : SlOwn w e size v n xs blk) : ∃ a c, v = .slice a n c := by
  rcases h.2 with ⟨rfl, rfl, _⟩ | ⟨g, o, cap, cur, _, rfl, _⟩
  · exact ⟨_, _, rfl⟩
  · exact ⟨_, _, rfl⟩

theorem SlOwn.lt_of {w : World} {e : TypeId} {size : Nat} {v : Value} {n : Nat} {xs : List Value} {blk : Option Nat} (h : SlOwn w e size v n xs blk) {g : Nat} (hg : blk = some g) : g < w.heap.size := by
  subst hg
  exact h.blk_lt

theorem SlOwn.src {w : World} {e : TypeId} {size : Nat} {v : Value} {n : Nat} {xs : List Value} {blk : Option Nat} (h : SlOwn w e size v n xs blk) : Src w size v n xs := by
  refine ⟨h.1, ?_⟩
  rcases h.2 with ⟨rfl, rfl, _⟩ | ⟨g, o, cap, cur, _, rfl, _⟩
  · exact ⟨_, _, rfl, .inl (List.eq_nil_of_length_eq_zero (by simpa using h.1))⟩
  · exact ⟨_, _, rfl, .inr ⟨_, rfl, fun j u hu => by rw [add_at]; exact h.cell j u hu⟩⟩

theorem int_src (w : World) (k : Int) : Src (w.alloc (.cells #[.int .i64 k] 3)) 1 (.slice (some ⟨w.heap.size, 0, none⟩) 1 1) 1 [.int .i64 k] :=
  SlOwn.src (e := 3) (blk := some w.heap.size) ⟨rfl, .inr ⟨_, 0, 1, _, rfl, rfl, World.alloc_heap_new w _, Nat.le_refl _, by simp [maxLen], by simp, rfl⟩⟩

/-- A list of numbers of its own. -/
structure Ints (w w' : World) (v : Value) (l : List Int) (blk : Option Nat) : Prop where
  own : SlOwn w' 3 1 v l.length (l.map (Value.int .i64)) blk
  new : ∀ g, blk = some g → w.heap.size ≤ g
  below : Below w.heap.size w w'

theorem Ints.next {w w' w2 : World} {v : Value} {l : List Int} {blk : Option Nat} (h : Ints w w' v l blk) (hb : Below w'.heap.size w' w2) : Ints w w2 v l blk :=
  ⟨h.own.keep fun g hg => hb.block g (h.own.lt_of hg), h.new, h.below.trans (hb.mono h.below.size)⟩

theorem Ints.start (w : World) : Ints w w (.slice none 0 0) [] none := ⟨SlOwn.nil _ _ _, (fun g hg => by cases hg), Below.refl _ _⟩

theorem Ints.add {w wr w' : World} {v v' : Value} {l : List Int} {k : Int} {blk blk' : Option Nat} {o : Obj} (h : Ints w wr v l blk) (hs : SlOwn w' 3 1 v' (l.length + 1) (l.map (Value.int .i64) ++ [.int .i64 k]) blk') (hg : (wr.alloc o).grownBy w' blk) (hat : blk' = blk ∨ blk' = some (wr.alloc o).heap.size) : Ints w w' v' (l ++ [k]) blk' := by
  have hsz := h.below.size
  refine ⟨by simpa using hs, fun g hgg => ?_, (h.below.alloc hsz o).grown hg (by simp; omega) (fun q hq => h.new q hq)⟩
  rcases hat with e | e
  · exact h.new g (e ▸ hgg)
  · rw [hgg] at e; injection e with e; rw [e]; simp; omega

theorem info3 : (Tryz.prog.info? 3).map (fun i => (i.zero, i.size, i.bytes)) = some (some (.int .i64 0), 1, 8) := by kernel_rfl

end Go.Proofs.YtimahogkcmmcnaaGreatDoor

namespace Go.Proofs.YtimahogkcmmcnaaGreatDoor
open Go.RowKit Go.Proofs.YtimahogkcmmcnaaGreatDoor.Cmps

/-- Where the parts of a well lie. -/
structure WS where
  W : Nat
  sch : Value
  spl : Value
  sb : Option Nat
  mp : Nat
  rd : Value
  rb : Option Nat
  late : Value
  lb : Option Nat
  xb : Nat → Nat
  gb : Nat → Nat
  ev : Nat → Value
  eb : Nat → Option Nat
  mb : Nat → Nat
  ib : Nat → Nat
  ents : Array MapEntry
  clock : Nat

/-- Blocks that are there and of no colour: nobody writes to them. -/
def Calm (w : World) (col : Nat → Nat) (b : Nat) : Prop := b < w.heap.size ∧ col b = 0

/-- The mark that a split's gauge shows. -/
def SpM.mark (x : SpM) : Int := if x.done then 1000000000001 else x.gauge

def ptr (b : Nat) : Value := .pointer (some ⟨b, 0, none⟩)

/-- The cells of events, their rows' values open. -/
def evC : List (Evt × Value) → List Value
  | [] => []
  | p :: l => .int .i64 p.1.t :: p.2 :: evC l

/-- Events that a slice of the well's own holds. -/
def EvsOwn (w : World) (D : Nat → Prop) (v : Value) (l : List Evt) (blk : Option Nat) : Prop :=
  ∃ ps : List (Evt × Value), ps.map Prod.fst = l ∧ SlOwn w 30 2 v l.length (evC ps) blk ∧ ∀ p ∈ ps, RowAt w D p.2 p.1.r

structure WAt (w : World) (col : Nat → Nat) (s : List Col) (ws : WS) (m : WlM) : Prop where
  c0 : ∀ b, col b ≠ 0 → b < w.heap.size
  cW : col ws.W = 1
  cS : ∀ b, ws.sb = some b → col b = 2
  cM : col ws.mp = 3
  cR : ∀ b, ws.rb = some b → col b = 4
  cL : ∀ b, ws.lb = some b → col b = 5
  cX : ∀ k, k < m.splits.length → col (ws.xb k) = 8 * k + 8
  cG : ∀ k, k < m.splits.length → col (ws.gb k) = 8 * k + 9
  cE : ∀ k b, k < m.splits.length → ws.eb k = some b → col b = 8 * k + 10
  cB : ∀ r, r < m.marks.length → col (ws.mb r) = 8 * r + 11
  cI : ∀ r, r < m.marks.length → col (ws.ib r) = 8 * r + 12
  hW : w.heap[ws.W]? = some (.cells #[ws.sch, .int .i64 m.bound, ws.spl, .map (some ws.mp), ws.rd, .bool m.sealed, ws.late] 99 (0, 0))
  hC : SchemaAt w (Calm w col) ws.sch s
  hS : SlOwn w 126 1 ws.spl m.splits.length ((List.range m.splits.length).map fun k => ptr (ws.xb k)) ws.sb
  hR : SlOwn w 104 1 ws.rd m.marks.length ((List.range m.marks.length).map fun r => ptr (ws.mb r)) ws.rb
  hL : EvsOwn w (Calm w col) ws.late m.late ws.lb
  hX : ∀ k (h : k < m.splits.length), w.heap[ws.xb k]? = some (.cells #[.string m.splits[k].name, ws.ev k, .int .i64 m.splits[k].read, ptr (ws.gb k), .bool m.splits[k].sealed, .int .i64 m.splits[k].owner] 129 (0, 0))
  hG : ∀ k (h : k < m.splits.length), w.heap[ws.gb k]? = some (.cells #[.int .i64 m.bound, .int .i64 m.splits[k].mark, .bool m.splits[k].done] 215 (0, 0))
  hE : ∀ k (h : k < m.splits.length), EvsOwn w (Calm w col) (ws.ev k) m.splits[k].evs (ws.eb k)
  hB : ∀ r (h : r < m.marks.length), w.heap[ws.mb r]? = some (.cells #[.slice (some ⟨ws.ib r, 0, none⟩) 1 1, .int .i64 m.marks[r]] 204 (0, 0))
  hI : ∀ r (h : r < m.marks.length), w.heap[ws.ib r]? = some (.cells #[.int .i64 m.marks[r], .bool false, .bool false] 202 (0, 0))
  hM : w.heap[ws.mp]? = some (.map ws.ents ws.clock)
  hN : ws.ents.toList.map (fun e => (e.key, e.val)) = (List.range m.splits.length).map fun k => (Value.string (m.splits.getD k ⟨ByteArray.empty, 0, [], 0, 0, false⟩).name, ptr (ws.xb k))

section keeping
variable {w w' : World} {col : Nat → Nat} {s : List Col} {ws : WS} {m : WlM}

theorem EvsOwn.keep {D : Nat → Prop} {v : Value} {l : List Evt} {blk : Option Nat} (h : EvsOwn w D v l blk) (hk : ∀ b, (D b ∨ blk = some b) → b < w.heap.size → w'.heap[b]? = w.heap[b]?) : EvsOwn w' D v l blk := by
  obtain ⟨ps, e, ho, hr⟩ := h
  exact ⟨ps, e, ho.keep fun g hg => hk g (.inr hg) (ho.lt_of hg), fun p hp => (hr p hp).keep fun b hb hlt => hk b (.inl hb) hlt⟩

theorem EvsOwn.mono {D D' : Nat → Prop} {v : Value} {l : List Evt} {blk : Option Nat} (h : EvsOwn w D v l blk) (hd : ∀ b, D b → D' b) : EvsOwn w D' v l blk := by
  obtain ⟨ps, e, ho, hr⟩ := h
  exact ⟨ps, e, ho, fun p hp => (hr p hp).mono hd⟩

theorem SchemaAt.mono {D D' : Nat → Prop} {v : Value} {l : List Col} (h : SchemaAt w D v l) (hd : ∀ b, D b → D' b) : SchemaAt w D' v l := by
  obtain ⟨a, cap, rfl, hc, hl, hn, hx⟩ := h
  refine ⟨a, cap, rfl, hc, hl, hn, hx.imp id ?_⟩
  rintro ⟨b, off, rfl, hb, hc⟩
  exact ⟨b, off, rfl, hd b hb, hc⟩

/-- What leaves all old blocks as they are leaves a well as it is. -/
theorem WAt.below (h : WAt w col s ws m) (hb : Below w.heap.size w w') : WAt w' col s ws m := by
  have hk : ∀ b, b < w.heap.size → w'.heap[b]? = w.heap[b]? := fun b hlt => hb.block b hlt
  have hm : ∀ b, Calm w col b → Calm w' col b := fun b h => ⟨Nat.lt_of_lt_of_le h.1 hb.size, h.2⟩
  have hh : ∀ {b : Nat} {o : Obj}, w.heap[b]? = some o → w'.heap[b]? = some o := fun h => (hk _ (heap_lt h)).trans h
  exact ⟨fun b hb' => Nat.lt_of_lt_of_le (h.c0 b hb') hb.size, h.cW, h.cS, h.cM, h.cR, h.cL, h.cX, h.cG, h.cE, h.cB, h.cI, hh h.hW,
    (h.hC.keep fun b hD hlt => hk b hlt).mono hm, h.hS.keep fun g hg => hk g (h.hS.lt_of hg), h.hR.keep fun g hg => hk g (h.hR.lt_of hg),
    (h.hL.keep fun b _ hlt => hk b hlt).mono hm, fun k hk' => hh (h.hX k hk'), fun k hk' => hh (h.hG k hk'), fun k hk' => ((h.hE k hk').keep fun b _ hlt => hk b hlt).mono hm,
    fun r hr => hh (h.hB r hr), fun r hr => hh (h.hI r hr), hh h.hM, h.hN⟩

theorem EvsOwn.form {D : Nat → Prop} {v : Value} {l : List Evt} {blk : Option Nat} (h : EvsOwn w D v l blk) : ∃ a c, v = .slice a l.length c := by
  obtain ⟨ps, e, ho, hr⟩ := h
  exact ho.form
end keeping
end Go.Proofs.YtimahogkcmmcnaaGreatDoor


/-
  The well, part 34: the reference lets a reader's mark rise. Conditions: the well lies in the world as the words say, its lists its own. The well, part 35: the reference lets all marks rise; seals. Conditions: the well lies in the world as the words say, its lists its own. The well, part 36: the reference seals. Conditions: the well lies in the world as the words say.
-/
import Derived.Test.YtimahogkcmmcnaaGreatDoorK10
set_option linter.unusedSimpArgs false
set_option linter.unusedVariables false

namespace Go.Proofs.YtimahogkcmmcnaaGreatDoor
open Go.RowKit Go.Proofs.YtimahogkcmmcnaaGreatDoor.Cmps

/-- A row that is owned: one of its cells turns. -/
theorem SlOwn.setJ {w : World} {e : TypeId} {size g o n cap : Nat} {xs : List Value} (h : SlOwn w e size (.slice (some ⟨g, o, none⟩) n cap) n xs (some g)) {j : Nat} (hj : j < n * size) (u : Value) : SlOwn (w.setCell ⟨g, o + j, none⟩ u) e size (.slice (some ⟨g, o, none⟩) n cap) n (xs.set j u) (some g) := by
  obtain ⟨hl, h⟩ := h
  rcases h with ⟨hv, _⟩ | ⟨g', o', cap', cur, hb, hv, hg, hnc, hcm, hcs, htk⟩
  · cases hv
  · injection hb with hb
    injection hv with ha _ hc
    injection ha with ha
    injection ha with h1 h2
    subst hb h2 hc
    refine ⟨by simpa using hl, .inr ⟨g, o, cap, _, rfl, rfl, heap_set hg u, hnc, hcm, by simpa using hcs, ?_⟩⟩
    have hnm : n * size ≤ cap * size := Nat.mul_le_mul_right _ hnc
    rw [Array.toList_setIfInBounds]
    rw [← htk]
    generalize n * size = k at hj hnm ⊢
    generalize cap * size = q at hnm hcs
    refine List.ext_getElem? fun i => ?_
    simp only [List.getElem?_take, List.getElem?_drop, List.getElem?_set]
    by_cases e1 : o + j = o + i
    · have e2 : j = i := by omega
      subst e2
      simp only [if_true, List.length_take, List.length_drop, hj]
      have : o + j < cur.size := by omega
      have h2 : j < min k (cur.toList.length - o) := by simp; omega
      rw [if_pos (by simpa using this), if_pos h2]
    · have e2 : ¬ j = i := fun h => e1 (by rw [h])
      rw [if_neg e1, if_neg e2]

theorem SlOwn.frozen {w : World} {e : TypeId} {size g o n cap : Nat} {xs : List Value} {blk : Option Nat} (h : SlOwn w e size (.slice (some ⟨g, o, none⟩) n cap) n xs blk) (j : Nat) : w.frozen? ⟨g, j, none⟩ = false := by
  rcases h.2 with ⟨hv, _⟩ | ⟨g', o', cap', cur, hb, hv, hg, _⟩
  · cases hv
  · injection hv with ha _ _
    injection ha with ha
    injection ha with h1 h2
    subst h1
    simp [World.frozen?, hg]

theorem RefO.setMark {w w' : World} {D : Nat → Prop} {s : List Col} {m : WlM} {p : RS} {sb mb : Option Nat} (h : RefO w D s m p sb mb) {l : List Int} (hl : l.length = m.marks.length) (hk : ∀ b, b < w.heap.size → mb ≠ some b → w'.heap[b]? = w.heap[b]?)
    (ho : SlOwn w' 3 1 (.slice p.mks.1 m.marks.length p.mks.2) m.marks.length (l.map (Value.int .i64)) mb) : RefO w' D s { m with marks := l } p sb mb :=
  ⟨h.sch.keep fun b hb hlt => hk b hlt (fun e => h.mD b e hb), h.spl.keep fun b hb hlt => hk b hlt (fun e => by rcases hb with hb | hb; exact h.mD b e hb; exact h.ne b hb e), by rw [hl]; exact ho, h.back.keep fun b hb hlt => hk b hlt (fun e => h.mD b e hb), h.sD, h.mD, h.ne⟩

theorem refV_risen (m : WlM) (p : RS) (r : Nat) : refV (risenM m r) p = refV m p := by
  simp only [refV, risenM_splits, risenM_sealed, risenM_bound, risenM_len]

/-- A box of six cells is filled. -/
abbrev fill45 (w : World) (g : Nat) (a b c d e f : Value) : World := (((((w.setCell ⟨g, 0, none⟩ a).setCell ⟨g, 1, none⟩ b).setCell ⟨g, 2, none⟩ c).setCell ⟨g, 3, none⟩ d).setCell ⟨g, 4, none⟩ e).setCell ⟨g, 5, none⟩ f

theorem Only.fill {S : Nat → Prop} {a w : World} (h : Only S a w) {g : Nat} (hg : g < a.heap.size → S g) (x0 x1 x2 x3 x4 x5 : Value) : Only S a (fill45 w g x0 x1 x2 x3 x4 x5) :=
  (((((h.setCell (p := ⟨g, 0, none⟩) hg _).setCell (p := ⟨g, 1, none⟩) hg _).setCell (p := ⟨g, 2, none⟩) hg _).setCell (p := ⟨g, 3, none⟩) hg _).setCell (p := ⟨g, 4, none⟩) hg _).setCell (p := ⟨g, 5, none⟩) hg _

theorem RefO.finish {w w2 : World} {D : Nat → Prop} {s : List Col} {m : WlM} {p : RS} {sb mb : Option Nat} (h : RefO w D s m p sb mb) {l : List Int} (hl : l.length = m.marks.length) (ho : Only (fun b => mb = some b) w w2)
    (hm : SlOwn w2 3 1 (.slice p.mks.1 m.marks.length p.mks.2) m.marks.length (l.map (Value.int .i64)) mb) {g : Nat} (hg : w.heap.size ≤ g) (x0 x1 x2 x3 x4 x5 : Value) :
    RefO (fill45 w2 g x0 x1 x2 x3 x4 x5) D s { m with marks := l } p sb mb ∧ Only (fun b => mb = some b) w (fill45 w2 g x0 x1 x2 x3 x4 x5) := by
  have hof := ho.fill (g := g) (fun h => by omega) x0 x1 x2 x3 x4 x5
  exact ⟨h.setMark hl (fun b hb hn => hof.block b hb hn) (hm.keep fun b hb => fill_ne (by have := h.mks.lt_of hb; omega) _ _ _ _ _ _), hof⟩

section leaves
set_option maxHeartbeats 1000000
set_option maxRecDepth 10000

theorem f133_any (w : World) (D : Nat → Prop) (s : List Col) (m : WlM) (p : RS) (sb mb : Option Nat) (r : Nat) (h : RefO w D s m p sb mb) (hok : WOk m) (hr : r < m.marks.length) :
    Calls Tryz.prog 133 #[refV m p, .int .i64 r] w fun e w' => e = .returned (refV (risenM m r) p) ∧ RefO w' D s (risenM m r) p sb mb ∧ Only (fun b => mb = some b) w w' := by
  rw [refV_risen]
  have H := Lib.hid h
  obtain ⟨sch, ⟨sa, sc⟩, ⟨ma, mc⟩, back⟩ := p
  have h50 := hok.splits
  have h16 := hok.hi
  have HG := Lib.hid hok.gauge
  have HMK := Lib.hid hok.marks
  obtain ⟨sha, shc, rfl⟩ : ∃ a c, sch = .slice a s.length c := by obtain ⟨a, c, e, _⟩ := h.sch; exact ⟨a, c, e⟩
  obtain ⟨ba, bc, rfl⟩ : ∃ a c, back = .slice a m.late.length c := by obtain ⟨a, c, e, _⟩ := h.back; exact ⟨a, c, e⟩
  clear h hok
  obtain ⟨sl, hsl⟩ : ∃ b, m.sealed = b := ⟨_, rfl⟩
  have HSL := Lib.hid hsl
  have hB2 : ((w.alloc (.cells #[.slice sha s.length shc, .int .i64 m.bound, .slice sa m.splits.length sc, .slice ma m.marks.length mc, .bool sl, .slice ba m.late.length bc] 45)).alloc (.cells #[.slice none 0 0, .int .i64 0, .slice none 0 0, .slice none 0 0, .bool false, .slice none 0 0] 45)).heap[w.heap.size]? = some (.cells #[.slice sha s.length shc, .int .i64 m.bound, .slice sa m.splits.length sc, .slice ma m.marks.length mc, .bool sl, .slice ba m.late.length bc] 45 (0, 0)) := alloc_keep (heap_alloc_new w _)
  have hR2 : ((w.alloc (.cells #[.slice sha s.length shc, .int .i64 m.bound, .slice sa m.splits.length sc, .slice ma m.marks.length mc, .bool sl, .slice ba m.late.length bc] 45)).alloc (.cells #[.slice none 0 0, .int .i64 0, .slice none 0 0, .slice none 0 0, .bool false, .slice none 0 0] 45)).heap[w.heap.size + 1]? = some (.cells #[.slice none 0 0, .int .i64 0, .slice none 0 0, .slice none 0 0, .bool false, .slice none 0 0] 45 (0, 0)) := by simpa using heap_alloc_new (w.alloc (.cells #[.slice sha s.length shc, .int .i64 m.bound, .slice sa m.splits.length sc, .slice ma m.marks.length mc, .bool sl, .slice ba m.late.length bc] 45)) (.cells #[.slice none 0 0, .int .i64 0, .slice none 0 0, .slice none 0 0, .bool false, .slice none 0 0] 45)
  have hb2 : Below w.heap.size w ((w.alloc (.cells #[.slice sha s.length shc, .int .i64 m.bound, .slice sa m.splits.length sc, .slice ma m.marks.length mc, .bool sl, .slice ba m.late.length bc] 45)).alloc (.cells #[.slice none 0 0, .int .i64 0, .slice none 0 0, .slice none 0 0, .bool false, .slice none 0 0] 45)) := ((Below.refl _ _).alloc (Nat.le_refl _) _).alloc (by simp) _
  have hz2 : ((w.alloc (.cells #[.slice sha s.length shc, .int .i64 m.bound, .slice sa m.splits.length sc, .slice ma m.marks.length mc, .bool sl, .slice ba m.late.length bc] 45)).alloc (.cells #[.slice none 0 0, .int .i64 0, .slice none 0 0, .slice none 0 0, .bool false, .slice none 0 0] 45)).heap.size = w.heap.size + 2 := by simp
  have HB2 := Lib.hid hB2
  have HR2 := Lib.hid hR2
  have HW2 := Lib.hid hb2
  have HZ2 := Lib.hid hz2
  clear hB2 hR2 hb2 hz2
  show Calls Tryz.prog 133 #[.agg #[.slice sha s.length shc, .int .i64 m.bound, .slice sa m.splits.length sc, .slice ma m.marks.length mc, .bool m.sealed, .slice ba m.late.length bc], .int .i64 r] w _
  rw [hsl]
  clear hsl
  go_enter Tryz.func133, Tryz.ntmps133
  go_wp2_with fail
  go_quiet (fail)
  go_wp2_with fail
  go_loopw [5, 6, 7] (fun t u i wr => ∃ k : Nat, k ≤ m.splits.length ∧ i = .int .i64 k ∧ t = .int .i64 (riseN (m.splits.take k) sl r).1 ∧ u = .bool (riseN (m.splits.take k) sl r).2 ∧ Hid (Below ((w.alloc (.cells #[.slice sha s.length shc, .int .i64 m.bound, .slice sa m.splits.length sc, .slice ma m.marks.length mc, .bool sl, .slice ba m.late.length bc] 45)).alloc (.cells #[.slice none 0 0, .int .i64 0, .slice none 0 0, .slice none 0 0, .bool false, .slice none 0 0] 45)).heap.size ((w.alloc (.cells #[.slice sha s.length shc, .int .i64 m.bound, .slice sa m.splits.length sc, .slice ma m.marks.length mc, .bool sl, .slice ba m.late.length bc] 45)).alloc (.cells #[.slice none 0 0, .int .i64 0, .slice none 0 0, .slice none 0 0, .bool false, .slice none 0 0] 45)) wr)) (fun _ _ i _ => m.splits.length - (intOf i).toNat)
  case atStart => exact ⟨0, by omega, rfl, rfl, rfl, Lib.hid (Drew.belowW ⟨_, rfl⟩)⟩
  case round =>
    obtain ⟨k, hk, rfl, rfl, rfl, hbr⟩ := hrel
    have hwr : Hid (Below w.heap.size w wr) := HW2.out.trans (hbr.out.mono HW2.out.size)
    have hBr := (hbr.out.block _ (heap_lt HB2.out)).trans HB2.out
    have hRr := (hbr.out.block _ (heap_lt HR2.out)).trans HR2.out
    have HBr := Lib.hid hBr
    have HRr := Lib.hid hRr
    obtain ⟨b0, b1, b2, b3, b4, b5, bf⟩ := box45_cells hBr
    clear hBr hRr
    have hR := H.out.below hwr.out
    by_cases hlt : k < m.splits.length
    · obtain ⟨g, o, e1, e2, rfl, hg, -, x0, x1, x2, x3, x4, x5⟩ := hR.spl.spls.at hlt
      have H89 := Lib.hid (f89_any m.splits[k] e1 e2 wr)
      have hb0 := riseN_bound (l := m.splits.take k) (sl := sl) (r := r) (fun x hx => HG.out x (List.mem_of_mem_take hx))
      have HS : Hid (riseN (m.splits.take (k + 1)) sl r = riseStep r ((riseN (m.splits.take k) sl r).1, (riseN (m.splits.take k) sl r).2) m.splits[k]) := riseN_take hlt
      generalize (riseN (m.splits.take k) sl r).1 = T at *
      generalize (riseN (m.splits.take k) sl r).2 = U at *
      obtain ⟨dn, hdn⟩ : ∃ b, m.splits[k].done = b := ⟨_, rfl⟩
      rw [hdn] at H89
      have HDN := Lib.hid hdn
      have hon : (m.splits[k].owner == r) = ((m.splits[k].owner : Int) == (r : Int)) := by rw [Bool.eq_iff_iff]; simp only [beq_iff_eq]; omega
      clear hdn hR
      cases ho : ((m.splits[k].owner : Int) == (r : Int))
      · have HU : Hid (riseN (m.splits.take (k + 1)) sl r = (T, U)) := by
          show _ = _
          rw [HS.out, riseStep, hon, ho]; rfl
        clear hon
        go_wp2_with fail
        go_roundw
        case rel => exact ⟨k + 1, by omega, by go_num, by rw [HU.out], by rw [HU.out], hbr⟩
        case measure => simp [intOf]; omega
      · have HU : Hid (riseN (m.splits.take (k + 1)) sl r = if dn = true then (T, U) else (if m.splits[k].gauge < T then m.splits[k].gauge else T, true)) := by
          show _ = _
          rw [HS.out, riseStep, hon, ho, HDN.out]; cases dn <;> rfl
        clear hon HS
        have HC : Hid (∀ w1, Below wr.heap.size wr w1 → w1.cell? ⟨w.heap.size, 2, none⟩ = some (.slice (some ⟨g, o, none⟩) m.splits.length sc) ∧ w1.cell? ⟨g, o + k * 6 + 4, none⟩ = some (.int .i64 m.splits[k].gauge)) :=
          fun w1 h => ⟨by rw [h.cell (p := ⟨w.heap.size, 2, none⟩) (heap_lt HBr.out)]; exact b2, by rw [h.cell (p := ⟨g, o + k * 6 + 4, none⟩) hg]; exact x4⟩
        cases dn
        · by_cases hgt : m.splits[k].gauge < T
          · go_wp2_with (go_at_call 89; (with_reducible refine H89.out.mono ?_); rintro e w1 ⟨rfl, hb1⟩; obtain ⟨z2, z4⟩ := HC.out w1 hb1; have HB1 := Lib.hid hb1; clear hb1)
            go_roundw
            case rel => exact ⟨k + 1, by omega, by go_num, by rw [HU.out]; simp [hgt], by rw [HU.out]; simp, Lib.hid (below_then hbr.out HB1.out)⟩
            case measure => simp [intOf]; omega
          · go_wp2_with (go_at_call 89; (with_reducible refine H89.out.mono ?_); rintro e w1 ⟨rfl, hb1⟩; obtain ⟨z2, z4⟩ := HC.out w1 hb1; have HB1 := Lib.hid hb1; clear hb1)
            go_roundw
            case rel => exact ⟨k + 1, by omega, by go_num, by rw [HU.out]; simp only [Bool.false_eq_true, if_false]; rw [if_neg (by omega)], by rw [HU.out]; simp, Lib.hid (below_then hbr.out HB1.out)⟩
            case measure => simp [intOf]; omega
        · go_wp2_with (go_at_call 89; (with_reducible refine H89.out.mono ?_); rintro e w1 ⟨rfl, hb1⟩; obtain ⟨z2, z4⟩ := HC.out w1 hb1; have HB1 := Lib.hid hb1; clear hb1)
          go_roundw
          case rel => exact ⟨k + 1, by omega, by go_num, by rw [HU.out]; simp, by rw [HU.out]; simp, Lib.hid (below_then hbr.out HB1.out)⟩
          case measure => simp [intOf]; omega
    · have hkl : k = m.splits.length := by omega
      subst hkl
      rw [List.take_length]
      have HR := Lib.hid hR
      clear hR
      have hb0 := riseN_bound (l := m.splits) (sl := sl) (r := r) HG.out
      have HRM : Hid (risenM m r = if ((riseN m.splits sl r).2 && decide (m.marks[r] < (riseN m.splits sl r).1)) = true then { m with marks := m.marks.set r (riseN m.splits sl r).1 } else m) := by
        show risenM m r = _
        rw [risenM, HSL.out]
        simp [List.getD, hr]
      generalize (riseN m.splits sl r).1 = T at *
      generalize (riseN m.splits sl r).2 = U at *
      obtain ⟨r0, r1, r2, r3, r4, r5, rf⟩ := box45_cells HRr.out
      obtain ⟨g, o, hma⟩ := HR.out.mks.some_of (by omega)
      dsimp only at hma
      subst hma
      have hmb := own_blk HR.out.mks
      have hgw : g < w.heap.size := H.out.mks.lt_of hmb
      have m1 := HR.out.mks.cell r (.int .i64 m.marks[r]) (by simp [hr])
      have mf := HR.out.mks.frozen (o + r)
      have hne : w.heap.size ≠ g := by omega
      have hne1 : w.heap.size + 1 ≠ g := by omega
      have HMB := Lib.hid hmb
      clear hmb
      have HOW : Hid (Only (fun b => mb = some b) w wr) := Only.of_below hwr.out
      cases U
      · go_wp2_with fail
        refine bodyPost_ret (results_cell_row rfl _ _ (w.heap.size + 1) 45 _ (0, 0) _ rfl (box45_fill HRr.out _ _ _ _ _ _) Tryz.underlying45 rfl size45) rfl ?_
        obtain ⟨f1, f2⟩ := H.out.finish rfl HOW.out HR.out.mks (Nat.le_succ w.heap.size) (.slice sha s.length shc) (.int .i64 m.bound) (.slice sa m.splits.length sc) (.slice (some ⟨g, o, none⟩) m.marks.length mc) (.bool sl) (.slice ba m.late.length bc)
        exact ⟨by simp only [refV]; rw [HSL.out], by rw [HRM.out]; exact f1, f2⟩
      · by_cases hgt : m.marks[r] < T
        · have hB2 := (heap_set_ne (w := wr) (g := g) (j := o + r) (.int .i64 T) hne).trans HBr.out
          have hR2 := (heap_set_ne (w := wr) (g := g) (j := o + r) (.int .i64 T) hne1).trans HRr.out
          have HR2' := Lib.hid hR2
          obtain ⟨p0, p1, p2, p3, p4, p5, pf⟩ := box45_cells hB2
          obtain ⟨q0, q1, q2, q3, q4, q5, qf⟩ := box45_cells hR2
          clear hB2 hR2
          go_wp2_with fail
          refine bodyPost_ret (results_cell_row rfl _ _ (w.heap.size + 1) 45 _ (0, 0) _ rfl (box45_fill HR2'.out _ _ _ _ _ _) Tryz.underlying45 rfl size45) rfl ?_
          have hset := HR.out.mks
          dsimp only at hset
          rw [HMB.out] at hset
          have hset2 := hset.setJ (j := r) (by omega) (.int .i64 T)
          rw [← HMB.out] at hset2
          obtain ⟨f1, f2⟩ := H.out.finish (l := m.marks.set r T) (by simp) (HOW.out.setCell (p := ⟨g, o + r, none⟩) (fun _ => HMB.out) (.int .i64 T)) (by rw [List.map_set]; exact hset2) (Nat.le_succ w.heap.size) (.slice sha s.length shc) (.int .i64 m.bound) (.slice sa m.splits.length sc) (.slice (some ⟨g, o, none⟩) m.marks.length mc) (.bool sl) (.slice ba m.late.length bc)
          exact ⟨by simp only [refV]; rw [HSL.out], by rw [HRM.out, if_pos (by simpa using hgt)]; exact f1, f2⟩
        · go_wp2_with fail
          refine bodyPost_ret (results_cell_row rfl _ _ (w.heap.size + 1) 45 _ (0, 0) _ rfl (box45_fill HRr.out _ _ _ _ _ _) Tryz.underlying45 rfl size45) rfl ?_
          obtain ⟨f1, f2⟩ := H.out.finish rfl HOW.out HR.out.mks (Nat.le_succ w.heap.size) (.slice sha s.length shc) (.int .i64 m.bound) (.slice sa m.splits.length sc) (.slice (some ⟨g, o, none⟩) m.marks.length mc) (.bool sl) (.slice ba m.late.length bc)
          exact ⟨by simp only [refV]; rw [HSL.out], by rw [HRM.out, if_neg (by simpa using hgt)]; exact f1, f2⟩
end leaves
end Go.Proofs.YtimahogkcmmcnaaGreatDoor

namespace Go.Proofs.YtimahogkcmmcnaaGreatDoor
open Go.RowKit Go.Proofs.YtimahogkcmmcnaaGreatDoor.Cmps

theorem markedM_fields (m : WlM) (n : Nat) : (markedM m n).splits = m.splits ∧ (markedM m n).sealed = m.sealed ∧ (markedM m n).bound = m.bound ∧ (markedM m n).late = m.late := by
  induction n with
  | zero => exact ⟨rfl, rfl, rfl, rfl⟩
  | succ n ih => rw [markedM_succ, risenM_splits, risenM_sealed, risenM_bound, risenM_late]; exact ih

theorem markedM_eq (m : WlM) (n : Nat) : markedM m n = { m with marks := (markedM m n).marks } := by
  obtain ⟨h1, h2, h3, h4⟩ := markedM_fields m n
  generalize markedM m n = q at *
  obtain ⟨a, b, c, d, e⟩ := q
  simp_all

theorem refV_marked (m : WlM) (p : RS) (n : Nat) : refV (markedM m n) p = refV m p := by
  obtain ⟨h1, h2, h3, h4⟩ := markedM_fields m n
  simp only [refV, h1, h2, h3, markedM_len]

section leaves
set_option maxHeartbeats 1000000
set_option maxRecDepth 10000

theorem f134_any (w : World) (D : Nat → Prop) (s : List Col) (m : WlM) (p : RS) (sb mb : Option Nat) (h : RefO w D s m p sb mb) (hok : WOk m) :
    Calls Tryz.prog 134 #[refV m p] w fun e w' => e = .returned (refV (markedM m m.marks.length) p) ∧ RefO w' D s (markedM m m.marks.length) p sb mb ∧ Only (fun b => mb = some b) w w' := by
  rw [refV_marked]
  have H := Lib.hid h
  have HOK := Lib.hid hok
  obtain ⟨sch, ⟨sa, sc⟩, ⟨ma, mc⟩, back⟩ := p
  have h16 := hok.hi
  obtain ⟨sha, shc, rfl⟩ : ∃ a c, sch = .slice a s.length c := by obtain ⟨a, c, e, _⟩ := h.sch; exact ⟨a, c, e⟩
  obtain ⟨ba, bc, rfl⟩ : ∃ a c, back = .slice a m.late.length c := by obtain ⟨a, c, e, _⟩ := h.back; exact ⟨a, c, e⟩
  clear h hok
  have HB2 : Hid (((w.alloc (.cells #[.slice sha s.length shc, .int .i64 m.bound, .slice sa m.splits.length sc, .slice ma m.marks.length mc, .bool m.sealed, .slice ba m.late.length bc] 45)).alloc (.cells #[.slice none 0 0, .int .i64 0, .slice none 0 0, .slice none 0 0, .bool false, .slice none 0 0] 45)).heap[w.heap.size]? = some (.cells #[.slice sha s.length shc, .int .i64 m.bound, .slice sa m.splits.length sc, .slice ma m.marks.length mc, .bool m.sealed, .slice ba m.late.length bc] 45 (0, 0))) := alloc_keep (heap_alloc_new w _)
  have HR2 : Hid (((w.alloc (.cells #[.slice sha s.length shc, .int .i64 m.bound, .slice sa m.splits.length sc, .slice ma m.marks.length mc, .bool m.sealed, .slice ba m.late.length bc] 45)).alloc (.cells #[.slice none 0 0, .int .i64 0, .slice none 0 0, .slice none 0 0, .bool false, .slice none 0 0] 45)).heap[w.heap.size + 1]? = some (.cells #[.slice none 0 0, .int .i64 0, .slice none 0 0, .slice none 0 0, .bool false, .slice none 0 0] 45 (0, 0))) := by
    have := heap_alloc_new (w.alloc (.cells #[.slice sha s.length shc, .int .i64 m.bound, .slice sa m.splits.length sc, .slice ma m.marks.length mc, .bool m.sealed, .slice ba m.late.length bc] 45)) (.cells #[.slice none 0 0, .int .i64 0, .slice none 0 0, .slice none 0 0, .bool false, .slice none 0 0] 45)
    show _ = _
    simpa using this
  have HW2 : Hid (Below w.heap.size w ((w.alloc (.cells #[.slice sha s.length shc, .int .i64 m.bound, .slice sa m.splits.length sc, .slice ma m.marks.length mc, .bool m.sealed, .slice ba m.late.length bc] 45)).alloc (.cells #[.slice none 0 0, .int .i64 0, .slice none 0 0, .slice none 0 0, .bool false, .slice none 0 0] 45))) := ((Below.refl _ _).alloc (Nat.le_refl _) _).alloc (by simp) _
  have HX2 : Hid (∀ g, mb = some g → g < w.heap.size) := fun g hg => H.out.mks.lt_of hg
  go_enter Tryz.func134, Tryz.ntmps134
  go_wp2_with fail
  go_loopw [3] (fun i wr => ∃ k : Nat, k ≤ m.marks.length ∧ i = .int .i64 k ∧ Hid (SlOwn wr 3 1 (.slice ma m.marks.length mc) m.marks.length ((markedM m k).marks.map (Value.int .i64)) mb) ∧ Hid (Only (fun b => mb = some b) w wr) ∧
    Hid (wr.heap[w.heap.size]? = some (.cells #[.slice sha s.length shc, .int .i64 m.bound, .slice sa m.splits.length sc, .slice ma m.marks.length mc, .bool m.sealed, .slice ba m.late.length bc] 45 (0, 0))) ∧
    Hid (wr.heap[w.heap.size + 1]? = some (.cells #[.slice none 0 0, .int .i64 0, .slice none 0 0, .slice none 0 0, .bool false, .slice none 0 0] 45 (0, 0)))) (fun i _ => m.marks.length - (intOf i).toNat)
  case atStart => exact ⟨0, by omega, rfl, Lib.hid (H.out.mks.keep fun g hg => HW2.out.block g (HX2.out g hg)), Lib.hid (Only.of_below HW2.out), HB2, HR2⟩
  case round =>
    obtain ⟨k, hk, rfl, HM, HO, HB, HR⟩ := hrel
    obtain ⟨b0, b1, b2, b3, b4, b5, bf⟩ := box45_cells HB.out
    have hl := markedM_len m k
    have hro : RefO wr D s (markedM m k) ⟨.slice sha s.length shc, (sa, sc), (ma, mc), .slice ba m.late.length bc⟩ sb mb := by
      rw [markedM_eq]
      exact H.out.setMark hl (fun b hb hn => HO.out.block b hb hn) HM.out
    by_cases hlt : k < m.marks.length
    · have H133 := Lib.hid (f133_any wr D s (markedM m k) _ sb mb k hro (HOK.out.marked k) (by rw [hl]; exact hlt))
      rw [refV_risen, refV_marked] at H133
      simp only [refV] at H133
      clear hl hro
      go_wp2_with (go_at_call 133; (with_reducible refine H133.out.mono ?_); rintro e w3 ⟨rfl, hr3, ho3⟩
                   have hB3 := (ho3.block w.heap.size (heap_lt HB.out) (fun e => by have := HX2.out _ e; omega)).trans HB.out
                   have hR3 := (ho3.block (w.heap.size + 1) (heap_lt HR.out) (fun e => by have := HX2.out _ e; omega)).trans HR.out
                   obtain ⟨z0, z1, z2, z3, z4, z5, zf⟩ := box45_cells hB3
                   have HR3 := Lib.hid hr3; have HO3 := Lib.hid ho3; have HB3 := Lib.hid hB3; have HQ3 := Lib.hid hR3; clear hr3 ho3 hB3 hR3)
      go_roundw
      case rel =>
        have hm3 := HR3.out.mks
        dsimp only at hm3
        rw [risenM_len, markedM_len] at hm3
        refine ⟨k + 1, by omega, by go_num, Lib.hid ?_, Lib.hid ?_, Lib.hid (box45_fill HB3.out _ _ _ _ _ _), Lib.hid ((fill_ne (by omega) _ _ _ _ _ _).trans HQ3.out)⟩
        · rw [markedM_succ]
          exact hm3.keep fun b hb => fill_ne (by have := HX2.out b hb; omega) _ _ _ _ _ _
        · exact (HO.out.trans HO3.out (fun _ _ h => h)).fill (g := w.heap.size) (fun h => by omega) _ _ _ _ _ _
      case measure => simp [intOf]; omega
    · have hkl : k = m.marks.length := by omega
      subst hkl
      obtain ⟨r0, r1, r2, r3, r4, r5, rf⟩ := box45_cells HR.out
      clear hl hro
      go_wp2_with fail
      refine bodyPost_ret (results_cell_row rfl _ _ (w.heap.size + 1) 45 _ (0, 0) _ rfl (box45_fill HR.out _ _ _ _ _ _) Tryz.underlying45 rfl size45) rfl ?_
      obtain ⟨f1, f2⟩ := H.out.finish (markedM_len m m.marks.length) HO.out HM.out (Nat.le_succ w.heap.size) (.slice sha s.length shc) (.int .i64 m.bound) (.slice sa m.splits.length sc) (.slice ma m.marks.length mc) (.bool m.sealed) (.slice ba m.late.length bc)
      rw [← markedM_eq] at f1
      exact ⟨rfl, f1, f2⟩
end leaves
end Go.Proofs.YtimahogkcmmcnaaGreatDoor

namespace Go.Proofs.YtimahogkcmmcnaaGreatDoor
open Go.RowKit Go.Proofs.YtimahogkcmmcnaaGreatDoor.Cmps

/-- What was there, and what is new. -/
def Plus (D : Nat → Prop) (w w' : World) (b : Nat) : Prop := D b ∨ (w.heap.size ≤ b ∧ b < w'.heap.size)

theorem RefO.fillK {w : World} {D : Nat → Prop} {s : List Col} {m : WlM} {p : RS} {sb mb : Option Nat} (h : RefO w D s m p sb mb) {g : Nat} (hD : ¬ D g) (hs : sb ≠ some g) (hm : mb ≠ some g) (x0 x1 x2 x3 x4 x5 : Value) : RefO (fill45 w g x0 x1 x2 x3 x4 x5) D s m p sb mb :=
  h.keep fun b hb _ => fill_ne (by rintro rfl; rcases hb with hb | hb | hb; exact hD hb; exact hs hb; exact hm hb) _ _ _ _ _ _
theorem RefO.setK {w : World} {D : Nat → Prop} {s : List Col} {m : WlM} {p : RS} {sb mb : Option Nat} (h : RefO w D s m p sb mb) {g : Nat} (hD : ¬ D g) (hs : sb ≠ some g) (hm : mb ≠ some g) (j : Nat) (v : Value) : RefO (w.setCell ⟨g, j, none⟩ v) D s m p sb mb :=
  h.keep fun b hb _ => heap_set_ne _ (by rintro rfl; rcases hb with hb | hb | hb; exact hD hb; exact hs hb; exact hm hb)
theorem RefO.plus {w w0 : World} {D D0 : Nat → Prop} {s : List Col} {m : WlM} {p : RS} {sb mb : Option Nat} (h : RefO w D s m p sb mb) (hD : ∀ b, D b → D0 b) (hs : ∀ b, sb = some b → w0.heap.size ≤ b) (hm : ∀ b, mb = some b → w0.heap.size ≤ b) : RefAt w (Plus D0 w0 w) s m p :=
  h.ref.imp fun b hl hb => by
    rcases hb with hb | hb | hb
    · exact .inl (hD b hb)
    · exact .inr ⟨hs b hb, hl⟩
    · exact .inr ⟨hm b hb, hl⟩

theorem ret45_2 {fn : Func} {p u : Tmp} (h : fn.results = #[.cell p 45, .tmp u]) (tmps : Array Value) (w : World) (g : Nat) {a b c d e f : Value} (hg : w.heap[g]? = some (.cells #[a, b, c, d, e, f] 45 (0, 0))) (hp : tmps.getD p undef = .pointer (some ⟨g, 0, none⟩)) :
    (results fn tmps).run Tryz.prog w = .ok (.tuple #[.agg #[a, b, c, d, e, f], tmps.getD u undef]) w := by
  have hl := run_loadVar_row (P := Tryz.prog) w g 45 45 #[a, b, c, d, e, f] (0, 0) _ hg Tryz.underlying45 rfl size45
  have hp' : tmps[p]?.getD undef = .pointer (some ⟨g, 0, none⟩) := by simpa using hp
  simp [results, h, hp', asAddr, hl]

theorem two45 (w : World) (a b c d e f a' b' c' d' e' f' : Value) : ((w.alloc (.cells #[a, b, c, d, e, f] 45)).alloc (.cells #[a', b', c', d', e', f'] 45)).heap[w.heap.size + 1]? = some (.cells #[a', b', c', d', e', f'] 45 (0, 0)) := by
  simpa using heap_alloc_new (w.alloc (.cells #[a, b, c, d, e, f] 45)) (.cells #[a', b', c', d', e', f'] 45)
theorem two45_fst (w : World) (a b c d e f a' b' c' d' e' f' : Value) : ((w.alloc (.cells #[a, b, c, d, e, f] 45)).alloc (.cells #[a', b', c', d', e', f'] 45)).heap[w.heap.size]? = some (.cells #[a, b, c, d, e, f] 45 (0, 0)) := alloc_keep (heap_alloc_new w _)
theorem two45_below (w : World) (a b c d e f a' b' c' d' e' f' : Value) : Below w.heap.size w ((w.alloc (.cells #[a, b, c, d, e, f] 45)).alloc (.cells #[a', b', c', d', e', f'] 45)) := ((Below.refl _ _).alloc (Nat.le_refl _) _).alloc (by simp) _

section leaves
set_option maxHeartbeats 1000000
set_option maxRecDepth 10000

/-- What one of the reference's steps gives: a well and an error. -/
def Steps (w : World) (D : Nat → Prop) (s : List Col) (r : WlM × Int) (e : Ending) (w' : World) : Prop :=
  ∃ p', e = .returned (.tuple #[refV r.1 p', .int .i64 r.2]) ∧ RefAt w' (Plus D w w') s r.1 p' ∧ Below w.heap.size w w'

theorem f56_any (w : World) (D : Nat → Prop) (s : List Col) (m : WlM) (p : RS) (h : RefAt w D s m p) (hok : WOk m) :
    Calls Tryz.prog 56 #[refV m p] w (Steps w D s (sealAllR m)) := by
  have H := Lib.hid h
  have H0 := Lib.hid (h.imp (D' := fun b => D b ∧ b < w.heap.size) fun b hl hb => ⟨hb, hl⟩)
  have HOK := Lib.hid hok
  obtain ⟨sch, ⟨sa, sc⟩, ⟨ma, mc⟩, back⟩ := p
  obtain ⟨sha, shc, rfl⟩ : ∃ a c, sch = .slice a s.length c := by obtain ⟨a, c, e, _⟩ := h.sch; exact ⟨a, c, e⟩
  obtain ⟨ba, bc, rfl⟩ : ∃ a c, back = .slice a m.late.length c := by obtain ⟨a, c, e, _⟩ := h.back; exact ⟨a, c, e⟩
  obtain ⟨sl, hsl⟩ : ∃ b, m.sealed = b := ⟨_, rfl⟩
  have HSL := Lib.hid hsl
  clear h hok
  have HB2 : Hid _ := two45_fst w (.slice sha s.length shc) (.int .i64 m.bound) (.slice sa m.splits.length sc) (.slice ma m.marks.length mc) (.bool sl) (.slice ba m.late.length bc) (.slice none 0 0) (.int .i64 0) (.slice none 0 0) (.slice none 0 0) (.bool false) (.slice none 0 0)
  have HR2 : Hid _ := two45 w (.slice sha s.length shc) (.int .i64 m.bound) (.slice sa m.splits.length sc) (.slice ma m.marks.length mc) (.bool sl) (.slice ba m.late.length bc) (.slice none 0 0) (.int .i64 0) (.slice none 0 0) (.slice none 0 0) (.bool false) (.slice none 0 0)
  have HW2 : Hid _ := two45_below w (.slice sha s.length shc) (.int .i64 m.bound) (.slice sa m.splits.length sc) (.slice ma m.marks.length mc) (.bool sl) (.slice ba m.late.length bc) (.slice none 0 0) (.int .i64 0) (.slice none 0 0) (.slice none 0 0) (.bool false) (.slice none 0 0)
  have HC := Lib.hid (f87_any _ (fun b => D b ∧ b < w.heap.size) s m ⟨.slice sha s.length shc, (sa, sc), (ma, mc), .slice ba m.late.length bc⟩ (H0.out.below HW2.out) HOK.out)
  show Calls Tryz.prog 56 #[.agg #[.slice sha s.length shc, .int .i64 m.bound, .slice sa m.splits.length sc, .slice ma m.marks.length mc, .bool m.sealed, .slice ba m.late.length bc]] w _
  simp only [refV] at HC
  rw [hsl] at HC ⊢
  clear hsl
  cases sl
  · rw [sealAllR, if_neg (by rw [HSL.out]; simp)]
    go_enter Tryz.func56, Tryz.ntmps56
    go_wp2_with (first
      | (go_at_call 87; (with_reducible refine HC.out.mono ?_); rintro e w4 ⟨⟨sch', ⟨sa', sc'⟩, ⟨ma', mc'⟩, back'⟩, sb, mb, rfl, hro, hs, hm, hb⟩
         simp only [refV, HSL.out]
         obtain ⟨sha', shc', rfl⟩ : ∃ a c, sch' = .slice a s.length c := by obtain ⟨a, c, e, _⟩ := hro.sch; exact ⟨a, c, e⟩
         obtain ⟨ba', bc', rfl⟩ : ∃ a c, back' = .slice a m.late.length c := by obtain ⟨a, c, e, _⟩ := hro.back; exact ⟨a, c, e⟩
         have hB4 := (hb.block _ (heap_lt HB2.out)).trans HB2.out
         have hR4 := (hb.block _ (heap_lt HR2.out)).trans HR2.out
         have hz := heap_lt HR2.out
         have hB5 := box45_fill hB4 (.slice sha' s.length shc') (.int .i64 m.bound) (.slice sa' m.splits.length sc') (.slice ma' m.marks.length mc') (.bool false) (.slice ba' m.late.length bc')
         have hB6 := box45_set4 hB5 (.bool true)
         have hro5 := hro.fillK (g := w.heap.size) (fun h => by have := h.1.2; omega) (fun e => by have := hs _ e; omega) (fun e => by have := hm _ e; omega) (.slice sha' s.length shc') (.int .i64 m.bound) (.slice sa' m.splits.length sc') (.slice ma' m.marks.length mc') (.bool false) (.slice ba' m.late.length bc')
         have hro6 := hro5.setK (g := w.heap.size) (fun h => by have := h.1.2; omega) (fun e => by have := hs _ e; omega) (fun e => by have := hm _ e; omega) 4 (.bool true)
         have h134 := f134_any _ _ s { m with sealed := true } ⟨.slice sha' s.length shc', (sa', sc'), (ma', mc'), .slice ba' m.late.length bc'⟩ sb mb ⟨hro6.sch, hro6.spl, hro6.mks, hro6.back, hro6.sD, hro6.mD, hro6.ne⟩ ⟨HOK.out.splits, HOK.out.all, HOK.out.read, HOK.out.owner, HOK.out.lo, HOK.out.hi, HOK.out.bound, HOK.out.gauge, HOK.out.marks, HOK.out.name, HOK.out.time⟩
         have hR6 := (heap_set_ne (w := fill45 w4 w.heap.size (.slice sha' s.length shc') (.int .i64 m.bound) (.slice sa' m.splits.length sc') (.slice ma' m.marks.length mc') (.bool false) (.slice ba' m.late.length bc')) (g := w.heap.size) (j := 4) (.bool true) (by omega : w.heap.size + 1 ≠ w.heap.size)).trans ((fill_ne (by omega : w.heap.size + 1 ≠ w.heap.size) (.slice sha' s.length shc') (.int .i64 m.bound) (.slice sa' m.splits.length sc') (.slice ma' m.marks.length mc') (.bool false) (.slice ba' m.late.length bc')).trans hR4)
         have hb4 : Below w.heap.size w w4 := HW2.out.trans (hb.mono HW2.out.size)
         have hb6 : Below w.heap.size w ((fill45 w4 w.heap.size (.slice sha' s.length shc') (.int .i64 m.bound) (.slice sa' m.splits.length sc') (.slice ma' m.marks.length mc') (.bool false) (.slice ba' m.late.length bc')).setCell ⟨w.heap.size, 4, none⟩ (.bool true)) := (fill_below hb4 (Nat.le_refl _) _ _ _ _ _ _).setCell (p := ⟨w.heap.size, 4, none⟩) (Nat.le_refl _) _
         have HB6w := Lib.hid hb6
         have HR6 := Lib.hid hR6
         have HS := Lib.hid hs
         have HM := Lib.hid hm
         have HZ := Lib.hid hz
         rw [refV_marked] at h134
         simp only [refV] at h134
         have H134 := Lib.hid h134
         obtain ⟨b40, b41, b42, b43, b44, b45, bf4⟩ := box45_cells hB4
         obtain ⟨b50, b51, b52, b53, b54, b55, bf5⟩ := box45_cells hB5
         obtain ⟨b60, b61, b62, b63, b64, b65, bf6⟩ := box45_cells hB6
         clear hro hs hm hb hB4 hR4 hB5 hB6 hro5 hro6 h134 hR6 hb4 hb6 hz)
      | (go_at_call 134; (with_reducible refine H134.out.mono ?_); rintro e w7 ⟨rfl, hro7, ho7⟩
         have hR7 := (ho7.block (w.heap.size + 1) (heap_lt HR6.out) (fun e => by have h1 := HM.out _ e; have := HZ.out; omega)).trans HR6.out
         obtain ⟨r70, r71, r72, r73, r74, r75, rf7⟩ := box45_cells hR7
         have HRO7 := Lib.hid hro7
         have HO7 := Lib.hid ho7
         have HR7 := Lib.hid hR7
         clear hro7 ho7 hR7))
    refine bodyPost_ret (ret45_2 rfl _ _ (w.heap.size + 1) (box45_fill HR7.out _ _ _ _ _ _) rfl) rfl ?_
    have hm0 : ∀ b, mb = some b → w.heap.size ≤ b := fun b hb => by have h1 := HM.out b hb; have h2 := HW2.out.size; omega
    have hs0 : ∀ b, sb = some b → w.heap.size ≤ b := fun b hb => by have h1 := HS.out b hb; have h2 := HW2.out.size; omega
    have hb7 : Below w.heap.size w w7 := HB6w.out.trans (HO7.out.below HB6w.out.size hm0)
    have hbF := fill_below hb7 (Nat.le_succ w.heap.size) (.slice sha' s.length shc') (.int .i64 m.bound) (.slice sa' m.splits.length sc') (.slice ma' m.marks.length mc') (.bool true) (.slice ba' m.late.length bc')
    have hroF := HRO7.out.fillK (g := w.heap.size + 1) (fun h => by have := h.1.2; omega) (fun e => by have := HS.out _ e; have := HZ.out; omega) (fun e => by have := HM.out _ e; have := HZ.out; omega) (.slice sha' s.length shc') (.int .i64 m.bound) (.slice sa' m.splits.length sc') (.slice ma' m.marks.length mc') (.bool true) (.slice ba' m.late.length bc')
    exact ⟨⟨.slice sha' s.length shc', (sa', sc'), (ma', mc'), .slice ba' m.late.length bc'⟩, by rw [sealAllM, refV_marked]; rfl, hroF.plus (fun b hb => hb.1.1) hs0 hm0, hbF⟩
  · rw [sealAllR, if_pos HSL.out]
    go_enter Tryz.func56, Tryz.ntmps56
    go_wp2_with fail
    refine bodyPost_ret (ret45_2 rfl _ _ (w.heap.size + 1) (two45 _ _ _ _ _ _ _ _ _ _ _ _ _) rfl) rfl ?_
    have hb := two45_below w (.slice sha s.length shc) (.int .i64 m.bound) (.slice sa m.splits.length sc) (.slice ma m.marks.length mc) (.bool true) (.slice ba m.late.length bc) (.slice sha s.length shc) (.int .i64 m.bound) (.slice sa m.splits.length sc) (.slice ma m.marks.length mc) (.bool true) (.slice ba m.late.length bc)
    exact ⟨⟨.slice sha s.length shc, (sa, sc), (ma, mc), .slice ba m.late.length bc⟩, by simp only [refV]; rw [HSL.out]; rfl, (H.out.below hb).mono fun b h => .inl h, hb⟩
end leaves
end Go.Proofs.YtimahogkcmmcnaaGreatDoor


/-
  Values and rows compared by the reference, part 11. Conditions: the rows lie in the world as the words say.
-/
import Derived.Test.YtimahogkcmmcnaaGreatDoorMA
set_option linter.unusedSimpArgs false
set_option linter.unusedVariables false
namespace Go.Proofs.YtimahogkcmmcnaaGreatDoor
open Go.RowKit Go.Proofs.YtimahogkcmmcnaaGreatDoor.Cmps

/-- Two values boxed: the world behind, under a name. -/
theorem two_boxes (w : World) (a b : Val) : ∃ w2, w2 = (w.alloc (.cells #[.int .i64 a.k, .int .i64 a.n, .string a.s] 78)).alloc (.cells #[.int .i64 b.k, .int .i64 b.n, .string b.s] 78) ∧
    w.heap.size < w2.heap.size ∧ w.heap.size + 1 < w2.heap.size ∧
    (w2.cell? ⟨w.heap.size, 0, none⟩ = some (.int .i64 a.k) ∧ w2.cell? ⟨w.heap.size, 1, none⟩ = some (.int .i64 a.n) ∧ w2.cell? ⟨w.heap.size, 2, none⟩ = some (.string a.s)) ∧
    (w2.cell? ⟨w.heap.size + 1, 0, none⟩ = some (.int .i64 b.k) ∧ w2.cell? ⟨w.heap.size + 1, 1, none⟩ = some (.int .i64 b.n) ∧ w2.cell? ⟨w.heap.size + 1, 2, none⟩ = some (.string b.s)) ∧ Hid (Grew w w2) := by
  refine ⟨_, rfl, by simp; omega, by simp, ⟨?_, ?_, ?_⟩, ⟨?_, ?_, ?_⟩, ((Grew.refl w).alloc _).alloc _⟩
  · rw [new_cell _ _ _ _ (by simp)]; simp
  · rw [new_cell _ _ _ _ (by simp)]; simp
  · rw [new_cell _ _ _ _ (by simp)]; simp
  · have : w.heap.size + 1 = (w.alloc (.cells #[.int .i64 a.k, .int .i64 a.n, .string a.s] 78)).heap.size := by simp
    rw [this]; simp
  · have : w.heap.size + 1 = (w.alloc (.cells #[.int .i64 a.k, .int .i64 a.n, .string a.s] 78)).heap.size := by simp
    rw [this]; simp
  · have : w.heap.size + 1 = (w.alloc (.cells #[.int .i64 a.k, .int .i64 a.n, .string a.s] 78)).heap.size := by simp
    rw [this]; simp

theorem cmpVal_eq {a b : Val} (h : cls a.k = cls b.k) : cmpVal a b = if cls a.k == 1 then cmpI a.n b.n else if cls a.k == 2 then cmpS a.s b.s else 0 := by
  have : cmpI (cls a.k) (cls b.k) = 0 := by rw [h]; exact cmpI_3.refl _
  rw [cmpVal, orI, this]
  rfl

theorem cmpVal_ne {a b : Val} (h : (cls a.k != cls b.k) = true) : cmpVal a b = if cls a.k < cls b.k then -1 else 1 := by
  have h' : cls a.k ≠ cls b.k := by simpa using h
  have : cmpI (cls a.k) (cls b.k) = if cls a.k < cls b.k then -1 else 1 := by
    unfold cmpI
    split
    · rfl
    · rw [if_pos (by omega)]
  rw [cmpVal, orI, this]
  split <;> rfl

section leaves
set_option maxHeartbeats 1000000
set_option maxRecDepth 10000

theorem f246_grew (v : Val) (w : World) :
    Calls Tryz.prog 246 #[v.v] w fun e w' => e = .returned (.int .i64 (cls v.k)) ∧ Grew w w' := by
  go_enter Tryz.func246, Tryz.ntmps246
  go_wp2
  all_goals go_ret
  all_goals (exact ⟨ret_int (by simp_all [cls]), (Grew.refl _).alloc _⟩)

theorem f188_any (hm : Tryz.prog.follows .mixedOrders = true) (a b : Val) (w : World) :
    Calls Tryz.prog 188 #[a.v, b.v] w fun e w' => e = .returned (.int .i64 (cmpVal a b)) ∧ Grew w w' := by
  have mixed := hm
  obtain ⟨w2, hw2, z1, z2, ⟨c0, c1, c2⟩, ⟨d0, d1, d2⟩, H0⟩ := two_boxes w a b
  have HA : Hid (∀ W, Calls Tryz.prog 246 #[a.v] W fun e w' => e = .returned (.int .i64 (cls a.k)) ∧ Grew W w') := fun W => f246_grew a W
  have HB : Hid (∀ W, Calls Tryz.prog 246 #[b.v] W fun e w' => e = .returned (.int .i64 (cls b.k)) ∧ Grew W w') := fun W => f246_grew b W
  cases hne : (cls a.k != cls b.k)
  · have he : cls a.k = cls b.k := by simpa using hne
    have HE := Lib.hid (cmpVal_eq he)
    have hg := gtr_less a.s.toList b.s.toList
    go_enter Tryz.func188, Tryz.ntmps188
    go_wp2_with fail
    rw [← hw2]
    clear hw2
    have hcl := fun n os b' o' h => grown_cl w2 n os b' o' h
    refine wp_region_quiet_grown mixed (by kernel_rfl) ?_
    repeat (quiet_step (first | with_reducible exact Calls.grown_of (HA.out _) | with_reducible exact Calls.grown_of (HB.out _)))
    refine wpQuiet_nil ?_
    intro w3 hw'
    have hb3 := Grew.of hw'
    clear hw' hcl
    rw [← (grown_cells hb3).1 _ _ z1] at c0 c1 c2
    rw [← (grown_cells hb3).1 _ _ z2] at d0 d1 d2
    replace z1 := Nat.lt_of_lt_of_le z1 hb3.below.size
    replace z2 := Nat.lt_of_lt_of_le z2 hb3.below.size
    have H3 : Hid (Grew w w3) := H0.out.trans hb3
    clear hb3 H0
    rw [← he] at HB hne
    clear he
    rcases cls_vals a.k with e | e | e
    all_goals (rw [e] at HE HA HB hne)
    · go_wp2_with (go_at_call 246; with_reducible refine (HA.out _).mono ?_; rintro e w4 ⟨rfl, hb4⟩; rw [← (grown_cells hb4).1 _ _ z1] at c0 c1 c2; rw [← (grown_cells hb4).1 _ _ z2] at d0 d1 d2; replace z1 := Nat.lt_of_lt_of_le z1 hb4.below.size; replace z2 := Nat.lt_of_lt_of_le z2 hb4.below.size; replace H3 := Lib.hid (H3.out.trans hb4); clear hb4)
      go_ret
      exact ⟨ret_int (by rw [HE.out]; rfl), H3.out⟩
    · go_wp2_with (go_at_call 246; with_reducible refine (HA.out _).mono ?_; rintro e w4 ⟨rfl, hb4⟩; rw [← (grown_cells hb4).1 _ _ z1] at c0 c1 c2; rw [← (grown_cells hb4).1 _ _ z2] at d0 d1 d2; replace z1 := Nat.lt_of_lt_of_le z1 hb4.below.size; replace z2 := Nat.lt_of_lt_of_le z2 hb4.below.size; replace H3 := Lib.hid (H3.out.trans hb4); clear hb4)
      all_goals go_ret
      all_goals (refine ⟨ret_int ?_, H3.out⟩; rw [HE.out]; simp only [cmpI]; simp; (repeat' split) <;> omega)
    · go_wp2_with (go_at_call 246; with_reducible refine (HA.out _).mono ?_; rintro e w4 ⟨rfl, hb4⟩; rw [← (grown_cells hb4).1 _ _ z1] at c0 c1 c2; rw [← (grown_cells hb4).1 _ _ z2] at d0 d1 d2; replace z1 := Nat.lt_of_lt_of_le z1 hb4.below.size; replace z2 := Nat.lt_of_lt_of_le z2 hb4.below.size; replace H3 := Lib.hid (H3.out.trans hb4); clear hb4)
      all_goals go_ret
      all_goals (refine ⟨ret_int ?_, H3.out⟩; rw [HE.out]; simp only [cmpS, lessS]; simp_all)
  · have HNE := Lib.hid hne
    go_enter Tryz.func188, Tryz.ntmps188
    go_wp2_with fail
    rw [← hw2]
    clear hw2
    have hcl := fun n os b' o' h => grown_cl w2 n os b' o' h
    refine wp_region_quiet_grown mixed (by kernel_rfl) ?_
    repeat (quiet_step (first | with_reducible exact Calls.grown_of (HA.out _) | with_reducible exact Calls.grown_of (HB.out _)))
    refine wpQuiet_nil ?_
    intro w3 hw'
    have hb3 := Grew.of hw'
    clear hw' hcl
    rw [← (grown_cells hb3).1 _ _ z1] at c0 c1 c2
    rw [← (grown_cells hb3).1 _ _ z2] at d0 d1 d2
    replace z1 := Nat.lt_of_lt_of_le z1 hb3.below.size
    replace z2 := Nat.lt_of_lt_of_le z2 hb3.below.size
    have H3 : Hid (Grew w w3) := H0.out.trans hb3
    clear hb3 H0
    go_wp2_with fail
    have hcl := fun n os b' o' h => grown_cl w3 n os b' o' h
    refine wp_region_quiet_grown mixed (by kernel_rfl) ?_
    repeat (quiet_step (first | with_reducible exact Calls.grown_of (HA.out _) | with_reducible exact Calls.grown_of (HB.out _)))
    refine wpQuiet_nil ?_
    intro w4 hw'
    have hb3 := Grew.of hw'
    clear hw' hcl
    rw [← (grown_cells hb3).1 _ _ z1] at c0 c1 c2
    rw [← (grown_cells hb3).1 _ _ z2] at d0 d1 d2
    replace z1 := Nat.lt_of_lt_of_le z1 hb3.below.size
    replace z2 := Nat.lt_of_lt_of_le z2 hb3.below.size
    have H4 : Hid (Grew w w4) := H3.out.trans hb3
    clear hb3 H3
    go_wp2_with fail
    all_goals go_ret
    all_goals (exact ⟨ret_int (by rw [cmpVal_ne HNE.out]; split <;> omega), H4.out⟩)
end leaves
end Go.Proofs.YtimahogkcmmcnaaGreatDoor

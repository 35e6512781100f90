/-
  Values, rows and events compared, part 2: what both sides' comparisons answer. Conditions: the rows lie in the world as the words say.
-/
import Derived.Test.YtimahogkcmmcnaaGreatDoorM1
set_option linter.unusedSimpArgs false
set_option linter.unusedVariables false
namespace Go.Proofs.YtimahogkcmmcnaaGreatDoor
open Go.RowKit Go.Proofs.YtimahogkcmmcnaaGreatDoor.Cmps

theorem gtr_less (a b : List UInt8) : (!(Op.bytesLess a b || a == b)) = Op.bytesLess b a := by
  simp only [bytesLess_lt]
  by_cases h1 : a < b
  · have : ¬ b < a := List.lt_asymm h1
    simp [h1, this]
  · by_cases h2 : a = b
    · subst h2; simp [List.lt_irrefl]
    · have h3 : b < a := by
        rw [List.not_lt] at h1
        rcases List.le_iff_lt_or_eq.1 h1 with h | h
        · exact h
        · exact absurd h.symm h2
      simp [h1, h2, h3]

section leaves
set_option maxHeartbeats 400000
set_option maxRecDepth 10000

theorem f177_any (n : Int) (w : World) :
    Calls Tryz.prog 177 #[.int .i64 n] w fun e w' => e = .returned (.bool false) ∧ w = w' := by
  go_enter Tryz.func177, Tryz.ntmps177
  go_wp2
  go_ret
  exact ⟨ret_bool (by simp), rfl⟩

theorem f111_any (a b : Int) (w : World) :
    Calls Tryz.prog 111 #[.int .i64 a, .int .i64 b] w fun e w' => e = .returned (.int .i64 (cmpI a b)) ∧ w = w' := by
  go_enter Tryz.func111, Tryz.ntmps111
  go_wp2_with (go_at_call 177; refine (f177_any _ _).mono ?_; rintro e w' ⟨rfl, rfl⟩)
  all_goals go_ret
  all_goals (exact ⟨ret_int (by unfold cmpI; (repeat' split) <;> omega), rfl⟩)

theorem f306_any (n : ByteArray) (w : World) :
    Calls Tryz.prog 306 #[.string n] w fun e w' => e = .returned (.bool false) ∧ w = w' := by
  go_enter Tryz.func306, Tryz.ntmps306
  go_wp2
  go_ret
  exact ⟨ret_bool (by simp), rfl⟩

theorem f242_any (a b : ByteArray) (w : World) :
    Calls Tryz.prog 242 #[.string a, .string b] w fun e w' => e = .returned (.int .i64 (cmpS a b)) ∧ w = w' := by
  have hg := gtr_less a.toList b.toList
  go_enter Tryz.func242, Tryz.ntmps242
  go_wp2_with (go_at_call 306; refine (f306_any _ _).mono ?_; rintro e w' ⟨rfl, rfl⟩)
  all_goals go_ret
  all_goals (refine ⟨ret_int ?_, rfl⟩; unfold cmpS lessS; simp_all)

theorem f238_any (v : Val) (w : World) :
    Calls Tryz.prog 238 #[v.v] w fun e w' => e = .returned (.int .i64 (cls v.k)) ∧ Grew w w' := by
  go_enter Tryz.func238, Tryz.ntmps238
  go_wp2_with (go_at_call 104; refine (f104_any _ _ _ _).mono ?_; rintro e w' ⟨rfl, rfl⟩)
  all_goals go_ret
  all_goals (refine ⟨ret_int ?_, (Grew.refl _).alloc _⟩; rename_i h; simp only [withinB, decide_eq_true_eq, decide_eq_false_iff_not] at h; unfold cls; simp only [Bool.or_eq_true, beq_iff_eq]; split <;> omega)

theorem f246_any (v : Val) (w : World) :
    Calls Tryz.prog 246 #[v.v] w fun e w' => e = .returned (.int .i64 (cls v.k)) ∧ Below w.heap.size w w' := by
  go_enter Tryz.func246, Tryz.ntmps246
  go_wp2
  all_goals go_ret
  all_goals (exact ⟨ret_int (by simp_all [cls]), (Below.refl _ _).alloc (Nat.le_refl _) _⟩)

theorem f239_any (a b : Val) (w : World) :
    Calls Tryz.prog 239 #[a.v, b.v] w fun e w' => e = .returned (.int .i64 0) ∧ Grew w w' := by
  go_enter Tryz.func239, Tryz.ntmps239
  go_wp2
  go_ret
  exact ⟨rfl, ((Grew.refl _).alloc _).alloc _⟩

theorem f240_any (a b : Val) (w : World) :
    Calls Tryz.prog 240 #[a.v, b.v] w fun e w' => e = .returned (.int .i64 (cmpI a.n b.n)) ∧ Grew w w' := by
  go_enter Tryz.func240, Tryz.ntmps240
  go_wp2_with (go_at_call 111; refine (f111_any _ _ _).mono ?_; rintro e w' ⟨rfl, rfl⟩)
  go_ret
  exact ⟨rfl, ((Grew.refl _).alloc _).alloc _⟩

theorem f241_any (a b : Val) (w : World) :
    Calls Tryz.prog 241 #[a.v, b.v] w fun e w' => e = .returned (.int .i64 (cmpS a.s b.s)) ∧ Grew w w' := by
  go_enter Tryz.func241, Tryz.ntmps241
  go_wp2_with (go_at_call 242; refine (f242_any _ _ _).mono ?_; rintro e w' ⟨rfl, rfl⟩)
  go_ret
  exact ⟨rfl, ((Grew.refl _).alloc _).alloc _⟩

theorem grew_then {w w1 w' : World} (h : Grew w w1) (h' : Grew w1 w') : Grew w w' := h.trans h'

/-- A value's cells at a world that grew. -/
theorem grown_cells {w w1 : World} (h : Grew w w1) : (∀ b o, b < w.heap.size → w1.cell? ⟨b, o, none⟩ = w.cell? ⟨b, o, none⟩) ∧ (∀ b o, b < w.heap.size → w1.frozen? ⟨b, o, none⟩ = w.frozen? ⟨b, o, none⟩) := bcell h.below

theorem grown_cl (w : World) (n : Nat) (os : Array Obj) (b o : Nat) (h : b < w.heap.size) : (Sort.grow (w.drewN n) os).cell? ⟨b, o, none⟩ = w.cell? ⟨b, o, none⟩ := by
  rw [Sort.cell?_grow _ _ _ (by exact h)]; rfl

theorem f179_of (hm : Tryz.prog.follows .mixedOrders = true) (a b : Val) (c r : Int) (g : FuncId) (w : World) (hc : cls a.k = c)
    (hg : (c = 0 ∧ g = 239) ∨ (c = 1 ∧ g = 240) ∨ (c = 2 ∧ g = 241)) (hG : ∀ W, Calls Tryz.prog g #[a.v, b.v] W fun e w' => e = .returned (.int .i64 r) ∧ Grew W w') :
    Calls Tryz.prog 179 #[a.v, b.v] w fun e w' => e = .returned (.int .i64 (orI (cmpI c (cls b.k)) r)) ∧ Grew w w' := by
  have mixed := hm
  have HA : ∀ W, Calls Tryz.prog 238 #[a.v] W fun e w' => e = .returned (.int .i64 c) ∧ Grew W w' := by
    intro W; have := f238_any a W; rw [hc] at this; exact this
  have HA := Lib.hid HA
  have HG := Lib.hid hG
  have hi0 : ∀ W : World, (Instr.index 320 (.agg #[.func (.func 239) #[] #[], .func (.func 240) #[] #[], .func (.func 241) #[] #[]]) (.int .i64 0)).run Tryz.prog W = .ok (.func (.func 239) #[] #[]) W := fun W => by kernel_rfl
  have hi1 : ∀ W : World, (Instr.index 320 (.agg #[.func (.func 239) #[] #[], .func (.func 240) #[] #[], .func (.func 241) #[] #[]]) (.int .i64 1)).run Tryz.prog W = .ok (.func (.func 240) #[] #[]) W := fun W => by kernel_rfl
  have hi2 : ∀ W : World, (Instr.index 320 (.agg #[.func (.func 239) #[] #[], .func (.func 240) #[] #[], .func (.func 241) #[] #[]]) (.int .i64 2)).run Tryz.prog W = .ok (.func (.func 241) #[] #[]) W := fun W => by kernel_rfl
  have H0 := Lib.hid (((Grew.refl w).alloc (.cells #[.int .i64 a.k, .int .i64 a.n, .string a.s] 78)).alloc (.cells #[.int .i64 b.k, .int .i64 b.n, .string b.s] 78))
  clear hG hc
  rcases hg with ⟨rfl, rfl⟩ | ⟨rfl, rfl⟩ | ⟨rfl, rfl⟩
  all_goals (
    go_enter Tryz.func179, Tryz.ntmps179
    go_wp2_with (first
      | (go_at_call 238; with_reducible refine (HA.out _).mono ?_; rintro e w1 ⟨rfl, hb1⟩; obtain ⟨hc1, hf1⟩ := grown_cells hb1; have hz1 := hb1.below.size; have HB1 := Lib.hid hb1; clear hb1)
      | (go_at_call 238; with_reducible refine (f238_any b _).mono ?_; rintro e w2 ⟨rfl, hb2⟩; obtain ⟨hc2, hf2⟩ := grown_cells hb2; have hz2 := hb2.below.size; have HB2 := Lib.hid hb2; clear hb2)
      | (go_at_call 111; refine (f111_any _ _ _).mono ?_; rintro e w' ⟨rfl, rfl⟩))
    · rename_i hne
      go_ret
      exact ⟨ret_int (by rw [orI, if_pos hne]), (H0.out.trans HB1.out).trans HB2.out⟩
    · rename_i hne K hK
      have hs1 : w.heap.size < w2.heap.size := by simp at hz1; omega
      have hs2 : w.heap.size + 1 < w2.heap.size := by simp at hz1; omega
      have hs3 : w.heap.size < w1.heap.size := by simp at hz1; omega
      have hs4 : w.heap.size + 1 < w1.heap.size := by simp at hz1; omega
      have HNE := Lib.hid hne
      clear hne hz1 hz2
      have hcl := fun n os b' o' h => grown_cl w2 n os b' o' h
      refine wp_region_quiet_grown mixed (by kernel_rfl) ?_
      repeat (quiet_step (exact Calls.grown_of (HG.out _)))
      refine wpQuiet_nil ?_
      intro w3 hw'
      have hb3 := Grew.of hw'
      clear hw' hcl
      go_wp2
      go_ret
      exact ⟨ret_int (by rw [orI, if_neg (by rw [HNE.out]; simp)]), ((H0.out.trans HB1.out).trans HB2.out).trans hb3⟩)

theorem f179_any (hm : Tryz.prog.follows .mixedOrders = true) (a b : Val) (w : World) :
    Calls Tryz.prog 179 #[a.v, b.v] w fun e w' => e = .returned (.int .i64 (cmpVal a b)) ∧ Grew w w' := by
  rcases cls_vals a.k with h | h | h
  · have := f179_of hm a b 0 0 239 w h (.inl ⟨rfl, rfl⟩) (fun W => f239_any a b W)
    unfold cmpVal; rw [h]; exact this
  · have := f179_of hm a b 1 (cmpI a.n b.n) 240 w h (.inr (.inl ⟨rfl, rfl⟩)) (fun W => f240_any a b W)
    unfold cmpVal; rw [h]; exact this
  · have := f179_of hm a b 2 (cmpS a.s b.s) 241 w h (.inr (.inr ⟨rfl, rfl⟩)) (fun W => f241_any a b W)
    unfold cmpVal; rw [h]; exact this
end leaves
end Go.Proofs.YtimahogkcmmcnaaGreatDoor

/-
  Names: what both sides' Name answers, part 5. No conditions.
-/
import Derived.Test.YtimahogkcmmcnaaGreatDoorM1
import Derived.Test.YtimahogkcmmcnaaGreatDoorP2
set_option linter.unusedSimpArgs false
set_option linter.unusedVariables false
namespace Go.Proofs.YtimahogkcmmcnaaGreatDoor
open Go.RowKit Go.Proofs.YtimahogkcmmcnaaGreatDoor.Cmps

theorem byte_at (s : ByteArray) (k : Nat) (h : k < s.size) : s.data[k]! = s[k]'h := getElem!_pos s.data k h

theorem byte_wrap (c : UInt8) : wrap64 (c.toNat : Int) = (c.toNat : Int) := by
  have := c.toNat_lt
  unfold wrap64
  omega

/-- The byte at a place of a string, under a name. -/
theorem byte_law (s : ByteArray) (k : Nat) (h : k < s.size) : ∃ c : Int, c = ((s.data[k]!).toNat : Int) ∧ wrap64 c = c ∧ ∀ W : World, (Instr.index 9 (.string s) (.int .i64 k)).run Tryz.prog W = .ok (.int .u8 c) W := by
  refine ⟨_, rfl, byte_wrap _, fun W => ?_⟩
  have u9 := Tryz.underlying9
  rw [byte_at s k h]
  go_simp

/-- A round of Name's loop passed. -/
theorem name_go {s : ByteArray} {k : Nat} {c : Int} (hk : k < s.size) (hc : c = ((s.data[k]!).toNat : Int)) (hv : ∀ j, j < k → okByte j (s.data[j]!) = true) (h : okI k c = true) : ∀ j, j < k + 1 → okByte j (s.data[j]!) = true := by
  intro j hj
  by_cases e : j = k
  · subst e; unfold okByte; rw [← hc]; exact h
  · exact hv j (by omega)

theorem name_bad {s : ByteArray} {k : Nat} {c : Int} (hk : k < s.size) (hc : c = ((s.data[k]!).toNat : Int)) (h : okI k c = false) : nameB s = false :=
  nameB_miss hk (by unfold okByte; rw [← hc]; exact h)

section leaves
set_option maxHeartbeats 400000
set_option maxRecDepth 10000

theorem f103_any (s : ByteArray) (hs : s.size ≤ 9223372036854775807) (w : World) :
    Calls Tryz.prog 103 #[.string s] w fun e w' => e = .returned (.bool (nameB s)) ∧ w = w' := by
  go_enter Tryz.func103, Tryz.ntmps103
  go_wp2
  go_loopw [7] (fun i wr => ∃ k : Nat, k ≤ s.size ∧ i = .int .i64 k ∧ Hid (∀ j, j < k → okByte j (s.data[j]!) = true) ∧ w = wr) (fun i _ => s.size - (intOf i).toNat)
  case atStart => exact ⟨0, by omega, rfl, Lib.hid (by omega), rfl⟩
  case round =>
    obtain ⟨k, hk, rfl, hv, rfl⟩ := hrel
    by_cases hlt : k < s.size
    · obtain ⟨c, hc, hw, hx⟩ := byte_law s k hlt
      have HC := Lib.hid hc
      clear hc
      go_wp2_with (go_at_call 104; refine (f104_any _ _ _ _).mono ?_; rintro e w' ⟨rfl, rfl⟩)
      all_goals first
        | (go_ret; exact ⟨ret_bool (name_bad hlt HC.out (by simp_all [okI, withinB] <;> omega)).symm, rfl⟩)
        | (go_roundw
           case rel => exact ⟨k + 1, by omega, by go_num, Lib.hid (name_go hlt HC.out hv.out (by simp_all [okI, withinB] <;> omega)), trivial⟩
           case measure => simp [intOf]; omega)
    · go_wp2_with (go_at_call 104; refine (f104_any _ _ _ _).mono ?_; rintro e w' ⟨rfl, rfl⟩)
      go_ret
      exact ⟨ret_bool (by rw [nameB_all (fun j hj => hv.out j (by omega))]; simp only [withinB]; rw [Bool.eq_iff_iff]; simp only [decide_eq_true_eq]; omega), rfl⟩

theorem f180_any (c : Int) (w : World) :
    Calls Tryz.prog 180 #[.int .u8 c] w fun e w' => e = .returned (.bool (withinB c 97 122)) ∧ w = w' := by
  go_enter Tryz.func180, Tryz.ntmps180
  go_wp2
  all_goals go_ret
  all_goals (exact ⟨ret_bool (by simp [withinB, *] <;> omega), rfl⟩)

theorem f113_any (s : ByteArray) (hs : s.size ≤ 9223372036854775807) (w : World) :
    Calls Tryz.prog 113 #[.string s] w fun e w' => e = .returned (.bool (nameB s)) ∧ w = w' := by
  go_enter Tryz.func113, Tryz.ntmps113
  go_wp2
  go_loopw [3] (fun i wr => ∃ k : Nat, k ≤ s.size ∧ i = .int .i64 k ∧ Hid (∀ j, j < k → okByte j (s.data[j]!) = true) ∧ w = wr) (fun i _ => s.size - (intOf i).toNat)
  case atStart => exact ⟨0, by omega, rfl, Lib.hid (by omega), rfl⟩
  case round =>
    obtain ⟨k, hk, rfl, hv, rfl⟩ := hrel
    by_cases hlt : k < s.size
    · obtain ⟨c, hc, hw, hx⟩ := byte_law s k hlt
      have HC := Lib.hid hc
      clear hc
      go_wp2_with (go_at_call 180; refine (f180_any _ _).mono ?_; rintro e w' ⟨rfl, rfl⟩)
      all_goals first
        | (go_ret; exact ⟨ret_bool (name_bad hlt HC.out (by simp_all [okI, withinB] <;> omega)).symm, rfl⟩)
        | (go_roundw
           case rel => exact ⟨k + 1, by omega, by go_num, Lib.hid (name_go hlt HC.out hv.out (by simp_all [okI, withinB] <;> omega)), trivial⟩
           case measure => simp [intOf]; omega)
    · go_wp2_with (go_at_call 115; refine (f115_any _ _ _ _).mono ?_; rintro e w' ⟨rfl, rfl⟩)
      go_ret
      exact ⟨ret_bool (by rw [nameB_all (fun j hj => hv.out j (by omega))]; simp only [withinB]; rw [Bool.eq_iff_iff]; simp only [decide_eq_true_eq]; omega), rfl⟩
end leaves
end Go.Proofs.YtimahogkcmmcnaaGreatDoor

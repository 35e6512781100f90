/-
  The walks of WellNothing, part 2: the methods of a nil well. No conditions.
-/
import Derived.Test.YtiabkalmkneogaaGreatDoorWA
namespace Go.Proofs.YtiabkalmkneogaaGreatDoor
open Go.RowKit

theorem below_of_class {w w' : World} (h : ∃ p : Regrown, w' = Sort.grow (redrawn w p.d) p.os) : Below w.heap.size w w' := by
  obtain ⟨p, rfl⟩ := h
  exact below_regrown _ _ _

section walks
set_option maxHeartbeats 1000000
set_option maxRecDepth 100000


theorem f9_one (w : World) (b : Nat) (kd r : Int) (nm : ByteArray) (ea : Option Addr) (en ec : Nat) (hc : w.heap[b]? = some (.cells #[.int .u8 kd, .int .i64 r, .string nm, .slice ea en ec] 41 (0, 0))) (he : EvtsAt w ea en) :
    Calls Tryz.prog 9 #[.slice (some ⟨b, 0, none⟩) 1 1] w fun e w' => IsB e ∧ w' = w := by
  have c2 : w.cell? ⟨b, 2, none⟩ = some (.string nm) := by rw [cell_of_row w b _ _ 41 (0, 0) hc]; rfl
  have c3 : w.cell? ⟨b, 3, none⟩ = some (.slice ea en ec) := by rw [cell_of_row w b _ _ 41 (0, 0) hc]; rfl
  have h28 := Lib.hid (f28_any w ea en ec he)
  clear hc he
  go_enter Tryz.func9, Tryz.ntmps9
  go_wp2
  go_loop [3] (fun i => ∃ k : Nat, k ≤ 1 ∧ i = .int .i64 k) (fun i => 1 - (numOf i).toNat)
  case atStart => exact ⟨0, by omega, rfl⟩
  case round =>
    obtain ⟨k, hk, rfl⟩ := hrel
    by_cases hlt : k < 1
    · have hk0 : k = 0 := by omega
      subst hk0
      by_cases hbig : (100 : Int) < nm.size
      · go_wp2
        go_ret
        exact ⟨isB _, rfl⟩
      · go_wp2_with (go_at_call 28; refine (h28.out).mono ?_; rintro e w1 ⟨⟨b1, rfl⟩, rfl⟩)
        · go_ret
          exact ⟨isB _, rfl⟩
        · go_round
          case rel => exact ⟨1, by omega, by go_num⟩
          case measure => simp [numOf]
    · go_wp2
      go_ret
      exact ⟨isB _, rfl⟩

theorem f18_nil (w : World) (s1 s2 : ByteArray) (ea : Option Addr) (en ec : Nat) : Calls Tryz.prog 18 #[.pointer none, .agg #[.string s1, .string s2, .slice ea en ec]] w fun e w' => e = .returned (.tuple #[.int .i64 0, .int .i64 1]) ∧ Below w.heap.size w w' := by
  have hb0 := (Below.refl w.heap.size w).alloc (Nat.le_refl _) (Obj.cells #[.string s1, .string s2, .slice ea en ec] 52)
  have HB := Lib.hid hb0
  clear hb0
  go_enter Tryz.func18, Tryz.ntmps18
  go_wp2
  refine wp_region_quiet_below (by kernel_rfl) (by kernel_rfl) ?_
  repeat (first | go_big_quiet_skip | quiet_step (fail))
  refine wpQuiet_nil ?_
  intro wq hw'
  have hq := HB.out.trans ((below_of_class hw').mono HB.out.size)
  clear hw'
  have HQ := Lib.hid hq
  clear hq
  go_wp2
  exact bodyPost_ret (v := .tuple #[.int .i64 0, .int .i64 1]) (by kernel_rfl) rfl ⟨rfl, HQ.out⟩

theorem f38_nil (w : World) (i : Int) : Calls Tryz.prog 38 #[.pointer none, .int .i64 i] w fun e w' => e = .returned (.bool false) ∧ w' = w := by
  go_enter Tryz.func38, Tryz.ntmps38
  go_wp2
  go_ret
  exact ⟨rfl, rfl⟩

theorem f20_nil (w : World) (s : ByteArray) : Calls Tryz.prog 20 #[.pointer none, .string s] w fun e w' => e = .returned (.tuple #[.int .i64 0, .int .i64 1]) ∧ Below w.heap.size w w' := by
  go_enter Tryz.func20, Tryz.ntmps20
  go_wp2
  exact bodyPost_ret (v := .tuple #[.int .i64 0, .int .i64 1]) (by kernel_rfl) rfl ⟨rfl, Below.refl _ _⟩

theorem f21_nil (w : World) : Calls Tryz.prog 21 #[.pointer none] w fun e w' => e = .returned (.tuple #[.slice none 0 0, .slice none 0 0]) ∧ Below w.heap.size w w' := by
  go_enter Tryz.func21, Tryz.ntmps21
  go_wp2
  exact bodyPost_ret (v := .tuple #[.slice none 0 0, .slice none 0 0]) (by kernel_rfl) rfl ⟨rfl, Below.refl _ _⟩

theorem f17_nil (w : World) : Calls Tryz.prog 17 #[.pointer none] w fun e w' => e = .returned (.slice none 0 0) ∧ w' = w := by
  go_enter Tryz.func17, Tryz.ntmps17
  go_wp2
  go_ret
  exact ⟨rfl, rfl⟩

theorem f22_nil (w : World) (s : ByteArray) (ea : Option Addr) (en ec : Nat) : Calls Tryz.prog 22 #[.pointer none, .string s, .slice ea en ec] w fun e w' => e = .returned (.int .i64 1) ∧ w' = w := by
  go_enter Tryz.func22, Tryz.ntmps22
  go_wp2
  go_ret
  exact ⟨rfl, rfl⟩

theorem f23_nil (w : World) (s : ByteArray) : Calls Tryz.prog 23 #[.pointer none, .string s] w fun e w' => e = .returned (.int .i64 1) ∧ w' = w := by
  go_enter Tryz.func23, Tryz.ntmps23
  go_wp2
  go_ret
  exact ⟨rfl, rfl⟩

theorem f24_nil (w : World) : Calls Tryz.prog 24 #[.pointer none] w fun e w' => e = .returned (.int .i64 1) ∧ w' = w := by
  go_enter Tryz.func24, Tryz.ntmps24
  go_wp2
  go_ret
  exact ⟨rfl, rfl⟩

theorem f25_nil (w : World) : Calls Tryz.prog 25 #[.pointer none] w fun e w' => e = .returned (.bool false) ∧ w' = w := by
  go_enter Tryz.func25, Tryz.ntmps25
  go_wp2
  go_ret
  exact ⟨rfl, rfl⟩

theorem f16_nil (w : World) (i : Int) : Calls Tryz.prog 16 #[.pointer none, .int .i64 i] w fun e w' => e = .returned (.int .i64 0) ∧ w' = w := by
  go_enter Tryz.func16, Tryz.ntmps16
  go_wp2_with (go_at_call 38; refine (f38_nil _ _).mono ?_; rintro e w1 ⟨rfl, rfl⟩)
  go_ret
  exact ⟨rfl, rfl⟩

theorem f26_nil (w : World) (i : Int) : Calls Tryz.prog 26 #[.pointer none, .int .i64 i] w fun e w' => e = .returned (.bool false) ∧ w' = w := by
  go_enter Tryz.func26, Tryz.ntmps26
  go_wp2_with (go_at_call 38; refine (f38_nil _ _).mono ?_; rintro e w1 ⟨rfl, rfl⟩)
  go_ret
  exact ⟨rfl, rfl⟩

end walks
end Go.Proofs.YtiabkalmkneogaaGreatDoor

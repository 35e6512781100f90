/-
  The walks of NodeNil: at every input the law returns true and leaves what there was; conditions: that its example returns true.
-/
import Derived.Test.YtjmiegmeekpdcaaGreatDoorProg
import Derived.WalkKit
import Derived.WalkSpells
import Derived.WalkLawsBesides
import Derived.Lib.Hide
import Derived.Deep.RegionHeld3
import Derived.Deep.QuietTactic
import Derived.BigQuiet
import Derived.Lib.QuietBelow
import Derived.RangeFuncRecord
set_option linter.unusedSimpArgs false
set_option linter.unusedVariables false
namespace Go.Proofs.YtjmiegmeekpdcaaGreatDoor
open Go.RowKit

def numOf : Value → Int
  | .int _ q => q
  | _ => 0

/-- A row's cells, as far as the law looks. -/
def RowIn (w : World) (ra : Option Addr) (rn : Nat) : Prop :=
  rn ≤ 9223372036854775807 ∧ (rn = 0 ∨ ∃ b o, ra = some ⟨b, o, none⟩ ∧ b < w.heap.size ∧ ∀ k, k < rn → ∃ s, w.cell? ⟨b, o + k * 3 + 2, none⟩ = some (.string s) ∧ s.size ≤ 9223372036854775807)

theorem RowIn.below {w w' : World} {ra : Option Addr} {rn : Nat} (h : RowIn w ra rn) (hb : Below w.heap.size w w') : RowIn w' ra rn := by
  refine ⟨h.1, h.2.imp id ?_⟩
  rintro ⟨b, o, e, hlt, hk⟩
  refine ⟨b, o, e, Nat.lt_of_lt_of_le hlt hb.size, fun k hk' => ?_⟩
  obtain ⟨s, hs, hz⟩ := hk k hk'
  exact ⟨s, (hb.cell (p := ⟨b, _, none⟩) hlt).trans hs, hz⟩

/-- It returns true or false. -/
def IsB (e : Ending) : Prop := ∃ b, e = .returned (.bool b)
theorem isB (b : Bool) : IsB (.returned (.bool b)) := ⟨b, rfl⟩

section walks
set_option maxHeartbeats 1000000
set_option maxRecDepth 100000

theorem f4_one (w : World) (b : Nat) (t : TypeId) (ra : Option Addr) (rn rc : Nat) (hc : w.heap[b]? = some (.cells #[.slice ra rn rc] t (0, 0))) (hr : RowIn w ra rn) :
    Calls Tryz.prog 4 #[.slice (some ⟨b, 0, none⟩) 1 1] w fun e w' => IsB e ∧ w' = w := by
  have c0 : w.cell? ⟨b, 0, none⟩ = some (.slice ra rn rc) := by rw [cell_of_row w b _ _ t (0, 0) hc]; rfl
  obtain ⟨hn, hx⟩ := hr
  clear hc
  go_enter Tryz.func4, Tryz.ntmps4
  go_wp2
  go_loop [3, 4, 5] (fun n i j => ∃ (z : Int) (k : Nat), n = .int .i64 z ∧ k ≤ 1 ∧ i = .int .i64 k) (fun n i j => 1 - (numOf i).toNat)
  case atStart => exact ⟨0, 0, rfl, by omega, rfl⟩
  case round =>
    obtain ⟨z, k, rfl, hk, rfl⟩ := hrel
    by_cases hlt : k < 1
    · have hk0 : k = 0 := by omega
      subst hk0
      go_wp2
      go_loop [3, 5] (fun n j => ∃ (z : Int) (q : Nat), n = .int .i64 z ∧ q ≤ rn ∧ j = .int .i64 q) (fun n j => rn - (numOf j).toNat)
      case atStart => exact ⟨_, 0, rfl, by omega, rfl⟩
      case round =>
        obtain ⟨z2, q, rfl, hq, rfl⟩ := hrel
        by_cases hlt2 : q < rn
        · rcases hx with hx | ⟨b2, o2, rfl, hb2, hc2⟩
          · omega
          · obtain ⟨s, hs, hz⟩ := hc2 q hlt2
            clear hc2
            go_wp2
            go_round
            case rel => exact ⟨_, q + 1, rfl, by omega, by go_num⟩
            case measure => simp [numOf]; omega
        · clear hx
          go_wp2
          go_round
          case rel => exact ⟨_, 1, rfl, by omega, by go_num⟩
          case measure => simp [numOf]
    · clear hx
      go_wp2
      go_ret
      exact ⟨isB _, rfl⟩

theorem f6_nil (w : World) (i t n : Int) (ra : Option Addr) (rn rc : Nat) : Calls Tryz.prog 6 #[.pointer none, .int .i64 i, .agg #[.int .i64 t, .slice ra rn rc, .int .i64 n]] w fun e w' => e = .returned (.tuple #[.slice none 0 0, .int .i64 1]) ∧ Below w.heap.size w w' := by
  have hb0 := (Below.refl w.heap.size w).alloc (Nat.le_refl _) (Obj.cells #[.int .i64 t, .slice ra rn rc, .int .i64 n] 25)
  have HB := Lib.hid hb0
  clear hb0
  go_enter Tryz.func6, Tryz.ntmps6
  go_wp2
  exact bodyPost_ret (v := .tuple #[.slice none 0 0, .int .i64 1]) (by kernel_rfl) rfl ⟨rfl, HB.out⟩

theorem f7_nil (w : World) (i m : Int) : Calls Tryz.prog 7 #[.pointer none, .int .i64 i, .int .i64 m] w fun e w' => e = .returned (.tuple #[.slice none 0 0, .int .i64 0, .int .i64 1]) ∧ w' = w := by
  go_enter Tryz.func7, Tryz.ntmps7
  go_wp2
  exact bodyPost_ret (v := .tuple #[.slice none 0 0, .int .i64 0, .int .i64 1]) (by kernel_rfl) rfl ⟨rfl, rfl⟩

theorem f8_nil (w : World) (i : Int) : Calls Tryz.prog 8 #[.pointer none, .int .i64 i] w fun e w' => e = .returned (.tuple #[.slice none 0 0, .int .i64 0, .int .i64 1]) ∧ w' = w := by
  go_enter Tryz.func8, Tryz.ntmps8
  go_wp2
  exact bodyPost_ret (v := .tuple #[.slice none 0 0, .int .i64 0, .int .i64 1]) (by kernel_rfl) rfl ⟨rfl, rfl⟩

theorem f9_nil (w : World) : Calls Tryz.prog 9 #[.pointer none] w fun e w' => e = .returned (.tuple #[.slice none 0 0, .int .i64 1]) ∧ w' = w := by
  go_enter Tryz.func9, Tryz.ntmps9
  go_wp2
  exact bodyPost_ret (v := .tuple #[.slice none 0 0, .int .i64 1]) (by kernel_rfl) rfl ⟨rfl, rfl⟩

theorem f10_nil (w : World) : Calls Tryz.prog 10 #[.pointer none] w fun e w' => e = .returned (.int .i64 (-1000000000000)) ∧ w' = w := by
  go_enter Tryz.func10, Tryz.ntmps10
  go_wp2
  go_ret
  exact ⟨rfl, rfl⟩

theorem f11_nil (w : World) : Calls Tryz.prog 11 #[.pointer none] w fun e w' => e = .returned (.int .i64 0) ∧ w' = w := by
  go_enter Tryz.func11, Tryz.ntmps11
  go_wp2
  go_ret
  exact ⟨rfl, rfl⟩

theorem f12_nil (w : World) : Calls Tryz.prog 12 #[.pointer none] w fun e w' => e = .returned (.int .i64 0) ∧ w' = w := by
  go_enter Tryz.func12, Tryz.ntmps12
  go_wp2
  go_ret
  exact ⟨rfl, rfl⟩

theorem f13_nil (w : World) : Calls Tryz.prog 13 #[.pointer none] w fun e w' => e = .returned (.slice none 0 0) ∧ w' = w := by
  go_enter Tryz.func13, Tryz.ntmps13
  go_wp2
  go_ret
  exact ⟨rfl, rfl⟩

/-- The argument's box. -/
structure BF (w W : World) (cs : Array Value) (t : TypeId) : Prop where
  below : Below w.heap.size w W
  box : W.heap[w.heap.size]? = some (.cells cs t (0, 0))

theorem heap_lt {w : World} {g : Nat} {o : Obj} (h : w.heap[g]? = some o) : g < w.heap.size := by
  rcases Nat.lt_or_ge g w.heap.size with hlt | hge
  · exact hlt
  · rw [Array.getElem?_eq_none hge] at h; cases h

theorem BF.next {w W W' : World} {cs : Array Value} {t : TypeId} (h : BF w W cs t) (hb : Below W.heap.size W W') : BF w W' cs t :=
  ⟨h.below.trans (hb.mono h.below.size), (hb.block _ (heap_lt h.box)).trans h.box⟩

theorem blk3 {W : World} {b : Nat} {v0 v1 v2 : Value} {t : TypeId} (h : W.heap[b]? = some (.cells #[v0, v1, v2] t (0, 0))) :
    W.cell? ⟨b, 0, none⟩ = some v0 ∧ W.cell? ⟨b, 1, none⟩ = some v1 ∧ W.cell? ⟨b, 2, none⟩ = some v2 := by
  refine ⟨?_, ?_, ?_⟩ <;> rw [cell_of_row W b _ _ t (0, 0) h] <;> rfl

theorem two_new (w : World) (A B : Obj) : ((w.alloc A).alloc B).heap[w.heap.size + 1]? = some B := by
  have h := World.alloc_heap_new (w.alloc A) B
  have e : (w.alloc A).heap.size = w.heap.size + 1 := by
    unfold World.alloc
    simp only [Array.size_push]
  rw [e] at h
  exact h

theorem f3_any (hAw : ∀ w, Calls Tryz.prog 5 #[] w fun e w' => e = .returned (.bool true) ∧ Below w.heap.size w w') (w : World) (i m t n : Int) (ra : Option Addr) (rn rc : Nat) (hr : RowIn w ra rn) :
    Calls Tryz.prog 3 #[.int .i64 i, .int .i64 m, .agg #[.int .i64 t, .slice ra rn rc, .int .i64 n]] w fun e w' => e = .returned (.bool true) ∧ Below w.heap.size w w' := by
  have hb0 : BF w (w.alloc (Obj.cells #[.int .i64 t, .slice ra rn rc, .int .i64 n] 25)) #[.int .i64 t, .slice ra rn rc, .int .i64 n] 25 := ⟨(Below.refl _ _).alloc (Nat.le_refl _) _, World.alloc_heap_new _ _⟩
  have HB := Lib.hid hb0
  have HE := Lib.hid hr
  have HAw := Lib.hid hAw
  clear hb0 hr hAw
  go_enter Tryz.func3, Tryz.ntmps3
  go_wp2_with (first
    | (go_at_call 4; refine (f4_one _ _ _ ra rn rc (two_new _ _ _) (HE.out.below (HB.out.below.alloc HB.out.below.size _))).mono ?_; rintro e w2 ⟨⟨bb, rfl⟩, rfl⟩; have HB2 := Lib.hid (HB.out.next ((Below.refl _ _).alloc (Nat.le_refl _) (Obj.cells #[.slice ra rn rc] 23))))
    | (go_at_call 6; refine (f6_nil _ _ _ _ _ _ _).mono ?_; rintro e w3 ⟨rfl, hb3⟩; have HB3 := Lib.hid (HB2.out.next hb3); clear hb3)
    | (go_at_call 7; refine (f7_nil _ _ _).mono ?_; rintro e w7 ⟨rfl, rfl⟩)
    | (go_at_call 8; refine (f8_nil _ _).mono ?_; rintro e w7 ⟨rfl, rfl⟩)
    | (go_at_call 9; refine (f9_nil _).mono ?_; rintro e w7 ⟨rfl, rfl⟩)
    | (go_at_call 10; refine (f10_nil _).mono ?_; rintro e w7 ⟨rfl, rfl⟩)
    | (go_at_call 11; refine (f11_nil _).mono ?_; rintro e w7 ⟨rfl, rfl⟩)
    | (go_at_call 12; refine (f12_nil _).mono ?_; rintro e w7 ⟨rfl, rfl⟩)
    | (go_at_call 13; refine (f13_nil _).mono ?_; rintro e w7 ⟨rfl, rfl⟩)
    | (go_at_call 5; refine (HAw.out _).mono ?_; rintro e w8 ⟨rfl, hb8⟩; first | have HB8 := Lib.hid (HB3.out.next hb8) | have HB8 := Lib.hid (HB2.out.next hb8)))
  · go_ret
    exact ⟨rfl, HB8.out.below⟩
  · go_ret
    exact ⟨rfl, HB8.out.below⟩
end walks
end Go.Proofs.YtjmiegmeekpdcaaGreatDoor

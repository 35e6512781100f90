/-
  The walks of WellNothing: at every act the law returns true and leaves what there was. No conditions.
-/
import Derived.Test.YtiabkalmkneogaaGreatDoorProg
import Derived.Test.YtiabkalmkneogaaGreatDoorChecked
import Derived.Test.YtiabkalmkneogaaGreatDoorV3
import Derived.Lib.Hide
import Derived.Deep.RegionHeld3
import Derived.Deep.QuietTactic
import Derived.BigQuiet
import Derived.Lib.QuietBelow
namespace Go.Proofs.YtiabkalmkneogaaGreatDoor
open Go.RowKit

def numOf : Value → Int
  | .int _ q => q
  | _ => 0

/-- A row's cells, as far as the law looks. -/
def RowIn (w : World) (ra : Option Addr) (rn : Nat) : Prop :=
  rn ≤ 9223372036854775807 ∧ (rn = 0 ∨ ∃ b o, ra = some ⟨b, o, none⟩ ∧ b < w.heap.size ∧ ∀ k, k < rn → ∃ s, w.cell? ⟨b, o + k * 3 + 2, none⟩ = some (.string s))

/-- A list of events, as far as the law looks. -/
def EvtsAt (w : World) (a : Option Addr) (n : Nat) : Prop :=
  n ≤ 9223372036854775807 ∧ (n = 0 ∨ ∃ b o, a = some ⟨b, o, none⟩ ∧ b < w.heap.size ∧ ∀ i, i < n → ∃ ra rn rc, w.cell? ⟨b, o + i * 2 + 1, none⟩ = some (.slice ra rn rc) ∧ RowIn w ra rn)

theorem RowIn.below {w w' : World} {ra : Option Addr} {rn : Nat} (h : RowIn w ra rn) (hb : Below w.heap.size w w') : RowIn w' ra rn := by
  refine ⟨h.1, h.2.imp id ?_⟩
  rintro ⟨b, o, e, hlt, hk⟩
  refine ⟨b, o, e, Nat.lt_of_lt_of_le hlt hb.size, fun k hk' => ?_⟩
  obtain ⟨s, hs⟩ := hk k hk'
  exact ⟨s, (hb.cell (p := ⟨b, _, none⟩) hlt).trans hs⟩

theorem EvtsAt.below {w w' : World} {a : Option Addr} {n : Nat} (h : EvtsAt w a n) (hb : Below w.heap.size w w') : EvtsAt w' a n := by
  refine ⟨h.1, h.2.imp id ?_⟩
  rintro ⟨b, o, e, hlt, hk⟩
  refine ⟨b, o, e, Nat.lt_of_lt_of_le hlt hb.size, fun i hi => ?_⟩
  obtain ⟨ra, rn, rc, h1, h2⟩ := hk i hi
  exact ⟨ra, rn, rc, (hb.cell (p := ⟨b, _, none⟩) hlt).trans h1, h2.below hb⟩

/-- It returns true or false. -/
def IsB (e : Ending) : Prop := ∃ b, e = .returned (.bool b)
theorem isB (b : Bool) : IsB (.returned (.bool b)) := ⟨b, rfl⟩

section walks
set_option maxHeartbeats 1000000
set_option maxRecDepth 100000

/-- The example. -/
theorem f7_any (w : World) : Calls Tryz.prog 7 #[] w fun e w' => e = .returned (.bool true) ∧ Below w.heap.size w w' :=
  Ev.calls_true Tryz.checked.mixed (fuel := 5000) (d := 60) (by kernel_rfl) w

theorem f28_any (w : World) (a : Option Addr) (n c : Nat) (h : EvtsAt w a n) : Calls Tryz.prog 28 #[.slice a n c] w fun e w' => IsB e ∧ w' = w := by
  obtain ⟨hn, hx⟩ := h
  go_enter Tryz.func28, Tryz.ntmps28
  go_wp2
  go_loop [3, 4] (fun i j => ∃ k : Nat, k ≤ n ∧ i = .int .i64 k) (fun i j => n - (numOf i).toNat)
  case atStart => exact ⟨0, by omega, rfl⟩
  case round =>
    obtain ⟨k, hk, rfl⟩ := hrel
    by_cases hlt : k < n
    · rcases hx with hx | ⟨b, o, rfl, hb, hc⟩
      · omega
      · obtain ⟨ra, rn, rc, h1, h2, hr⟩ := hc k hlt
        clear hc
        by_cases hbig : (20 : Int) < rn
        · go_wp2
          go_ret
          exact ⟨isB _, rfl⟩
        · go_wp2
          go_loop [4] (fun j => ∃ q : Nat, q ≤ rn ∧ j = .int .i64 q) (fun j => rn - (numOf j).toNat)
          case atStart => exact ⟨0, by omega, rfl⟩
          case round =>
            obtain ⟨q, hq, rfl⟩ := hrel
            by_cases hlt2 : q < rn
            · rcases hr with hr | ⟨b2, o2, rfl, hb2, hc2⟩
              · omega
              · obtain ⟨s, hs⟩ := hc2 q hlt2
                clear hc2
                by_cases hbig2 : (300 : Int) < s.size
                · go_wp2
                  go_ret
                  exact ⟨isB _, rfl⟩
                · go_wp2
                  go_round
                  case rel => exact ⟨q + 1, by omega, by go_num⟩
                  case measure => simp [numOf]; omega
            · clear hr
              go_wp2
              go_round
              case rel => exact ⟨k + 1, by omega, by go_num⟩
              case measure => simp [numOf]; omega
    · clear hx
      go_wp2
      go_ret
      exact ⟨isB _, rfl⟩
end walks
end Go.Proofs.YtiabkalmkneogaaGreatDoor

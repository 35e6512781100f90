/-
  The walks of FlowNothing, part 2: what is larger than is looked at. No conditions.
-/
import Derived.Test.YtgfbjbdfckgdjaaGreatDoorFA
set_option linter.unusedSimpArgs false
set_option linter.unusedVariables false
namespace Go.Proofs.YtgfbjbdfckgdjaaGreatDoor
open Go.RowKit

def numOf : Value → Int
  | .int _ q => q
  | _ => 0

/-- A row's cells, as far as the law looks. -/
def RowIn (w : World) (ra : Option Addr) (rn : Nat) : Prop :=
  rn ≤ 9223372036854775807 ∧ (rn = 0 ∨ ∃ b o, ra = some ⟨b, o, none⟩ ∧ b < w.heap.size ∧ ∀ k, k < rn → ∃ s, w.cell? ⟨b, o + k * 3 + 2, none⟩ = some (.string s) ∧ s.size ≤ 9223372036854775807)

theorem RowIn.below {w w' : World} {ra : Option Addr} {rn : Nat} (h : RowIn w ra rn) (hb : Below w.heap.size w w') : RowIn w' ra rn := by
  refine ⟨h.1, h.2.imp id ?_⟩
  rintro ⟨b, o, e, hlt, hk⟩
  refine ⟨b, o, e, Nat.lt_of_lt_of_le hlt hb.size, fun k hk' => ?_⟩
  obtain ⟨s, hs, hz⟩ := hk k hk'
  exact ⟨s, (hb.cell (p := ⟨b, _, none⟩) hlt).trans hs, hz⟩

/-- Events' cells, as far as the law looks. -/
def EvsIn (w : World) (ea : Option Addr) (en : Nat) : Prop :=
  en ≤ 9223372036854775807 ∧ (en = 0 ∨ ∃ b o, ea = some ⟨b, o, none⟩ ∧ b < w.heap.size ∧ ∀ k, k < en → ∃ ra rn rc, w.cell? ⟨b, o + k * 2 + 1, none⟩ = some (.slice ra rn rc) ∧ RowIn w ra rn)

theorem EvsIn.below {w w' : World} {ra : Option Addr} {rn : Nat} (h : EvsIn w ra rn) (hb : Below w.heap.size w w') : EvsIn w' ra rn := by
  refine ⟨h.1, h.2.imp id ?_⟩
  rintro ⟨b, o, e, hlt, hk⟩
  refine ⟨b, o, e, Nat.lt_of_lt_of_le hlt hb.size, fun k hk' => ?_⟩
  obtain ⟨a, n, c, hs, hz⟩ := hk k hk'
  exact ⟨a, n, c, (hb.cell (p := ⟨b, _, none⟩) hlt).trans hs, hz.below hb⟩

/-- It returns true or false. -/
def IsB (e : Ending) : Prop := ∃ b, e = .returned (.bool b)
theorem isB (b : Bool) : IsB (.returned (.bool b)) := ⟨b, rfl⟩

section walks
set_option maxHeartbeats 1000000
set_option maxRecDepth 100000

theorem f20_any (w : World) (ea : Option Addr) (en ec : Nat) (h : EvsIn w ea en) : Calls Tryz.prog 20 #[.slice ea en ec] w fun e w' => IsB e ∧ w' = w := by
  obtain ⟨hn, hx⟩ := h
  go_enter Tryz.func20, Tryz.ntmps20
  go_wp2
  go_loop [3, 4] (fun i k => ∃ (q : Nat), q ≤ en ∧ i = .int .i64 q) (fun i k => en - (numOf i).toNat)
  case atStart => exact ⟨0, by omega, rfl⟩
  case round =>
    obtain ⟨q, hq, rfl⟩ := hrel
    by_cases hlt : q < en
    · rcases hx with hx | ⟨b, o, rfl, hb, hc⟩
      · omega
      · obtain ⟨ra, rn, rc, h1, hr, hx2⟩ := hc q hlt
        clear hc
        go_wp2
        · go_ret
          exact ⟨isB _, rfl⟩
        · go_loop [4] (fun k => ∃ (p : Nat), p ≤ rn ∧ k = .int .i64 p) (fun k => rn - (numOf k).toNat)
          case atStart => exact ⟨0, by omega, rfl⟩
          case round =>
            obtain ⟨p, hp, rfl⟩ := hrel
            by_cases hlt2 : p < rn
            · rcases hx2 with hx2 | ⟨b2, o2, rfl, hb2, hc2⟩
              · omega
              · obtain ⟨s, hs, hz⟩ := hc2 p hlt2
                clear hc2
                go_wp2
                · go_ret
                  exact ⟨isB _, rfl⟩
                · go_round
                  case rel => exact ⟨p + 1, by omega, by go_num⟩
                  case measure => simp [numOf]; omega
            · clear hx2
              go_wp2
              go_round
              case rel => exact ⟨q + 1, by omega, by go_num⟩
              case measure => simp [numOf]; omega
    · clear hx
      go_wp2
      go_ret
      exact ⟨isB _, rfl⟩
end walks
end Go.Proofs.YtgfbjbdfckgdjaaGreatDoor

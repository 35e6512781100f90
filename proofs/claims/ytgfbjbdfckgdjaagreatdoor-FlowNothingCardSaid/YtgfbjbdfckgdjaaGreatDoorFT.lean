/-
  FlowNothing: where the library's table of powers lies, the variables are as its example asks. No conditions.
-/
import Derived.Test.YtgfbjbdfckgdjaaGreatDoorNZ
import Derived.Lib.LaidTab
import Derived.Lib.ItoaNum
set_option linter.unusedSimpArgs false
set_option linter.unusedVariables false
namespace Go.Proofs.YtgfbjbdfckgdjaaGreatDoor
open Go.RowKit Go

theorem pow_at : Tryz.prog.globalNamed "internal/strconv.uint64pow10" = some 0 := by kernel_rfl

def TabsU (w : World) : Prop := Lib.TabIs Tryz.prog w "internal/strconv.uint64pow10" .u64 Lib.pow10Tab

theorem TabsU.pos {w : World} (h : TabsU w) : 0 < w.heap.size := by
  unfold TabsU Lib.TabIs World.var? at h
  rw [pow_at] at h
  simp only [Option.bind_some] at h
  rcases Nat.eq_zero_or_pos w.heap.size with e | e
  · rw [Array.getElem?_eq_none (by omega)] at h
    cases h
  · exact e

theorem TabsU.below {w w' : World} (h : TabsU w) (hb : Below w.heap.size w w') : TabsU w' := by
  have h0 := hb.block 0 h.pos
  unfold TabsU Lib.TabIs World.var? at h ⊢
  rw [pow_at] at h ⊢
  simp only [Option.bind_some] at h ⊢
  rw [h0]
  exact h

theorem pow_list : V0 = [(0, .tab .u64 Lib.pow10Tab)] := by kernel_rfl

theorem tabs_v0 {w : World} (h : TabsU w) : ∀ (j x : Nat) (o : Ev.AO), V0[j]? = some (x, o) → ∃ i : Ev.Info, i.blk = x ∧ i.off = 0 ∧ ∀ β, Ev.OR β i w o := by
  intro j x o hj
  rw [pow_list] at hj
  cases j with
  | succ j => simp at hj
  | zero =>
    simp only [List.getElem?_cons_zero, Option.some.injEq, Prod.mk.injEq] at hj
    obtain ⟨rfl, rfl⟩ := hj
    unfold TabsU Lib.TabIs World.var? at h
    rw [pow_at] at h
    simp only [Option.bind_some] at h
    cases hc : w.heap[0]? with
    | none => rw [hc] at h; cases h
    | some ob =>
      rw [hc] at h
      cases ob with
      | cells cs e fz =>
        obtain ⟨f1, f2⟩ := fz
        simp only [Option.some.injEq] at h
        subst h
        exact ⟨⟨0, e, Ev.pairN f1 f2, 0, 0⟩, rfl, rfl, fun β => ⟨e, f1, f2, hc, rfl, rfl, rfl⟩⟩
      | _ => cases h

theorem f4_at (hm : Tryz.prog.follows .mixedOrders = true) {w : World} (h : TabsU w) : ∀ W, Below w.heap.size w W → Calls Tryz.prog 4 #[] W fun e w' => e = .returned (.bool true) ∧ Below W.heap.size W w' :=
  fun W hb => f4_any hm W (tabs_v0 (h.below hb))
end Go.Proofs.YtgfbjbdfckgdjaaGreatDoor

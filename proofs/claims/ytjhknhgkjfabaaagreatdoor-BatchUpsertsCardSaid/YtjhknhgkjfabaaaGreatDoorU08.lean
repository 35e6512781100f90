/-
 Closed facts about the program that the row of BatchUpserts asks: it proves each by the kernel. No conditions.
-/
import Derived.Test.YtjhknhgkjfabaaaGreatDoorRows
import Derived.Test.YtjhknhgkjfabaaaGreatDoorChecked
import Derived.ProofKit
import Derived.Stop.Joined
import Derived.JoinedOf
import Derived.SevenTiedAt
import Derived.ClosedOfChecked
set_option linter.unusedSimpArgs false
set_option linter.unusedVariables false
namespace Go.Proofs.YtjhknhgkjfabaaaGreatDoor
theorem goes_none {P : Program} (h : P.funcs.any Func.goes = false) (f : FuncId) : P.goes f = false := by
  have h' : ∀ (g : Nat) (F : Func), P.funcs[g]? = some F → F.goes = false := by
    intro g F hF
    have hlt : g < P.funcs.size := (Array.getElem?_eq_some_iff.1 hF).1
    have := (Array.any_eq_false.1 h) g hlt
    rw [(Array.getElem?_eq_some_iff.1 hF).2] at this
    simpa using this
  unfold Program.goes
  rw [h, Bool.and_false, Bool.or_false, List.any_eq_false]
  intro g _
  cases hg : P.funcs[g]? with
  | none => simp
  | some F => simp [h' g F hg]

theorem goesAt_none {P : Program} (h : P.funcs.any Func.goes = false) (start : Start) (func : String) : P.goesAt start func = false := by
  unfold Program.goesAt Program.goesFrom
  have h1 : (P.funcNamed func).any P.goes = false := by
    cases P.funcNamed func with
    | none => rfl
    | some f => exact goes_none h f
  have h2 : P.inits.toList.any P.goes = false := by
    rw [List.any_eq_false]
    intro f _
    simp [goes_none h f]
  rw [h1, h2]
  cases start <;> rfl

theorem fact_goes : Tryz.pinned.checked.prog.funcs.any Func.goes = false := by kernel_rfl
theorem all_spec : ClosedOfChecked.AllSpec Tryz.pinned.checked.prog := ClosedOfChecked.allSpec_of Tryz.pinned.checked.wellFormed (by kernel_rfl)
theorem fact_laidout : laidOutB Tryz.pinned.checked.prog = true := ClosedOfChecked.laidOutB_of all_spec (by kernel_rfl)
theorem fact_mapsrowed : mapsRowed Tryz.pinned.checked.prog = true := ClosedOfChecked.mapsRowed_of all_spec
theorem fact_stops : Tryz.pinned.checked.prog.stops = [] := by kernel_rfl
theorem fact_knobs : Tryz.pinned.checked.prog.stopKnobs = [] := by kernel_rfl
theorem fact_plain : Tryz.pinned.checked.prog.plainKeys = false := by kernel_rfl
theorem fact_heard : Tryz.pinned.checked.prog.stopsHeard = true := by kernel_rfl
theorem fact_may : Tryz.pinned.checked.prog.mayEnter = true := by kernel_rfl
theorem fact_lifts : Tryz.pinned.checked.prog.liftsFinal = false := by kernel_rfl
theorem fact_main : Tryz.pinned.checked.prog.mainIs = some (true, "c498785e80d8b85437951933524259cc442b90c0ddf346d790fd387b04a58c49".toList) := by kernel_rfl
theorem fact_looks : true = Tryz.pinned.checked.prog.looks [] := by kernel_rfl
end Go.Proofs.YtjhknhgkjfabaaaGreatDoor

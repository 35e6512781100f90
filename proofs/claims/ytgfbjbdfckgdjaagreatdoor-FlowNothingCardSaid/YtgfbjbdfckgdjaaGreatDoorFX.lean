/-
  Closed facts about the program that the row of FlowNothing asks: it proves each by the kernel. No conditions.
-/
import Derived.Test.YtgfbjbdfckgdjaaGreatDoorFL
import Derived.Test.YtgfbjbdfckgdjaaGreatDoorRows
import Derived.Test.YtgfbjbdfckgdjaaGreatDoorChecked
import Derived.ProofKit
import Derived.Stop.Joined
import Derived.JoinedOf
import Derived.SevenTiedAt
import Derived.ClosedOfChecked
namespace Go.Proofs.YtgfbjbdfckgdjaaGreatDoor
theorem goes_none {P : Program} (h : P.funcs.any Func.goes = false) (f : FuncId) : P.goes f = false := by
  have h' : ∀ (g : Nat) (F : Func), P.funcs[g]? = some F → F.goes = false := by
    intro g F hF
    have hlt : g < P.funcs.size := (Array.getElem?_eq_some_iff.1 hF).1
    have := (Array.any_eq_false.1 h) g hlt
    rw [(Array.getElem?_eq_some_iff.1 hF).2] at this
    simpa using this
  unfold Program.goes
  rw [h, Bool.and_false, Bool.or_false, List.any_eq_false]
  intro g _
  cases hg : P.funcs[g]? with
  | none => simp
  | some F => simp [h' g F hg]

theorem goesAt_none {P : Program} (h : P.funcs.any Func.goes = false) (start : Start) (func : String) : P.goesAt start func = false := by
  unfold Program.goesAt Program.goesFrom
  have h1 : (P.funcNamed func).any P.goes = false := by
    cases P.funcNamed func with
    | none => rfl
    | some f => exact goes_none h f
  have h2 : P.inits.toList.any P.goes = false := by
    rw [List.any_eq_false]
    intro f _
    simp [goes_none h f]
  rw [h1, h2]
  cases start <;> rfl

theorem fact_goes : Tryz.pinned.checked.prog.funcs.any Func.goes = false := by
  rw [← Array.any_toList]; kernel_rfl
theorem all_spec : ClosedOfChecked.AllSpec Tryz.pinned.checked.prog := ClosedOfChecked.allSpec_of Tryz.pinned.checked.wellFormed (by kernel_rfl)
theorem types_len : Tryz.pinned.checked.prog.types.size = 1081 := by kernel_rfl
theorem rest_globals : (Tryz.pinned.checked.prog.globals.toList.all (fun g => decide (g.type < 1081))) = true := by kernel_rfl
theorem par_all : Tryz.pinned.checked.prog.funcs.toList.all (fun f => f.params.all fun t => decide (t < 1081)) = true := by kernel_rfl
theorem fact_laidout : laidOutB Tryz.pinned.checked.prog = true := ClosedOfChecked.laidOutB_of all_spec (by rw [types_len, ← Array.all_toList, ← Array.all_toList, rest_globals, par_all]; rfl)
theorem fact_mapsrowed : mapsRowed Tryz.pinned.checked.prog = true := ClosedOfChecked.mapsRowed_of all_spec
theorem fact_stops : Tryz.pinned.checked.prog.stops = [] := by kernel_rfl
theorem fact_knobs : Tryz.pinned.checked.prog.stopKnobs = [] := by kernel_rfl
theorem fact_plain : Tryz.pinned.checked.prog.plainKeys = false := by kernel_rfl
theorem fact_heard : Tryz.pinned.checked.prog.stopsHeard = true := by
  unfold Program.stopsHeard
  rw [← Array.all_toList]; kernel_rfl
theorem fact_later : Tryz.pinned.checked.prog.laysLater = false := by
  unfold Program.laysLater
  rw [← Array.any_toList]; kernel_rfl
theorem fact_may : Tryz.pinned.checked.prog.mayEnter = true := by
  unfold Program.mayEnter
  rw [fact_later]; kernel_rfl
theorem fact_lifts : Tryz.pinned.checked.prog.liftsFinal = false := by kernel_rfl
theorem fact_main : Tryz.pinned.checked.prog.mainIs = some (true, "966759c304079f7e09c1a177b1a1ea983b942ebda661e9926508e3cdcf837014".toList) := by kernel_rfl
theorem fact_looks : true = Tryz.pinned.checked.prog.looks [] := by kernel_rfl
end Go.Proofs.YtgfbjbdfckgdjaaGreatDoor

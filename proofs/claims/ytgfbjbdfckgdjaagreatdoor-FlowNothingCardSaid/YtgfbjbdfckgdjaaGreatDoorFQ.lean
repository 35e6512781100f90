/-
  FlowNothing, part 2: closed facts about the row: it proves each by the kernel. No conditions.
-/
import Derived.Test.YtgfbjbdfckgdjaaGreatDoorFX
import Derived.ProofKit
import Derived.Stop.Joined
import Derived.SevenTiedAt
set_option linter.unusedSimpArgs false
set_option linter.unusedVariables false
namespace Go.Proofs.YtgfbjbdfckgdjaaGreatDoor
open Go.ChangeShapes Go.WideShapes Go.ChangeAt Go.RowKit

set_option maxRecDepth 100000
theorem flowNothing_wf : Rows.flowNothingRow.wf (OpenSpec.ofChange Rows.flowNothingSpec) = true := by kernel_rfl
theorem flowNothing_params : Tryz.f3.params.all (Tryz.pinned.checked.prog.readableRec ·) = true := by kernel_rfl
theorem flowNothing_tied : namedTie Tryz.pinned.checked.prog Rows.flowNothingRow.named Rows.flowNothingSpec.vars = true := by kernel_rfl
theorem flowNothing_inPlace : (Rows.flowNothingRow.inPlace == Tryz.pinned.checked.prog.inPlace 3) = true := by kernel_rfl
theorem flowNothing_unfollowed : (Rows.flowNothingRow.unfollowed == Tryz.pinned.checked.prog.unfollowed 3) = true := by kernel_rfl
theorem flowNothing_recurses : (Rows.flowNothingRow.recurses == Tryz.pinned.checked.prog.recurses 3) = true := by kernel_rfl
theorem flowNothing_varsNamed : (Rows.flowNothingRow.named == Tryz.pinned.checked.prog.varsNamed 3) = true := by kernel_rfl
theorem flowNothing_found : Tryz.pinned.checked.prog.funcNamed Rows.flowNothingRow.func = some 3 := by
  rw [funcNamed_list]; kernel_rfl
theorem flowNothing_wrapper : Tryz.f3.isWrapper Tryz.pinned.checked.prog Rows.flowNothingRow.wrapper Rows.flowNothingRow.mainSum := by
  unfold Func.isWrapper; first | (rw [if_pos (by decide +kernel)]; kernel_rfl) | (rw [if_neg (by decide +kernel)]; exact ⟨rfl, rfl⟩)
theorem flowNothing_maps : (Rows.flowNothingRow.maps == (Tryz.f3.params.toList ++ Rows.flowNothingSpec.plain.varTypes Tryz.pinned.checked.prog).any (Tryz.pinned.checked.prog.mapsRec ·)) = true := by kernel_rfl
theorem flowNothing_ifaces : (Rows.flowNothingRow.ifaces == (Tryz.f3.params.toList ++ Rows.flowNothingSpec.plain.varTypes Tryz.pinned.checked.prog).any (Tryz.pinned.checked.prog.ifacesRec ·)) = true := by kernel_rfl
theorem flowNothing_mapsOut : (Rows.flowNothingRow.mapsOut == Tryz.pinned.checked.prog.mapsAmong Tryz.f3.resultTypes.toList) = true := by kernel_rfl
theorem flowNothing_loops : (Rows.flowNothingRow.loops == (Tryz.f3.params.toList ++ Rows.flowNothingSpec.plain.varTypes Tryz.pinned.checked.prog).any (Tryz.pinned.checked.prog.loopsFrom ·)) = true := by kernel_rfl
theorem flowNothing_wideKeys : (Rows.flowNothingRow.wideKeys == (Tryz.f3.params.toList ++ Rows.flowNothingSpec.plain.varTypes Tryz.pinned.checked.prog ++ Tryz.f3.resultTypes.toList).any (Tryz.pinned.checked.prog.wideKeysFrom ·)) = true := by kernel_rfl
theorem flowNothing_vars : Rows.flowNothingSpec.vars.all (Tryz.pinned.checked.prog.varReadable ·) = true := by kernel_rfl
theorem flowNothing_results : Tryz.f3.resultTypes.all (fun t => Tryz.pinned.checked.prog.readableRec t && decide (t < Tryz.pinned.checked.prog.types.size)) = true := by kernel_rfl
theorem flowNothing_ifacesOut : (Rows.flowNothingRow.ifacesOut == Tryz.f3.resultTypes.toList.any (Tryz.pinned.checked.prog.ifacesRec ·)) = true := by kernel_rfl
theorem flowNothing_loopsOut : (Rows.flowNothingRow.loopsOut == Tryz.f3.resultTypes.toList.any (Tryz.pinned.checked.prog.loopsFrom ·)) = true := by kernel_rfl
theorem flowNothing_make : (Tryz.pinned.checked.prog.make == some Rows.flowNothingRow.make) = true := by kernel_rfl
theorem flowNothing_pinnedBy : (Rows.flowNothingRow.pinned == Rows.flowNothingRow.pinnedBy) = true := by kernel_rfl
theorem flowNothing_veiled : (Rows.flowNothingRow.veiled == (Tryz.f3.params.toList ++ Rows.flowNothingSpec.plain.varTypes Tryz.pinned.checked.prog ++ Tryz.f3.resultTypes.toList).any (Tryz.pinned.checked.prog.veiledRec ·)) = true := by kernel_rfl
theorem flowNothing_fits : Rows.flowNothingRow.veiledFits Tryz.pinned.checked.prog Tryz.f3.params.toList (Tryz.f3.params.toList ++ Rows.flowNothingSpec.plain.varTypes Tryz.pinned.checked.prog ++ Tryz.f3.resultTypes.toList) = true := by kernel_rfl
theorem flowNothing_stops : (Rows.flowNothingRow.stops == []) = true := by kernel_rfl
theorem flowNothing_stopsP : (Tryz.pinned.checked.prog.stops == []) = true := beq_iff_eq.2 fact_stops
theorem flowNothing_knobs : (Rows.flowNothingRow.knobs == []) = true := by kernel_rfl
theorem flowNothing_knobsP : (Tryz.pinned.checked.prog.stopKnobs == []) = true := beq_iff_eq.2 fact_knobs
theorem flowNothing_plainKeys : (Rows.flowNothingRow.plainKeys == Tryz.pinned.checked.prog.plainKeys) = true := beq_iff_eq.2 (Eq.trans (by kernel_rfl) fact_plain.symm)
theorem flowNothing_short : Rows.flowNothingRow.shortTexts.isNone = true := by kernel_rfl
theorem flowNothing_liftedF : (Rows.flowNothingRow.lifted == Tryz.pinned.checked.prog.liftsFinal) = true := beq_iff_eq.2 (Eq.trans (by kernel_rfl) fact_lifts.symm)
theorem flowNothing_facts : joinedFacts Tryz.pinned.checked.prog 3 Tryz.f3 Rows.flowNothingSpec Rows.flowNothingRow = true := by
  unfold joinedFacts
  simp only [Bool.and_eq_true]
  exact ⟨⟨⟨⟨⟨⟨⟨⟨⟨⟨⟨⟨⟨⟨⟨⟨⟨⟨⟨⟨⟨⟨⟨⟨⟨⟨⟨⟨⟨⟨⟨flowNothing_wf, fact_laidout⟩, fact_mapsrowed⟩, flowNothing_params⟩, flowNothing_tied⟩, flowNothing_stops⟩, flowNothing_stopsP⟩, flowNothing_knobs⟩, flowNothing_knobsP⟩, flowNothing_inPlace⟩, flowNothing_unfollowed⟩, flowNothing_recurses⟩, flowNothing_varsNamed⟩, flowNothing_maps⟩, flowNothing_ifaces⟩, flowNothing_mapsOut⟩, flowNothing_loops⟩, flowNothing_wideKeys⟩, flowNothing_vars⟩, flowNothing_results⟩, flowNothing_ifacesOut⟩, flowNothing_loopsOut⟩, flowNothing_plainKeys⟩, flowNothing_short⟩, fact_heard⟩, fact_may⟩, flowNothing_liftedF⟩, flowNothing_make⟩, (by kernel_rfl)⟩, flowNothing_pinnedBy⟩, flowNothing_veiled⟩, flowNothing_fits⟩

end Go.Proofs.YtgfbjbdfckgdjaaGreatDoor

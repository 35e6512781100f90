/-
 BatchUpserts, part 2: closed facts about the row: it proves each by the kernel. No conditions.
-/
import Derived.Test.YtjhknhgkjfabaaaGreatDoorU08
import Derived.ProofKit
import Derived.Stop.Joined
import Derived.SevenTiedAt
set_option linter.unusedSimpArgs false
set_option linter.unusedVariables false
set_option linter.unusedSimpArgs false
set_option linter.unusedVariables false
namespace Go.Proofs.YtjhknhgkjfabaaaGreatDoor
open Go.ChangeShapes Go.WideShapes Go.ChangeAt Go.RowKit

theorem batchUpserts_wf : Rows.batchUpsertsRow.wf (OpenSpec.ofChange Rows.batchUpsertsSpec) = true := by kernel_rfl
theorem batchUpserts_params : Tryz.f3.params.all (Tryz.pinned.checked.prog.readableRec ·) = true := by kernel_rfl
theorem batchUpserts_tied : namedTie Tryz.pinned.checked.prog Rows.batchUpsertsRow.named Rows.batchUpsertsSpec.vars = true := by kernel_rfl
theorem batchUpserts_inPlace : (Rows.batchUpsertsRow.inPlace == Tryz.pinned.checked.prog.inPlace 3) = true := by kernel_rfl
theorem batchUpserts_unfollowed : (Rows.batchUpsertsRow.unfollowed == Tryz.pinned.checked.prog.unfollowed 3) = true := by kernel_rfl
theorem batchUpserts_recurses : (Rows.batchUpsertsRow.recurses == Tryz.pinned.checked.prog.recurses 3) = true := by kernel_rfl
theorem batchUpserts_varsNamed : (Rows.batchUpsertsRow.named == Tryz.pinned.checked.prog.varsNamed 3) = true := by kernel_rfl
theorem batchUpserts_found : Tryz.pinned.checked.prog.funcNamed Rows.batchUpsertsRow.func = some 3 := by kernel_rfl
theorem batchUpserts_wrapper : Tryz.f3.isWrapper Tryz.pinned.checked.prog Rows.batchUpsertsRow.wrapper Rows.batchUpsertsRow.mainSum := by
  unfold Func.isWrapper; first | (rw [if_pos (by decide +kernel)]; kernel_rfl) | (rw [if_neg (by decide +kernel)]; exact ⟨rfl, rfl⟩)
theorem batchUpserts_maps : (Rows.batchUpsertsRow.maps == (Tryz.f3.params.toList ++ Rows.batchUpsertsSpec.plain.varTypes Tryz.pinned.checked.prog).any (Tryz.pinned.checked.prog.mapsRec ·)) = true := by kernel_rfl
theorem batchUpserts_ifaces : (Rows.batchUpsertsRow.ifaces == (Tryz.f3.params.toList ++ Rows.batchUpsertsSpec.plain.varTypes Tryz.pinned.checked.prog).any (Tryz.pinned.checked.prog.ifacesRec ·)) = true := by kernel_rfl
theorem batchUpserts_mapsOut : (Rows.batchUpsertsRow.mapsOut == Tryz.pinned.checked.prog.mapsAmong Tryz.f3.resultTypes.toList) = true := by kernel_rfl
theorem batchUpserts_loops : (Rows.batchUpsertsRow.loops == (Tryz.f3.params.toList ++ Rows.batchUpsertsSpec.plain.varTypes Tryz.pinned.checked.prog).any (Tryz.pinned.checked.prog.loopsFrom ·)) = true := by kernel_rfl
theorem batchUpserts_wideKeys : (Rows.batchUpsertsRow.wideKeys == (Tryz.f3.params.toList ++ Rows.batchUpsertsSpec.plain.varTypes Tryz.pinned.checked.prog ++ Tryz.f3.resultTypes.toList).any (Tryz.pinned.checked.prog.wideKeysFrom ·)) = true := by kernel_rfl
theorem batchUpserts_vars : Rows.batchUpsertsSpec.vars.all (Tryz.pinned.checked.prog.varReadable ·) = true := by kernel_rfl
theorem batchUpserts_results : Tryz.f3.resultTypes.all (fun t => Tryz.pinned.checked.prog.readableRec t && decide (t < Tryz.pinned.checked.prog.types.size)) = true := by kernel_rfl
theorem batchUpserts_ifacesOut : (Rows.batchUpsertsRow.ifacesOut == Tryz.f3.resultTypes.toList.any (Tryz.pinned.checked.prog.ifacesRec ·)) = true := by kernel_rfl
theorem batchUpserts_loopsOut : (Rows.batchUpsertsRow.loopsOut == Tryz.f3.resultTypes.toList.any (Tryz.pinned.checked.prog.loopsFrom ·)) = true := by kernel_rfl
theorem batchUpserts_make : (Tryz.pinned.checked.prog.make == some Rows.batchUpsertsRow.make) = true := by kernel_rfl
theorem batchUpserts_pinnedBy : (Rows.batchUpsertsRow.pinned == Rows.batchUpsertsRow.pinnedBy) = true := by kernel_rfl
theorem batchUpserts_veiled : (Rows.batchUpsertsRow.veiled == (Tryz.f3.params.toList ++ Rows.batchUpsertsSpec.plain.varTypes Tryz.pinned.checked.prog ++ Tryz.f3.resultTypes.toList).any (Tryz.pinned.checked.prog.veiledRec ·)) = true := by kernel_rfl
theorem batchUpserts_fits : Rows.batchUpsertsRow.veiledFits Tryz.pinned.checked.prog Tryz.f3.params.toList (Tryz.f3.params.toList ++ Rows.batchUpsertsSpec.plain.varTypes Tryz.pinned.checked.prog ++ Tryz.f3.resultTypes.toList) = true := by kernel_rfl
theorem batchUpserts_stops : (Rows.batchUpsertsRow.stops == []) = true := by kernel_rfl
theorem batchUpserts_stopsP : (Tryz.pinned.checked.prog.stops == []) = true := beq_iff_eq.2 fact_stops
theorem batchUpserts_knobs : (Rows.batchUpsertsRow.knobs == []) = true := by kernel_rfl
theorem batchUpserts_knobsP : (Tryz.pinned.checked.prog.stopKnobs == []) = true := beq_iff_eq.2 fact_knobs
theorem batchUpserts_plainKeys : (Rows.batchUpsertsRow.plainKeys == Tryz.pinned.checked.prog.plainKeys) = true := beq_iff_eq.2 (Eq.trans (by kernel_rfl) fact_plain.symm)
theorem batchUpserts_short : Rows.batchUpsertsRow.shortTexts.isNone = true := by kernel_rfl
theorem batchUpserts_liftedF : (Rows.batchUpsertsRow.lifted == Tryz.pinned.checked.prog.liftsFinal) = true := beq_iff_eq.2 (Eq.trans (by kernel_rfl) fact_lifts.symm)
theorem batchUpserts_facts : joinedFacts Tryz.pinned.checked.prog 3 Tryz.f3 Rows.batchUpsertsSpec Rows.batchUpsertsRow = true := by
  unfold joinedFacts
  simp only [Bool.and_eq_true]
  exact ⟨⟨⟨⟨⟨⟨⟨⟨⟨⟨⟨⟨⟨⟨⟨⟨⟨⟨⟨⟨⟨⟨⟨⟨⟨⟨⟨⟨⟨⟨⟨batchUpserts_wf, fact_laidout⟩, fact_mapsrowed⟩, batchUpserts_params⟩, batchUpserts_tied⟩, batchUpserts_stops⟩, batchUpserts_stopsP⟩, batchUpserts_knobs⟩, batchUpserts_knobsP⟩, batchUpserts_inPlace⟩, batchUpserts_unfollowed⟩, batchUpserts_recurses⟩, batchUpserts_varsNamed⟩, batchUpserts_maps⟩, batchUpserts_ifaces⟩, batchUpserts_mapsOut⟩, batchUpserts_loops⟩, batchUpserts_wideKeys⟩, batchUpserts_vars⟩, batchUpserts_results⟩, batchUpserts_ifacesOut⟩, batchUpserts_loopsOut⟩, batchUpserts_plainKeys⟩, batchUpserts_short⟩, fact_heard⟩, fact_may⟩, batchUpserts_liftedF⟩, batchUpserts_make⟩, (by kernel_rfl)⟩, batchUpserts_pinnedBy⟩, batchUpserts_veiled⟩, batchUpserts_fits⟩

end Go.Proofs.YtjhknhgkjfabaaaGreatDoor

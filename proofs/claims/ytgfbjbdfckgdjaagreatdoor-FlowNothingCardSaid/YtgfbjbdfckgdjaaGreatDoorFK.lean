/-
  FlowNothing, part 3: the row and its tied card. Conditions: the listed variables of Go's library hold what the program's text lays.
-/
import Derived.Test.YtgfbjbdfckgdjaaGreatDoorCards
import Derived.Test.YtgfbjbdfckgdjaaGreatDoorTC
import Derived.Test.YtgfbjbdfckgdjaaGreatDoorFP
import Derived.Test.YtgfbjbdfckgdjaaGreatDoorFQ
import Derived.ProofKit
import Derived.OpenShut
import Derived.LaidMore
import Derived.SevenTiedAt
import Derived.Stop.Joined
set_option linter.unusedSimpArgs false
set_option linter.unusedVariables false
namespace Go.Proofs.YtgfbjbdfckgdjaaGreatDoor
open Go.ChangeShapes Go.WideShapes Go.ChangeAt Go.RowKit

theorem flowNothing_row : Rows.FlowNothingSaid :=
  OpenClaim.holds_of_wide 3 Tryz.f3 rfl rfl rfl rfl rfl rfl rfl ⟨rfl, rfl, rfl, rfl, rfl⟩ rfl rfl rfl rfl rfl flowNothing_found Tryz.func3 flowNothing_facts
    (of_decide_eq_true (by kernel_rfl)) flowNothing_wrapper
    (fun os started H enc _ => flowNothing_lifted os started H enc)
theorem flowNothing_goes : false = Rows.flowNothingRow.goesBy Tryz.pinned.checked.prog := (goesAt_none fact_goes _ _).symm
theorem flowNothing_wfText : Rows.flowNothingRow.wfByText (OpenSpec.ofChange Rows.flowNothingSpec) = true := by kernel_rfl
theorem flowNothing_stand : ([25].all fun u => !Tryz.prog.wantsStandIn u) = true := by kernel_rfl
theorem flowNothing_holds : Rows.FlowNothingCardSaid :=
  Claim7.holds_tied_plain_at .later [] [.data, .data, .data, .data, .sentinel, .sentinel, .pinned] true (true, "966759c304079f7e09c1a177b1a1ea983b942ebda661e9926508e3cdcf837014") true flowNothing_row (fun _ h => by cases h) flowNothing_wfText (fun _ h => by cases h) flowNothing_row_tie rfl ⟨rfl, rfl⟩ fact_main rfl
    (fun f fn hf hfn => by
      obtain rfl : f = 3 := Option.some.inj (flowNothing_found.symm.trans hf) |>.symm
      obtain rfl : fn = Tryz.f3 := (Option.some.inj (Tryz.func3.symm.trans hfn)).symm
      exact ⟨fact_looks, fun j t ht => by
        rw [Tryz.params3] at ht
        have hm : t ∈ [25] := by simpa using Array.mem_of_getElem? ht
        exact (show Tryz.prog.wantsStandIn t = false by simpa using List.all_eq_true.1 flowNothing_stand t hm)⟩)
    flowNothing_goes

end Go.Proofs.YtgfbjbdfckgdjaaGreatDoor

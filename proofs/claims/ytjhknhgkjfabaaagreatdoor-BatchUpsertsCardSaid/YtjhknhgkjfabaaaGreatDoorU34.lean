/-
 BatchUpserts, part 3: the row and its tied card. If the listed variables of Go's library hold what the program's text lays.
-/
import Derived.Test.YtjhknhgkjfabaaaGreatDoorCards
import Derived.Test.YtjhknhgkjfabaaaGreatDoorU07
import Derived.Test.YtjhknhgkjfabaaaGreatDoorU32
import Derived.Test.YtjhknhgkjfabaaaGreatDoorU33
import Derived.ProofKit
import Derived.OpenShut
import Derived.LaidMore
import Derived.SevenTiedAt
import Derived.Stop.Joined
set_option linter.unusedSimpArgs false
set_option linter.unusedVariables false
set_option linter.unusedSimpArgs false
set_option linter.unusedVariables false
namespace Go.Proofs.YtjhknhgkjfabaaaGreatDoor
open Go.ChangeShapes Go.WideShapes Go.ChangeAt Go.RowKit

theorem batchUpserts_row : Rows.BatchUpsertsSaid :=
  OpenClaim.holds_of_wide 3 Tryz.f3 rfl rfl rfl rfl rfl rfl rfl ⟨rfl, rfl, rfl, rfl, rfl⟩ rfl rfl rfl rfl rfl batchUpserts_found Tryz.func3 batchUpserts_facts
    (of_decide_eq_true (by kernel_rfl)) batchUpserts_wrapper
    (fun os started H enc _ => batchUpserts_lifted os started H enc)
theorem batchUpserts_goes : false = Rows.batchUpsertsRow.goesBy Tryz.pinned.checked.prog := (goesAt_none fact_goes _ _).symm
theorem batchUpserts_wfText : Rows.batchUpsertsRow.wfByText (OpenSpec.ofChange Rows.batchUpsertsSpec) = true := by kernel_rfl
theorem batchUpserts_stand : ([22, 23].all fun u => !Tryz.prog.wantsStandIn u) = true := by kernel_rfl
theorem batchUpserts_holds : Rows.BatchUpsertsCardSaid :=
  Claim7.holds_tied_plain_at .later [] [.sentinel, .sentinel, .data, .data, .data, .pinned, .data] true (true, "c498785e80d8b85437951933524259cc442b90c0ddf346d790fd387b04a58c49") true batchUpserts_row (fun _ h => by cases h) batchUpserts_wfText (fun _ h => by cases h) batchUpserts_row_tie rfl ⟨rfl, rfl⟩ fact_main rfl
    (fun f fn hf hfn => by
      obtain rfl : f = 3 := Option.some.inj (batchUpserts_found.symm.trans hf) |>.symm
      obtain rfl : fn = Tryz.f3 := (Option.some.inj (Tryz.func3.symm.trans hfn)).symm
      exact ⟨fact_looks, fun j t ht => by
        rw [Tryz.params3] at ht
        have hm : t ∈ [22, 23] := by simpa using Array.mem_of_getElem? ht
        exact (show Tryz.prog.wantsStandIn t = false by simpa using List.all_eq_true.1 batchUpserts_stand t hm)⟩)
    batchUpserts_goes

end Go.Proofs.YtjhknhgkjfabaaaGreatDoor

import Derived.Test.YtiabkalmkneogaaGreatDoorRows
import Derived.Test.YtiabkalmkneogaaGreatDoorChecked
import Derived.ProofKit
import Derived.Stop.Joined
import Derived.JoinedOf
import Derived.SevenTiedAt
namespace Go.Proofs.YtiabkalmkneogaaGreatDoor
theorem fact_laidout : laidOutB Tryz.pinned.checked.prog = true := by kernel_rfl
theorem fact_mapsrowed : mapsRowed Tryz.pinned.checked.prog = true := by kernel_rfl
theorem fact_stops : Tryz.pinned.checked.prog.stops = [] := by kernel_rfl
theorem fact_knobs : Tryz.pinned.checked.prog.stopKnobs = [] := by kernel_rfl
theorem fact_plain : Tryz.pinned.checked.prog.plainKeys = true := by kernel_rfl
theorem fact_heard : Tryz.pinned.checked.prog.stopsHeard = true := by kernel_rfl
theorem fact_may : Tryz.pinned.checked.prog.mayEnter = true := by kernel_rfl
theorem fact_lifts : Tryz.pinned.checked.prog.liftsFinal = false := by kernel_rfl
theorem fact_main : Tryz.pinned.checked.prog.mainIs = some (true, "cf28e94c594faf050c4f339aef1dd091b8fcc0c9bbb653a2dd5215aa584507c0".toList) := by kernel_rfl
theorem fact_looks : true = Tryz.pinned.checked.prog.looks [] := by kernel_rfl
end Go.Proofs.YtiabkalmkneogaaGreatDoor

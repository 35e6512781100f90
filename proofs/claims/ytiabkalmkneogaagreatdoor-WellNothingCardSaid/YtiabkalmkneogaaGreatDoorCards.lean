/-
  DERIVED. GIVEN WITH THE SEED: THE CARDS: each row of YtiabkalmkneogaaGreatDoorRows.lean that lists a variable, with what it lists TIED to the program's text (the seventh form; the later family's looks); each row that meets fmt, with fmt's text TOLD by the authors' own Lean function (tested against real Go, not proved from fmt's source: count such statements apart). THE CARD IS WHAT COUNTS. Prove the row's statement (the work); the ties are given (YtiabkalmkneogaaGreatDoorTie.lean); close each card by the builder's one call (the guide's Derived/Test/ToyasCard.lean, 'card_holds'). Laid BY PROGRAM, IN A SANDBOX (cutbox-door.mjs). By AI agents, Wed Nov 11 2026. No macro, syntax, notation, axiom, sorry.
-/
import Derived.Test.YtiabkalmkneogaaGreatDoorRows
import GoSem.ClaimSeven
namespace Go.Proofs.YtiabkalmkneogaaGreatDoor
namespace Rows

/-- THE TIED CARD OF 'tidewrightlaw22.WellOnce'. -/
def wellOnceCard : Claim7 := { stood := { row := wellOnceRow, standIns := [], harness := (true, "cf28e94c594faf050c4f339aef1dd091b8fcc0c9bbb653a2dd5215aa584507c0"), looks := true }, kinds := [], alts := [], laidByText := true, laidKinds := [.data, .data, .data, .data, .sentinel, .sentinel, .pinned], laidTests := true, laidLooks := .later }
def WellOnceCardSaid : Prop := Claim7.holds Tryz.pinned (.plain (OpenSpec.ofChange wellOnceSpec)) wellOnceCard

/-- THE TIED CARD OF 'tidewrightlaw22.WellNothing'. -/
def wellNothingCard : Claim7 := { stood := { row := wellNothingRow, standIns := [], harness := (true, "cf28e94c594faf050c4f339aef1dd091b8fcc0c9bbb653a2dd5215aa584507c0"), looks := true }, kinds := [], alts := [], laidByText := true, laidKinds := [.data, .data, .data, .data, .sentinel, .sentinel, .pinned], laidTests := true, laidLooks := .later }
def WellNothingCardSaid : Prop := Claim7.holds Tryz.pinned (.plain (OpenSpec.ofChange wellNothingSpec)) wellNothingCard

/-- THE TIED CARD OF 'tidewrightlaw22.WellRuns'. -/
def wellRunsCard : Claim7 := { stood := { row := wellRunsRow, standIns := [], harness := (true, "cf28e94c594faf050c4f339aef1dd091b8fcc0c9bbb653a2dd5215aa584507c0"), looks := true }, kinds := [], alts := [], laidByText := true, laidKinds := [.data, .data, .data, .data, .sentinel, .sentinel, .pinned], laidTests := true, laidLooks := .later }
def WellRunsCardSaid : Prop := Claim7.holds Tryz.pinned (.plain (OpenSpec.ofChange wellRunsSpec)) wellRunsCard

/-- THE TIED CARD OF 'tidewrightlaw22.WellRestores'. -/
def wellRestoresCard : Claim7 := { stood := { row := wellRestoresRow, standIns := [], harness := (true, "cf28e94c594faf050c4f339aef1dd091b8fcc0c9bbb653a2dd5215aa584507c0"), looks := true }, kinds := [], alts := [], laidByText := true, laidKinds := [.data, .data, .data, .data, .sentinel, .sentinel, .pinned], laidTests := true, laidLooks := .later }
def WellRestoresCardSaid : Prop := Claim7.holds Tryz.pinned (.plain (OpenSpec.ofChange wellRestoresSpec)) wellRestoresCard

/-- THE SECOND FORM's CARD OF 'tidewrightlaw22.WellOnce'. -/
def wellOnceUptoCard : Claim7 := { stood := { row := wellOnceUptoRow, standIns := [], harness := (true, "cf28e94c594faf050c4f339aef1dd091b8fcc0c9bbb653a2dd5215aa584507c0"), looks := true }, kinds := [], alts := [], laidByText := true, laidKinds := [.data, .data, .data, .data, .sentinel, .sentinel, .pinned], laidTests := true, laidLooks := .later }
def WellOnceUptoCardSaid : Prop := Claim7.holds Tryz.pinned (.plain (OpenSpec.upto wellOnceSpec)) wellOnceUptoCard

/-- THE SECOND FORM's CARD OF 'tidewrightlaw22.WellNothing'. -/
def wellNothingUptoCard : Claim7 := { stood := { row := wellNothingUptoRow, standIns := [], harness := (true, "cf28e94c594faf050c4f339aef1dd091b8fcc0c9bbb653a2dd5215aa584507c0"), looks := true }, kinds := [], alts := [], laidByText := true, laidKinds := [.data, .data, .data, .data, .sentinel, .sentinel, .pinned], laidTests := true, laidLooks := .later }
def WellNothingUptoCardSaid : Prop := Claim7.holds Tryz.pinned (.plain (OpenSpec.upto wellNothingSpec)) wellNothingUptoCard

/-- THE SECOND FORM's CARD OF 'tidewrightlaw22.WellRuns'. -/
def wellRunsUptoCard : Claim7 := { stood := { row := wellRunsUptoRow, standIns := [], harness := (true, "cf28e94c594faf050c4f339aef1dd091b8fcc0c9bbb653a2dd5215aa584507c0"), looks := true }, kinds := [], alts := [], laidByText := true, laidKinds := [.data, .data, .data, .data, .sentinel, .sentinel, .pinned], laidTests := true, laidLooks := .later }
def WellRunsUptoCardSaid : Prop := Claim7.holds Tryz.pinned (.plain (OpenSpec.upto wellRunsSpec)) wellRunsUptoCard

/-- THE SECOND FORM's CARD OF 'tidewrightlaw22.WellRestores'. -/
def wellRestoresUptoCard : Claim7 := { stood := { row := wellRestoresUptoRow, standIns := [], harness := (true, "cf28e94c594faf050c4f339aef1dd091b8fcc0c9bbb653a2dd5215aa584507c0"), looks := true }, kinds := [], alts := [], laidByText := true, laidKinds := [.data, .data, .data, .data, .sentinel, .sentinel, .pinned], laidTests := true, laidLooks := .later }
def WellRestoresUptoCardSaid : Prop := Claim7.holds Tryz.pinned (.plain (OpenSpec.upto wellRestoresSpec)) wellRestoresUptoCard
end Rows
end Go.Proofs.YtiabkalmkneogaaGreatDoor

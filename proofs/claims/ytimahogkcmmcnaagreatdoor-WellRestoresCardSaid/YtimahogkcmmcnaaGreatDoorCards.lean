/-
  DERIVED. GIVEN WITH THE SEED: THE CARDS: each row of YtimahogkcmmcnaaGreatDoorRows.lean that lists a variable, with what it lists TIED to the program's text (the seventh form; the later family's looks); each row that meets fmt, with fmt's text TOLD by the authors' own Lean function (tested against real Go, not proved from fmt's source: count such statements apart). THE CARD IS WHAT COUNTS. Prove the row's statement (the work); the ties are given (YtimahogkcmmcnaaGreatDoorTie.lean); close each card by the builder's one call (the guide's Derived/Test/ToyasCard.lean, 'card_holds'). Laid BY PROGRAM, IN A SANDBOX (cutbox-door.mjs). By AI agents, Wed Nov 11 2026. No macro, syntax, notation, axiom, sorry.
-/
import Derived.Test.YtimahogkcmmcnaaGreatDoorRows
import GoSem.ClaimSeven
namespace Go.Proofs.YtimahogkcmmcnaaGreatDoor
namespace Rows

/-- THE TIED CARD OF 'tidewrightlaw08.MotifOrders'. -/
def motifOrdersCard : Claim7 := { stood := { row := motifOrdersRow, standIns := [], harness := (true, "ba7069e71abb1c892517ba5f93fabb029ec9dc4e1feff656df06738ef640ec5c"), looks := true }, kinds := [], alts := [], laidByText := true, laidKinds := [.data, .data, .data, .data, .sentinel, .sentinel, .pinned], laidTests := true, laidLooks := .later }
def MotifOrdersCardSaid : Prop := Claim7.holds Tryz.pinned (.plain (OpenSpec.ofChange motifOrdersSpec)) motifOrdersCard

/-- THE TIED CARD OF 'tidewrightlaw22.WellOnce'. -/
def wellOnceCard : Claim7 := { stood := { row := wellOnceRow, standIns := [], harness := (true, "ba7069e71abb1c892517ba5f93fabb029ec9dc4e1feff656df06738ef640ec5c"), looks := true }, kinds := [], alts := [], laidByText := true, laidKinds := [.data, .data, .data, .data, .sentinel, .sentinel, .pinned], laidTests := true, laidLooks := .later }
def WellOnceCardSaid : Prop := Claim7.holds Tryz.pinned (.plain (OpenSpec.ofChange wellOnceSpec)) wellOnceCard

/-- THE TIED CARD OF 'tidewrightlaw22.WellRuns'. -/
def wellRunsCard : Claim7 := { stood := { row := wellRunsRow, standIns := [], harness := (true, "ba7069e71abb1c892517ba5f93fabb029ec9dc4e1feff656df06738ef640ec5c"), looks := true }, kinds := [], alts := [], laidByText := true, laidKinds := [.data, .data, .data, .data, .sentinel, .sentinel, .pinned], laidTests := true, laidLooks := .later }
def WellRunsCardSaid : Prop := Claim7.holds Tryz.pinned (.plain (OpenSpec.ofChange wellRunsSpec)) wellRunsCard

/-- THE TIED CARD OF 'tidewrightlaw22.WellRestores'. -/
def wellRestoresCard : Claim7 := { stood := { row := wellRestoresRow, standIns := [], harness := (true, "ba7069e71abb1c892517ba5f93fabb029ec9dc4e1feff656df06738ef640ec5c"), looks := true }, kinds := [], alts := [], laidByText := true, laidKinds := [.data, .data, .data, .data, .sentinel, .sentinel, .pinned], laidTests := true, laidLooks := .later }
def WellRestoresCardSaid : Prop := Claim7.holds Tryz.pinned (.plain (OpenSpec.ofChange wellRestoresSpec)) wellRestoresCard

/-- THE TIED CARD OF 'tidewrightlaw16.QuerySame'. -/
def querySameCard : Claim7 := { stood := { row := querySameRow, standIns := [], harness := (true, "ba7069e71abb1c892517ba5f93fabb029ec9dc4e1feff656df06738ef640ec5c"), looks := true }, kinds := [], alts := [], laidByText := true, laidKinds := [.data, .data, .data, .data, .sentinel, .sentinel, .pinned], laidTests := true, laidLooks := .later }
def QuerySameCardSaid : Prop := Claim7.holds Tryz.pinned (.plain (OpenSpec.ofChange querySameSpec)) querySameCard

/-- THE SECOND FORM's CARD OF 'tidewrightlaw08.MotifOrders'. -/
def motifOrdersUptoCard : Claim7 := { stood := { row := motifOrdersUptoRow, standIns := [], harness := (true, "ba7069e71abb1c892517ba5f93fabb029ec9dc4e1feff656df06738ef640ec5c"), looks := true }, kinds := [], alts := [], laidByText := true, laidKinds := [.data, .data, .data, .data, .sentinel, .sentinel, .pinned], laidTests := true, laidLooks := .later }
def MotifOrdersUptoCardSaid : Prop := Claim7.holds Tryz.pinned (.plain (OpenSpec.upto motifOrdersSpec)) motifOrdersUptoCard

/-- THE SECOND FORM's CARD OF 'tidewrightlaw22.WellOnce'. -/
def wellOnceUptoCard : Claim7 := { stood := { row := wellOnceUptoRow, standIns := [], harness := (true, "ba7069e71abb1c892517ba5f93fabb029ec9dc4e1feff656df06738ef640ec5c"), looks := true }, kinds := [], alts := [], laidByText := true, laidKinds := [.data, .data, .data, .data, .sentinel, .sentinel, .pinned], laidTests := true, laidLooks := .later }
def WellOnceUptoCardSaid : Prop := Claim7.holds Tryz.pinned (.plain (OpenSpec.upto wellOnceSpec)) wellOnceUptoCard

/-- THE SECOND FORM's CARD OF 'tidewrightlaw22.WellRuns'. -/
def wellRunsUptoCard : Claim7 := { stood := { row := wellRunsUptoRow, standIns := [], harness := (true, "ba7069e71abb1c892517ba5f93fabb029ec9dc4e1feff656df06738ef640ec5c"), looks := true }, kinds := [], alts := [], laidByText := true, laidKinds := [.data, .data, .data, .data, .sentinel, .sentinel, .pinned], laidTests := true, laidLooks := .later }
def WellRunsUptoCardSaid : Prop := Claim7.holds Tryz.pinned (.plain (OpenSpec.upto wellRunsSpec)) wellRunsUptoCard

/-- THE SECOND FORM's CARD OF 'tidewrightlaw22.WellRestores'. -/
def wellRestoresUptoCard : Claim7 := { stood := { row := wellRestoresUptoRow, standIns := [], harness := (true, "ba7069e71abb1c892517ba5f93fabb029ec9dc4e1feff656df06738ef640ec5c"), looks := true }, kinds := [], alts := [], laidByText := true, laidKinds := [.data, .data, .data, .data, .sentinel, .sentinel, .pinned], laidTests := true, laidLooks := .later }
def WellRestoresUptoCardSaid : Prop := Claim7.holds Tryz.pinned (.plain (OpenSpec.upto wellRestoresSpec)) wellRestoresUptoCard

/-- THE SECOND FORM's CARD OF 'tidewrightlaw16.QuerySame'. -/
def querySameUptoCard : Claim7 := { stood := { row := querySameUptoRow, standIns := [], harness := (true, "ba7069e71abb1c892517ba5f93fabb029ec9dc4e1feff656df06738ef640ec5c"), looks := true }, kinds := [], alts := [], laidByText := true, laidKinds := [.data, .data, .data, .data, .sentinel, .sentinel, .pinned], laidTests := true, laidLooks := .later }
def QuerySameUptoCardSaid : Prop := Claim7.holds Tryz.pinned (.plain (OpenSpec.upto querySameSpec)) querySameUptoCard
end Rows
end Go.Proofs.YtimahogkcmmcnaaGreatDoor

/-
  DERIVED. GIVEN WITH THE SEED: THE CARDS: each row of YtgfbjbdfckgdjaaGreatDoorRows.lean that lists a variable, with what it lists TIED to the program's text (the seventh form; the later family's looks); each row that meets fmt, with fmt's text TOLD by the authors' own Lean function (tested against real Go, not proved from fmt's source: count such statements apart). THE CARD IS WHAT COUNTS. Prove the row's statement (the work); the ties are given (YtgfbjbdfckgdjaaGreatDoorTie.lean); close each card by the builder's one call (the guide's Derived/Test/ToyasCard.lean, 'card_holds'). Laid BY PROGRAM, IN A SANDBOX (cutbox-door.mjs). By AI agents, Wed Nov 11 2026. No macro, syntax, notation, axiom, sorry.
-/
import Derived.Test.YtgfbjbdfckgdjaaGreatDoorRows
import GoSem.ClaimSeven
namespace Go.Proofs.YtgfbjbdfckgdjaaGreatDoor
namespace Rows

/-- THE TIED CARD OF 'tidewrightlaw25.FlowNothing'. -/
def flowNothingCard : Claim7 := { stood := { row := flowNothingRow, standIns := [], harness := (true, "966759c304079f7e09c1a177b1a1ea983b942ebda661e9926508e3cdcf837014"), looks := true }, kinds := [], alts := [], laidByText := true, laidKinds := [.data, .data, .data, .data, .sentinel, .sentinel, .pinned], laidTests := true, laidLooks := .later }
def FlowNothingCardSaid : Prop := Claim7.holds Tryz.pinned (.plain (OpenSpec.ofChange flowNothingSpec)) flowNothingCard

/-- THE SECOND FORM's CARD OF 'tidewrightlaw25.FlowNothing'. -/
def flowNothingUptoCard : Claim7 := { stood := { row := flowNothingUptoRow, standIns := [], harness := (true, "966759c304079f7e09c1a177b1a1ea983b942ebda661e9926508e3cdcf837014"), looks := true }, kinds := [], alts := [], laidByText := true, laidKinds := [.data, .data, .data, .data, .sentinel, .sentinel, .pinned], laidTests := true, laidLooks := .later }
def FlowNothingUptoCardSaid : Prop := Claim7.holds Tryz.pinned (.plain (OpenSpec.upto flowNothingSpec)) flowNothingUptoCard
end Rows
end Go.Proofs.YtgfbjbdfckgdjaaGreatDoor

/-
  DERIVED. GIVEN WITH THE SEED: THE CARDS: each row of YtjhknhgkjfabaaaGreatDoorRows.lean that lists a variable, with what it lists TIED to the program's text (the seventh form; the later family's looks); each row that meets fmt, with fmt's text TOLD by the authors' own Lean function (tested against real Go, not proved from fmt's source: count such statements apart). THE CARD IS WHAT COUNTS. Prove the row's statement (the work); the ties are given (YtjhknhgkjfabaaaGreatDoorTie.lean); close each card by the builder's one call (the guide's Derived/Test/ToyasCard.lean, 'card_holds'). Laid BY PROGRAM, IN A SANDBOX (cutbox-door.mjs). By AI agents, Wed Nov 11 2026. No macro, syntax, notation, axiom, sorry.
-/
import Derived.Test.YtjhknhgkjfabaaaGreatDoorRows
import GoSem.ClaimSeven
namespace Go.Proofs.YtjhknhgkjfabaaaGreatDoor
namespace Rows

/-- THE TIED CARD OF 'tidewrightlaw18.BatchUpserts'. -/
def batchUpsertsCard : Claim7 := { stood := { row := batchUpsertsRow, standIns := [], harness := (true, "c498785e80d8b85437951933524259cc442b90c0ddf346d790fd387b04a58c49"), looks := true }, kinds := [], alts := [], laidByText := true, laidKinds := [.sentinel, .sentinel, .data, .data, .data, .pinned, .data], laidTests := true, laidLooks := .later }
def BatchUpsertsCardSaid : Prop := Claim7.holds Tryz.pinned (.plain (OpenSpec.ofChange batchUpsertsSpec)) batchUpsertsCard

/-- THE SECOND FORM's CARD OF 'tidewrightlaw18.BatchUpserts'. -/
def batchUpsertsUptoCard : Claim7 := { stood := { row := batchUpsertsUptoRow, standIns := [], harness := (true, "c498785e80d8b85437951933524259cc442b90c0ddf346d790fd387b04a58c49"), looks := true }, kinds := [], alts := [], laidByText := true, laidKinds := [.sentinel, .sentinel, .data, .data, .data, .pinned, .data], laidTests := true, laidLooks := .later }
def BatchUpsertsUptoCardSaid : Prop := Claim7.holds Tryz.pinned (.plain (OpenSpec.upto batchUpsertsSpec)) batchUpsertsUptoCard
end Rows
end Go.Proofs.YtjhknhgkjfabaaaGreatDoor

/-
  No cell of these rows narrows 'for every input' (looked for: loops, veiled, ifaces, maps, wideKeys, modest, calm, conditions, laid).
  DERIVED. THE GIVEN ROWS OF THIS SEAT. 7 by the template 'for every input the law returns true; each argument reads behind the call as it read before'; 0 by the template 'total and deterministic' (their statements: YtdnkfgnjeibjeaaTotals.lean).
  GIVEN WITH THE SEED: the statements are not yours to turn. If you find one false, say at which input.
  Laid BY PROGRAM, IN A SANDBOX (cutbox-rows.mjs): the forced cells as the released guide's own fill.sh prints them over the translation 0b33581d9b7b71b2… (all of the seat's roots in one cut). By AI agents, Wed Nov 11 2026. No macro, syntax, notation, axiom, sorry.
-/
import Derived.Test.YtdnkfgnjeibjeaaChecked
import GoSem.Claim
import GoSem.ClaimJoined
import GoSem.ClaimMapViews
import Derived.JoinedTies
import Derived.KernelRfl
namespace Go.Proofs.Ytdnkfgnjeibjeaa
/- THE CELL 'sum', in the pinned program and in every row, IS THE sha256 OF THE DUMP (.gsa) THAT YtdnkfgnjeibjeaaProg.lean LOADS. Nothing in Lean hashes anything: it is a label: what it is worth is what the hold of that sum in a sandbox is worth. -/
noncomputable def Try.pinned : Pinned := { name := "ytdnkfgnjeibjeaa", sum := "0b33581d9b7b71b21eb7a0ff7daa5f444fa882d6596a830fdb3110824735a95e", checked := Try.checked }
namespace Rows
def none {H : Type} : Left H := { results := [], args := [] }

/-- 'tidewrightlaw21.GateAlike': WHATEVER THE INPUT: true; the input reads as it did. -/
def gateAlikeSpec : ChangeSpec := { name := "gateAlike", fn := fun _ => fun
  | [d1, d2] => { results := [.lit (.bool true)], args := [d1, d2] }
  | _ => none }
def gateAlikeRow : OpenClaim := { program := "ytdnkfgnjeibjeaa", sum := "0b33581d9b7b71b21eb7a0ff7daa5f444fa882d6596a830fdb3110824735a95e", func := "tidewright/tidewrightlaw21.GateAlike", spec := "gateAlike", unfollowed := true, recurses := true, apart := false }
def GateAlikeSaid : Prop := gateAlikeRow.holds Try.pinned (OpenSpec.ofChange gateAlikeSpec)

/-- ITS FALSE NEIGHBOUR: 'it returns false'. Refute it at one input. -/
def gateAlikeWrong : ChangeSpec := { name := "gateAlike", fn := fun _ => fun
  | [d1, d2] => { results := [.lit (.bool false)], args := [d1, d2] }
  | _ => none }
def GateAlikeWrongFalsely : Prop := gateAlikeRow.holds Try.pinned (OpenSpec.ofChange gateAlikeWrong)

/-- 'tidewrightlaw21.GateNotes': WHATEVER THE INPUT: true; the input reads as it did. -/
def gateNotesSpec : ChangeSpec := { name := "gateNotes", fn := fun _ => fun
  | [d1, d2] => { results := [.lit (.bool true)], args := [d1, d2] }
  | _ => none }
def gateNotesRow : OpenClaim := { program := "ytdnkfgnjeibjeaa", sum := "0b33581d9b7b71b21eb7a0ff7daa5f444fa882d6596a830fdb3110824735a95e", func := "tidewright/tidewrightlaw21.GateNotes", spec := "gateNotes", unfollowed := true, recurses := true, apart := false }
def GateNotesSaid : Prop := gateNotesRow.holds Try.pinned (OpenSpec.ofChange gateNotesSpec)

/-- ITS FALSE NEIGHBOUR: 'it returns false'. Refute it at one input. -/
def gateNotesWrong : ChangeSpec := { name := "gateNotes", fn := fun _ => fun
  | [d1, d2] => { results := [.lit (.bool false)], args := [d1, d2] }
  | _ => none }
def GateNotesWrongFalsely : Prop := gateNotesRow.holds Try.pinned (OpenSpec.ofChange gateNotesWrong)

/-- 'tidewrightlaw21.GatePasses': WHATEVER THE INPUT: true; the input reads as it did. -/
def gatePassesSpec : ChangeSpec := { name := "gatePasses", fn := fun _ => fun
  | [d1, d2, d3] => { results := [.lit (.bool true)], args := [d1, d2, d3] }
  | _ => none }
def gatePassesRow : OpenClaim := { program := "ytdnkfgnjeibjeaa", sum := "0b33581d9b7b71b21eb7a0ff7daa5f444fa882d6596a830fdb3110824735a95e", func := "tidewright/tidewrightlaw21.GatePasses", spec := "gatePasses", unfollowed := true, recurses := true, apart := false }
def GatePassesSaid : Prop := gatePassesRow.holds Try.pinned (OpenSpec.ofChange gatePassesSpec)

/-- ITS FALSE NEIGHBOUR: 'it returns false'. Refute it at one input. -/
def gatePassesWrong : ChangeSpec := { name := "gatePasses", fn := fun _ => fun
  | [d1, d2, d3] => { results := [.lit (.bool false)], args := [d1, d2, d3] }
  | _ => none }
def GatePassesWrongFalsely : Prop := gatePassesRow.holds Try.pinned (OpenSpec.ofChange gatePassesWrong)

/-- 'tidewrightlaw21.GateRuns': WHATEVER THE INPUT: true; the input reads as it did. -/
def gateRunsSpec : ChangeSpec := { name := "gateRuns", fn := fun _ => fun
  | [d1, d2, d3] => { results := [.lit (.bool true)], args := [d1, d2, d3] }
  | _ => none }
def gateRunsRow : OpenClaim := { program := "ytdnkfgnjeibjeaa", sum := "0b33581d9b7b71b21eb7a0ff7daa5f444fa882d6596a830fdb3110824735a95e", func := "tidewright/tidewrightlaw21.GateRuns", spec := "gateRuns", unfollowed := true, recurses := true, apart := false }
def GateRunsSaid : Prop := gateRunsRow.holds Try.pinned (OpenSpec.ofChange gateRunsSpec)

/-- ITS FALSE NEIGHBOUR: 'it returns false'. Refute it at one input. -/
def gateRunsWrong : ChangeSpec := { name := "gateRuns", fn := fun _ => fun
  | [d1, d2, d3] => { results := [.lit (.bool false)], args := [d1, d2, d3] }
  | _ => none }
def GateRunsWrongFalsely : Prop := gateRunsRow.holds Try.pinned (OpenSpec.ofChange gateRunsWrong)

/-- 'tidewrightlaw21.GateNothing': WHATEVER THE INPUT: true; the input reads as it did. -/
def gateNothingSpec : ChangeSpec := { name := "gateNothing", fn := fun _ => fun
  | [d] => { results := [.lit (.bool true)], args := [d] }
  | _ => none }
def gateNothingRow : OpenClaim := { program := "ytdnkfgnjeibjeaa", sum := "0b33581d9b7b71b21eb7a0ff7daa5f444fa882d6596a830fdb3110824735a95e", func := "tidewright/tidewrightlaw21.GateNothing", spec := "gateNothing", unfollowed := true, recurses := true, apart := false }
def GateNothingSaid : Prop := gateNothingRow.holds Try.pinned (OpenSpec.ofChange gateNothingSpec)

/-- ITS FALSE NEIGHBOUR: 'it returns false'. Refute it at one input. -/
def gateNothingWrong : ChangeSpec := { name := "gateNothing", fn := fun _ => fun
  | [d] => { results := [.lit (.bool false)], args := [d] }
  | _ => none }
def GateNothingWrongFalsely : Prop := gateNothingRow.holds Try.pinned (OpenSpec.ofChange gateNothingWrong)

/-- 'tidewrightlaw21.GateAligned': WHATEVER THE INPUT: true; the input reads as it did. -/
def gateAlignedSpec : ChangeSpec := { name := "gateAligned", fn := fun _ => fun
  | [d1, d2] => { results := [.lit (.bool true)], args := [d1, d2] }
  | _ => none }
def gateAlignedRow : OpenClaim := { program := "ytdnkfgnjeibjeaa", sum := "0b33581d9b7b71b21eb7a0ff7daa5f444fa882d6596a830fdb3110824735a95e", func := "tidewright/tidewrightlaw21.GateAligned", spec := "gateAligned", unfollowed := true, recurses := true, apart := false }
def GateAlignedSaid : Prop := gateAlignedRow.holds Try.pinned (OpenSpec.ofChange gateAlignedSpec)

/-- ITS FALSE NEIGHBOUR: 'it returns false'. Refute it at one input. -/
def gateAlignedWrong : ChangeSpec := { name := "gateAligned", fn := fun _ => fun
  | [d1, d2] => { results := [.lit (.bool false)], args := [d1, d2] }
  | _ => none }
def GateAlignedWrongFalsely : Prop := gateAlignedRow.holds Try.pinned (OpenSpec.ofChange gateAlignedWrong)

/-- 'tidewrightlaw21.GateCuts': WHATEVER THE INPUT: true; the input reads as it did. -/
def gateCutsSpec : ChangeSpec := { name := "gateCuts", fn := fun _ => fun
  | [d1, d2, d3] => { results := [.lit (.bool true)], args := [d1, d2, d3] }
  | _ => none }
def gateCutsRow : OpenClaim := { program := "ytdnkfgnjeibjeaa", sum := "0b33581d9b7b71b21eb7a0ff7daa5f444fa882d6596a830fdb3110824735a95e", func := "tidewright/tidewrightlaw21.GateCuts", spec := "gateCuts", unfollowed := true, recurses := true, apart := false }
def GateCutsSaid : Prop := gateCutsRow.holds Try.pinned (OpenSpec.ofChange gateCutsSpec)

/-- ITS FALSE NEIGHBOUR: 'it returns false'. Refute it at one input. -/
def gateCutsWrong : ChangeSpec := { name := "gateCuts", fn := fun _ => fun
  | [d1, d2, d3] => { results := [.lit (.bool false)], args := [d1, d2, d3] }
  | _ => none }
def GateCutsWrongFalsely : Prop := gateCutsRow.holds Try.pinned (OpenSpec.ofChange gateCutsWrong)

/- THE SECOND FORM. 'bulk': how many values and letters a reading holds, each counted each time it is reached (what is shared counts as often as it is met; a slice's spare places count too). A statement '..UptoSaid' is the law's where the arguments, and the package variables that the reading takes, are together of bulk at most 1048576: NARROWER than '..Said'. Prove '..Said' where nothing that the law and all that it calls make is longer than what came in: it says more and counts as full. Else prove '..UptoSaid'. A law counts once. -/
mutual
def uptoBulk {H : Type} : DataW H → Nat
  | .lit (.string bytes) => bytes.length + 1
  | .lit _ => 1
  | .nil => 1
  | .ptr d => uptoBulk d + 1
  | .slice elems spare => uptoBulkAll elems + uptoBulkAll spare + 1
  | .agg parts => uptoBulkAll parts + 1
  | .iface _ d => uptoBulk d + 1
  | .map entries => uptoBulkEntries entries + 1
  | .held _ => 1
def uptoBulkAll {H : Type} : List (DataW H) → Nat
  | [] => 0
  | d :: r => uptoBulk d + uptoBulkAll r
def uptoBulkEntries {H : Type} : List (Lit × DataW H) → Nat
  | [] => 0
  | x :: r => uptoBulkEntry x + uptoBulkEntries r
def uptoBulkEntry {H : Type} : Lit × DataW H → Nat
  | (.string bytes, d) => bytes.length + uptoBulk d + 1
  | (_, d) => uptoBulk d + 1
 end
def uptoSmall : (H : Type) → List (DataW H) → Bool := fun _ ds => decide (uptoBulkAll ds ≤ 1048576)
def OpenSpec.upto (s : _root_.Go.ChangeSpec) : _root_.Go.OpenSpec := { _root_.Go.OpenSpec.ofChange s with cond := some uptoSmall }

/-- 'tidewrightlaw21.GateAlike', WHERE WHAT IT READS IS OF BULK AT MOST 1048576: true; the input reads as it did. -/
def gateAlikeUptoRow : OpenClaim := { program := "ytdnkfgnjeibjeaa", sum := "0b33581d9b7b71b21eb7a0ff7daa5f444fa882d6596a830fdb3110824735a95e", func := "tidewright/tidewrightlaw21.GateAlike", spec := "gateAlike", unfollowed := true, recurses := true, apart := false, narrowed := true }
def GateAlikeUptoSaid : Prop := gateAlikeUptoRow.holds Try.pinned (OpenSpec.upto gateAlikeSpec)

/-- 'tidewrightlaw21.GateNotes', WHERE WHAT IT READS IS OF BULK AT MOST 1048576: true; the input reads as it did. -/
def gateNotesUptoRow : OpenClaim := { program := "ytdnkfgnjeibjeaa", sum := "0b33581d9b7b71b21eb7a0ff7daa5f444fa882d6596a830fdb3110824735a95e", func := "tidewright/tidewrightlaw21.GateNotes", spec := "gateNotes", unfollowed := true, recurses := true, apart := false, narrowed := true }
def GateNotesUptoSaid : Prop := gateNotesUptoRow.holds Try.pinned (OpenSpec.upto gateNotesSpec)

/-- 'tidewrightlaw21.GatePasses', WHERE WHAT IT READS IS OF BULK AT MOST 1048576: true; the input reads as it did. -/
def gatePassesUptoRow : OpenClaim := { program := "ytdnkfgnjeibjeaa", sum := "0b33581d9b7b71b21eb7a0ff7daa5f444fa882d6596a830fdb3110824735a95e", func := "tidewright/tidewrightlaw21.GatePasses", spec := "gatePasses", unfollowed := true, recurses := true, apart := false, narrowed := true }
def GatePassesUptoSaid : Prop := gatePassesUptoRow.holds Try.pinned (OpenSpec.upto gatePassesSpec)

/-- 'tidewrightlaw21.GateRuns', WHERE WHAT IT READS IS OF BULK AT MOST 1048576: true; the input reads as it did. -/
def gateRunsUptoRow : OpenClaim := { program := "ytdnkfgnjeibjeaa", sum := "0b33581d9b7b71b21eb7a0ff7daa5f444fa882d6596a830fdb3110824735a95e", func := "tidewright/tidewrightlaw21.GateRuns", spec := "gateRuns", unfollowed := true, recurses := true, apart := false, narrowed := true }
def GateRunsUptoSaid : Prop := gateRunsUptoRow.holds Try.pinned (OpenSpec.upto gateRunsSpec)

/-- 'tidewrightlaw21.GateNothing', WHERE WHAT IT READS IS OF BULK AT MOST 1048576: true; the input reads as it did. -/
def gateNothingUptoRow : OpenClaim := { program := "ytdnkfgnjeibjeaa", sum := "0b33581d9b7b71b21eb7a0ff7daa5f444fa882d6596a830fdb3110824735a95e", func := "tidewright/tidewrightlaw21.GateNothing", spec := "gateNothing", unfollowed := true, recurses := true, apart := false, narrowed := true }
def GateNothingUptoSaid : Prop := gateNothingUptoRow.holds Try.pinned (OpenSpec.upto gateNothingSpec)

/-- 'tidewrightlaw21.GateAligned', WHERE WHAT IT READS IS OF BULK AT MOST 1048576: true; the input reads as it did. -/
def gateAlignedUptoRow : OpenClaim := { program := "ytdnkfgnjeibjeaa", sum := "0b33581d9b7b71b21eb7a0ff7daa5f444fa882d6596a830fdb3110824735a95e", func := "tidewright/tidewrightlaw21.GateAligned", spec := "gateAligned", unfollowed := true, recurses := true, apart := false, narrowed := true }
def GateAlignedUptoSaid : Prop := gateAlignedUptoRow.holds Try.pinned (OpenSpec.upto gateAlignedSpec)

/-- 'tidewrightlaw21.GateCuts', WHERE WHAT IT READS IS OF BULK AT MOST 1048576: true; the input reads as it did. -/
def gateCutsUptoRow : OpenClaim := { program := "ytdnkfgnjeibjeaa", sum := "0b33581d9b7b71b21eb7a0ff7daa5f444fa882d6596a830fdb3110824735a95e", func := "tidewright/tidewrightlaw21.GateCuts", spec := "gateCuts", unfollowed := true, recurses := true, apart := false, narrowed := true }
def GateCutsUptoSaid : Prop := gateCutsUptoRow.holds Try.pinned (OpenSpec.upto gateCutsSpec)

end Rows
end Go.Proofs.Ytdnkfgnjeibjeaa

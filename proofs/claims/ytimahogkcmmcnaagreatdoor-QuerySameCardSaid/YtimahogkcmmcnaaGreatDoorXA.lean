/-
  QuerySame's example, part A: it proves what calls within it come to, each evaluated by itself. No conditions.
-/
import Derived.Test.YtimahogkcmmcnaaGreatDoorXS
set_option linter.unusedSimpArgs false
set_option linter.unusedVariables false
namespace Go.Proofs.YtimahogkcmmcnaaGreatDoor
open Go.RowKit
set_option maxHeartbeats 1000000
set_option maxRecDepth 100000
def q1 : Ev.Memo where
  f := 92
  args := [(.str [115, 111, 117, 114, 99, 101, 32, 115, 32, 40, 107, 32, 116, 101, 120, 116, 44, 32, 118, 32, 105, 110, 116, 41, 32, 98, 111, 117, 110, 100, 32, 53, 10, 103, 114, 111, 117, 112, 32, 103, 32, 111, 102, 32, 115, 32, 98, 121, 32, 107, 32, 119, 105, 110, 100, 111, 119, 32, 123, 116, 117, 109, 98, 108, 105, 110, 103, 32, 49, 48, 32, 48, 125, 32, 123, 115, 117, 109, 32, 118, 125, 32, 97, 115, 32, 116, 111, 116, 97, 108, 10, 115, 105, 110, 107, 32, 111, 117, 116, 32, 111, 102, 32, 103, 32, 97, 112, 112, 101, 110, 100, 10])]
  n := 1
  old := [(0, .anyInt)]
  v := (.tuple [(.slice (some (214, 0)) 3 3), (.int .i64 0), (.int .i64 0)])
  m := 224
  new := [(214, .row [(.int .i64 1), (.str [115]), (.slice none 0 0), (.slice (some (19, 0)) 2 2), (.int .i64 5), (.str []), (.slice none 0 0), (.slice none 0 0), (.slice none 0 0), (.int .i64 0), (.int .i64 0), (.int .i64 0), (.int .i64 0), (.int .i64 0), (.slice none 0 0), (.slice none 0 0), (.int .i64 0), (.int .i64 0), (.slice none 0 0), (.bool false), (.int .i64 0), (.int .i64 0), (.slice none 0 0), (.int .i64 0), (.int .i64 0), (.int .i64 5), (.str [103]), (.slice (some (75, 0)) 1 1), (.slice none 0 0), (.int .i64 0), (.str []), (.slice none 0 0), (.slice (some (83, 0)) 1 1), (.slice none 0 0), (.int .i64 1), (.int .i64 10), (.int .i64 0), (.int .i64 0), (.int .i64 0), (.slice (some (116, 0)) 1 1), (.slice (some (118, 0)) 1 1), (.int .i64 0), (.int .i64 0), (.slice none 0 0), (.bool false), (.int .i64 0), (.int .i64 0), (.slice none 0 0), (.int .i64 0), (.int .i64 0), (.int .i64 9), (.str [111, 117, 116]), (.slice (some (189, 0)) 1 1), (.slice none 0 0), (.int .i64 0), (.str []), (.slice none 0 0), (.slice none 0 0), (.slice none 0 0), (.int .i64 0), (.int .i64 0), (.int .i64 0), (.int .i64 0), (.int .i64 0), (.slice none 0 0), (.slice none 0 0), (.int .i64 0), (.int .i64 0), (.slice none 0 0), (.bool false), (.int .i64 0), (.int .i64 1), (.slice none 0 0), (.int .i64 0), (.int .i64 0)] 167 true 25), (19, .row [(.str [107]), (.int .i64 2), (.str [118]), (.int .i64 1)] 71 true 2), (75, .row [(.int .i64 0)] 3 false 1), (83, .row [(.int .i64 0)] 3 true 1), (116, .row [(.int .i64 3), (.int .i64 1)] 243 true 2), (118, .row [(.str [116, 111, 116, 97, 108])] 9 true 1), (189, .row [(.int .i64 1)] 3 false 1)]

theorem q1_says : q1.says (Ev.ofProgX Tryz.prog 1 258) [] 5000 60 = true := by kernel_rfl

end Go.Proofs.YtimahogkcmmcnaaGreatDoor

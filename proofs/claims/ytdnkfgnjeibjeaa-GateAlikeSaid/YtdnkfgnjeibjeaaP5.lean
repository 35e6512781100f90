import Derived.Test.YtdnkfgnjeibjeaaA2
import Derived.ProofKit
namespace Go.Proofs.Ytdnkfgnjeibjeaa
theorem Try.own : ownKnob Try.prog.godebug = none := by kernel_rfl
theorem Try.laidOut : laidOutB Try.prog = true := by kernel_rfl
end Go.Proofs.Ytdnkfgnjeibjeaa

/- The evaluator's answers for MatchKnown: by the kernel's own reckoning. No conditions. -/
import Derived.Test.YtidpamcogkonnaaGreatDoorOrcMatchKnown
namespace Go.Proofs.YtidpamcogkonnaaGreatDoor.Ev.TMatchKnown
set_option maxRecDepth 100000
theorem ok : okV (.bool true) ((evT env O2 1000).call 4 [] s0) = true := by decide +kernel
end Go.Proofs.YtidpamcogkonnaaGreatDoor.Ev.TMatchKnown

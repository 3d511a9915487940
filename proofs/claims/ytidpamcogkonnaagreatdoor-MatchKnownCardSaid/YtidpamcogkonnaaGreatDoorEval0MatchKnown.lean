/- The evaluator's answers for MatchKnown: by the kernel's own reckoning. No conditions. -/
import Derived.Test.YtidpamcogkonnaaGreatDoorOrcMatchKnown
namespace Go.Proofs.YtidpamcogkonnaaGreatDoor.Ev.TMatchKnown
set_option maxRecDepth 100000
theorem e0_0 : okV (.bool true) ((evT env noO 1000).call 12 [.str [40, 101, 108, 115, 101, 32, 120, 41], .str [40, 111, 116, 104, 101, 114, 32, 49, 41], .lst 1 true [.str [101, 108, 115, 101]]] s0) = true := by decide +kernel
theorem e0_1 : okV (.bool true) ((evT env noO 1000).call 12 [.str [40, 120, 32, 121, 41], .str [40, 49, 41], .nils] s0) = true := by decide +kernel
theorem e0_2 : okV (.bool true) ((evT env noO 1000).call 12 [.str [35, 40, 120, 41], .str [35, 40, 49, 32, 50, 41], .nils] s0) = true := by decide +kernel
theorem e0_3 : okV (.bool true) ((evT env noO 1000).call 12 [.str [40, 120, 32, 49, 41], .str [40, 49, 32, 50, 41], .nils] s0) = true := by decide +kernel
end Go.Proofs.YtidpamcogkonnaaGreatDoor.Ev.TMatchKnown

/- The evaluator's answers for MatchKnown: by the kernel's own reckoning. No conditions. -/
import Derived.Test.YtidpamcogkonnaaGreatDoorOrcMatchKnown
namespace Go.Proofs.YtidpamcogkonnaaGreatDoor.Ev.TMatchKnown
set_option maxRecDepth 100000
theorem e2_0 : okV (.bool true) ((evT env O1 1000).call 13 [.str [40, 120, 32, 121, 32, 46, 46, 46, 41], .str [40, 49, 32, 50, 32, 51, 41], .str [40, 40, 121, 32, 120, 41, 32, 46, 46, 46, 41], .str [40, 40, 50, 32, 49, 41, 32, 40, 51, 32, 49, 41, 41], .nils] s0) = true := by decide +kernel
theorem e2_1 : okV (.bool true) ((evT env O1 1000).call 13 [.str [40, 40, 120, 32, 118, 41, 32, 46, 46, 46, 32, 98, 41], .str [40, 40, 97, 32, 49, 41, 32, 40, 99, 32, 50, 41, 32, 100, 41], .str [40, 98, 32, 40, 118, 32, 46, 46, 46, 41, 32, 120, 32, 46, 46, 46, 41], .str [40, 100, 32, 40, 49, 32, 50, 41, 32, 97, 32, 99, 41], .nils] s0) = true := by decide +kernel
theorem e2_2 : okV (.bool true) ((evT env O1 1000).call 13 [.str [40, 101, 108, 115, 101, 32, 120, 41], .str [40, 101, 108, 115, 101, 32, 49, 41], .str [120], .str [49], .lst 1 true [.str [101, 108, 115, 101]]] s0) = true := by decide +kernel
theorem e2_3 : okV (.bool true) ((evT env O1 1000).call 13 [.str [40, 120, 32, 46, 32, 114, 41], .str [40, 49, 32, 50, 32, 46, 32, 51, 41], .str [40, 114, 32, 120, 41], .str [40, 40, 50, 32, 46, 32, 51, 41, 32, 49, 41], .nils] s0) = true := by decide +kernel
theorem e2_4 : okV (.bool true) ((evT env O1 1000).call 13 [.str [35, 40, 120, 32, 46, 46, 46, 32, 49, 41], .str [35, 40, 53, 32, 54, 32, 49, 41], .str [40, 120, 32, 46, 46, 46, 41], .str [40, 53, 32, 54, 41], .nils] s0) = true := by decide +kernel
theorem e2_5 : okV (.bool true) ((evT env O1 1000).call 13 [.str [40, 95, 32, 46, 46, 46, 41], .str [40, 41], .str [53], .str [53], .nils] s0) = true := by decide +kernel
end Go.Proofs.YtidpamcogkonnaaGreatDoor.Ev.TMatchKnown

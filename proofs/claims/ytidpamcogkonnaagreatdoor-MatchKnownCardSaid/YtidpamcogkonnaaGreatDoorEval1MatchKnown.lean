/- The evaluator's answers for MatchKnown: by the kernel's own reckoning. No conditions. -/
import Derived.Test.YtidpamcogkonnaaGreatDoorOrcMatchKnown
namespace Go.Proofs.YtidpamcogkonnaaGreatDoor.Ev.TMatchKnown
set_option maxRecDepth 100000
theorem e1_0 : okV (.bool true) ((evT env O0 1000).call 14 [.str [40, 120, 32, 120, 41], .str [49]] s0) = true := by decide +kernel
theorem e1_1 : okV (.bool true) ((evT env O0 1000).call 14 [.str [40, 46, 46, 46, 32, 120, 41], .str [49]] s0) = true := by decide +kernel
theorem e1_2 : okV (.bool true) ((evT env O0 1000).call 14 [.str [40, 120, 32, 46, 46, 46, 32, 121, 32, 46, 46, 46, 41], .str [49]] s0) = true := by decide +kernel
theorem e1_3 : okV (.bool true) ((evT env O0 1000).call 14 [.str [40, 120, 41], .str [40, 120, 32, 46, 46, 46, 41]] s0) = true := by decide +kernel
theorem e1_4 : okV (.bool true) ((evT env O0 1000).call 14 [.str [40, 120, 32, 46, 46, 46, 41], .str [120]] s0) = true := by decide +kernel
theorem e1_5 : okV (.bool true) ((evT env O0 1000).call 14 [.str [40, 120, 32, 46, 46, 46, 41], .str [40, 120, 32, 46, 46, 46, 32, 46, 46, 46, 41]] s0) = true := by decide +kernel
theorem e1_6 : okV (.bool false) ((evT env O0 1000).call 14 [.str [40, 120, 32, 46, 46, 46, 41], .str [40, 40, 120, 32, 49, 41, 32, 46, 46, 46, 41]] s0) = true := by decide +kernel
theorem e1_7 : okV (.bool false) ((evT env O0 1000).call 14 [.str [40, 40, 120, 32, 46, 46, 46, 41, 32, 46, 46, 46, 41], .str [40, 120, 32, 46, 46, 46, 32, 46, 46, 46, 41]] s0) = true := by decide +kernel
end Go.Proofs.YtidpamcogkonnaaGreatDoor.Ev.TMatchKnown

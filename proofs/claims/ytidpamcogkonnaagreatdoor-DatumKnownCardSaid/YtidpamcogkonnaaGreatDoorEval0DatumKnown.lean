/- The evaluator's answers for DatumKnown: by the kernel's own reckoning. No conditions. -/
import Derived.Test.YtidpamcogkonnaaGreatDoorOrcDatumKnown
namespace Go.Proofs.YtidpamcogkonnaaGreatDoor.Ev.TDatumKnown
set_option maxRecDepth 100000
theorem e0_0 : okV (.bool true) ((evT env noO 1000).call 8 [.str [40, 97], .int .i64 (.ofNat 7), .int .i64 (.ofNat 0)] s0) = true := by decide +kernel
theorem e0_1 : okV (.bool true) ((evT env noO 1000).call 8 [.str [97, 32, 41], .int .i64 (.ofNat 7), .int .i64 (.ofNat 2)] s0) = true := by decide +kernel
theorem e0_2 : okV (.bool true) ((evT env noO 1000).call 8 [.str [40, 97, 32, 46, 32, 98, 32, 99, 41], .int .i64 (.ofNat 7), .int .i64 (.ofNat 7)] s0) = true := by decide +kernel
theorem e0_3 : okV (.bool true) ((evT env noO 1000).call 8 [.str [40, 46, 32, 97, 41], .int .i64 (.ofNat 7), .int .i64 (.ofNat 1)] s0) = true := by decide +kernel
theorem e0_4 : okV (.bool true) ((evT env noO 1000).call 8 [.str [35, 117, 56, 40, 50, 53, 54, 41], .int .i64 (.ofNat 7), .int .i64 (.ofNat 4)] s0) = true := by decide +kernel
theorem e0_5 : okV (.bool true) ((evT env noO 1000).call 8 [.str [39], .int .i64 (.ofNat 7), .int .i64 (.ofNat 0)] s0) = true := by decide +kernel
theorem e0_6 : okV (.bool true) ((evT env noO 1000).call 8 [.str [35, 40, 97, 32, 46, 32, 98, 41], .int .i64 (.ofNat 7), .int .i64 (.ofNat 4)] s0) = true := by decide +kernel
theorem e0_7 : okV (.bool true) ((evT env noO 1000).call 8 [.str [40, 97, 32, 46, 41], .int .i64 (.ofNat 7), .int .i64 (.ofNat 4)] s0) = true := by decide +kernel
end Go.Proofs.YtidpamcogkonnaaGreatDoor.Ev.TDatumKnown

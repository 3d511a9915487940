/- The evaluator's answers for DatumKnown: by the kernel's own reckoning. No conditions. -/
import Derived.Test.YtidpamcogkonnaaGreatDoorOrcDatumKnown
namespace Go.Proofs.YtidpamcogkonnaaGreatDoor.Ev.TDatumKnown
set_option maxRecDepth 100000
theorem e1_0 : okV (.bool true) ((evT env O0 1000).call 10 [] s0) = true := by decide +kernel
end Go.Proofs.YtidpamcogkonnaaGreatDoor.Ev.TDatumKnown

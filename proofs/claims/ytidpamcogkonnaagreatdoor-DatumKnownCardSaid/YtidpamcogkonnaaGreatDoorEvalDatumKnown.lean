/- The evaluator's answers for DatumKnown: by the kernel's own reckoning. No conditions. -/
import Derived.Test.YtidpamcogkonnaaGreatDoorOrcDatumKnown
namespace Go.Proofs.YtidpamcogkonnaaGreatDoor.Ev.TDatumKnown
set_option maxRecDepth 100000
theorem ok : okV (.bool true) ((evT env O1 1000).call 3 [] s0) = true := by decide +kernel
end Go.Proofs.YtidpamcogkonnaaGreatDoor.Ev.TDatumKnown

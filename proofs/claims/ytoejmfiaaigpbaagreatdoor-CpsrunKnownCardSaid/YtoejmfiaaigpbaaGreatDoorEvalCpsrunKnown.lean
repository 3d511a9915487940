/- The evaluator answers true for CpsrunKnown: by the kernel's own reckoning. No conditions. -/
import Derived.Test.YtoejmfiaaigpbaaGreatDoorIrCpsrunKnown
namespace Go.Proofs.YtoejmfiaaigpbaaGreatDoor.Ev.TCpsrunKnown
def okR : Option (AV × St) → Bool
  | some (.bool true, _) => true
  | _ => false
theorem ok : okR ((ev env 1000).call 3 [] s0) = true := by decide +kernel
end Go.Proofs.YtoejmfiaaigpbaaGreatDoor.Ev.TCpsrunKnown

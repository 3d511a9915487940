/- The evaluator answers true for the small thing that the statement ends with (works): by the kernel's own reckoning. No conditions. -/
import Derived.Test.YtagpffdamckekaaGreatDoorIrDatumLists
namespace Go.Proofs.YtagpffdamckekaaGreatDoor.Ev.T
def okR : Option (AV × St) → Bool
  | some (.bool true, _) => true
  | _ => false
theorem ok : okR ((ev env 1000).call 5 [] s0) = true := by decide +kernel
end Go.Proofs.YtagpffdamckekaaGreatDoor.Ev.T

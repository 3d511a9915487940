/- The evaluator answers true for ClosureKnown: by the kernel's own reckoning. No conditions. -/
import Derived.Test.YtlhpgcdbfmohhaaGreatDoorIrClosureKnown
namespace Go.Proofs.YtlhpgcdbfmohhaaGreatDoor.Ev.TClosureKnown
def okR : Option (AV × St) → Bool
  | some (.bool true, _) => true
  | _ => false
theorem ok : okR ((ev env 1000).call 5 [] s0) = true := by decide +kernel
end Go.Proofs.YtlhpgcdbfmohhaaGreatDoor.Ev.TClosureKnown

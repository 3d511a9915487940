/- The evaluator answers true for ValueKnown: by the kernel's own reckoning. No conditions. -/
import Derived.Test.YtlhpgcdbfmohhaaGreatDoorIrValueKnown
namespace Go.Proofs.YtlhpgcdbfmohhaaGreatDoor.Ev.TValueKnown
def okR : Option (AV × St) → Bool
  | some (.bool true, _) => true
  | _ => false
theorem ok : okR ((ev env 1000).call 4 [] s0) = true := by decide +kernel
end Go.Proofs.YtlhpgcdbfmohhaaGreatDoor.Ev.TValueKnown

/- Of each function that ClosureConverts comes to: its code, as the evaluator reads it, is what the program's own text gives. No conditions. -/
import Derived.Test.YtbddpjboppmnfaaGreatDoorRows
import Derived.Test.YtbddpjboppmnfaaGreatDoorEvE
import Derived.Test.YtbddpjboppmnfaaGreatDoorIrClosureConverts
namespace Go.Proofs.YtbddpjboppmnfaaGreatDoor.Ev.T
set_option maxRecDepth 100000
set_option maxHeartbeats 4000000
open Go.Proofs.Tryz (prog)
theorem qO{k:Nat}{F:IFunc}(h:(prog.funcs[k]?).bind (dN prog)=some F):Q prog k F:=by
  obtain⟨f,h1,h2⟩:=Option.bind_eq_some_iff.1 h
  exact⟨f,h1,h2⟩
theorem tblOk:TOk (Q prog) 1 0 tbl:=by
  unfold tbl
  repeat' first|exact trivial|exact qO (by kernel_rfl)|refine And.intro ?_ ?_
end Go.Proofs.YtbddpjboppmnfaaGreatDoor.Ev.T

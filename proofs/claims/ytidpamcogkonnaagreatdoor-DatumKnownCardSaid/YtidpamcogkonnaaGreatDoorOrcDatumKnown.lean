/- The calls that are known ahead, for DatumKnown: data alone. -/
import Derived.Test.YtidpamcogkonnaaGreatDoorIrDatumKnown
import Derived.Test.YtidpamcogkonnaaGreatDoorEvG
namespace Go.Proofs.YtidpamcogkonnaaGreatDoor.Ev.TDatumKnown
set_option maxRecDepth 100000
noncomputable def L0 : List (List AV × AV) := [([.str [40, 97], .int .i64 (.ofNat 7), .int .i64 (.ofNat 0)], .bool true), ([.str [97, 32, 41], .int .i64 (.ofNat 7), .int .i64 (.ofNat 2)], .bool true), ([.str [40, 97, 32, 46, 32, 98, 32, 99, 41], .int .i64 (.ofNat 7), .int .i64 (.ofNat 7)], .bool true), ([.str [40, 46, 32, 97, 41], .int .i64 (.ofNat 7), .int .i64 (.ofNat 1)], .bool true), ([.str [35, 117, 56, 40, 50, 53, 54, 41], .int .i64 (.ofNat 7), .int .i64 (.ofNat 4)], .bool true), ([.str [39], .int .i64 (.ofNat 7), .int .i64 (.ofNat 0)], .bool true), ([.str [35, 40, 97, 32, 46, 32, 98, 41], .int .i64 (.ofNat 7), .int .i64 (.ofNat 4)], .bool true), ([.str [40, 97, 32, 46, 41], .int .i64 (.ofNat 7), .int .i64 (.ofNat 4)], .bool true)]
noncomputable def O0 : Orc := withO 8 L0 noO
noncomputable def L1 : List (List AV × AV) := [([], .bool true)]
noncomputable def O1 : Orc := withO 10 L1 O0
end Go.Proofs.YtidpamcogkonnaaGreatDoor.Ev.TDatumKnown

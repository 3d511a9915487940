/- Pieces of that code by name, and that they make it up. -/
import Derived.Test.YtagpffdamckekaaGreatDoorIrDatumLists
namespace Go.Proofs.YtagpffdamckekaaGreatDoor.Ev.T
set_option maxRecDepth 100000
def b4_0 : ICode := (.seq (.seq (.reg [⟨(some 12), .mv (.t 5), none⟩, ⟨(some 13), .fa 3 (.t 2), none⟩, ⟨(some 14), .ld (.t 13), none⟩, ⟨(some 15), .len .v (.t 14), none⟩, ⟨(some 16), .bin .lss (.t 12) (.t 15), none⟩, ⟨(some 17), .mv (.t 16), none⟩, ⟨(some 18), .mv (.t 1), (some (17, true))⟩, ⟨(some 19), .bin .gtr (.t 18) (.c (.int .i64 (.ofNat 0))), (some (17, true))⟩, ⟨(some 20), .pick (.t 17) (.t 19) (.c (.bool false)), none⟩])
 (.cond (.t 20) .skip (.exit 0)))
 (.seq (.block 1 (.reg [⟨(some 23), .fa 3 (.t 2), none⟩, ⟨(some 24), .ld (.t 23), none⟩, ⟨(some 25), .mv (.t 5), none⟩, ⟨(some 26), .ia 5 (.t 24) (.t 25), none⟩, ⟨(some 27), .ldn 5 (.t 26), none⟩, ⟨(some 28), .mv (.t 1), none⟩, ⟨(some 29), .call 4 [(.t 27), (.t 28)], none⟩, ⟨(some 1), .mv (.t 29), none⟩]))
 (.reg [⟨(some 21), .mv (.t 5), none⟩, ⟨(some 22), .bin .add (.t 21) (.c (.int .i64 (.ofNat 1))), none⟩, ⟨(some 5), .mv (.t 22), none⟩])))
theorem f4_eq : f4 = ⟨31, [.t 4], (.seq (.reg [⟨(some 2), .box 24 (.t 0), none⟩, ⟨(some 4), .mv (.c (.int .i64 (.ofNat 0))), none⟩])
 (.seq (.reg [⟨(some 6), .mv (.t 1), none⟩, ⟨(some 7), .bin .sub (.t 6) (.c (.int .i64 (.ofNat 1))), none⟩, ⟨(some 1), .mv (.t 7), none⟩])
 (.seq (.seq (.reg [⟨(some 8), .fa 2 (.t 2), none⟩, ⟨(some 9), .ld (.t 8), none⟩, ⟨(some 10), .len .s (.t 9), none⟩, ⟨(some 11), .bin .gtr (.t 10) (.c (.int .i64 (.ofNat 300))), none⟩])
 (.cond (.t 11) (.seq (.reg [⟨(some 4), .mv (.c (.int .i64 (.negSucc 0))), none⟩])
 .ret) .skip))
 (.seq (.seq (.reg [⟨(some 5), .mv (.c (.int .i64 (.ofNat 0))), none⟩])
 (.block 0 (.loop b4_0)))
 (.seq (.reg [⟨(some 30), .mv (.t 1), none⟩, ⟨(some 4), .mv (.t 30), none⟩])
 .ret)))))⟩ := rfl
def b22_0 : ICode := (.seq (.seq (.reg [⟨(some 7), .mv (.t 3), none⟩, ⟨(some 8), .bin .geq (.t 7) (.c (.int .i64 (.ofNat 0))), none⟩])
 (.cond (.t 8) .skip (.exit 0)))
 (.seq (.block 1 (.seq (.reg [⟨(some 11), .mv (.t 0), none⟩, ⟨(some 12), .mv (.t 3), none⟩, ⟨(some 13), .ld (.t 1), none⟩, ⟨(some 14), .mv (.t 3), none⟩, ⟨(some 15), .ia 5 (.t 13) (.t 14), none⟩, ⟨(some 16), .ldn 5 (.t 15), none⟩, ⟨(some 17), .cv (.t 11) [(.t 12), (.t 16)], none⟩, ⟨(some 18), .un .not (.t 17), none⟩])
 (.cond (.t 18) .ret .skip)))
 (.reg [⟨(some 9), .mv (.t 3), none⟩, ⟨(some 10), .bin .sub (.t 9) (.c (.int .i64 (.ofNat 1))), none⟩, ⟨(some 3), .mv (.t 10), none⟩])))
def A22 : ICode := (.seq (.reg [⟨(some 7), .mv (.t 3), none⟩, ⟨(some 8), .bin .geq (.t 7) (.c (.int .i64 (.ofNat 0))), none⟩])
 (.cond (.t 8) .skip (.exit 0)))
def P22 : ICode := (.block 1 (.seq (.reg [⟨(some 11), .mv (.t 0), none⟩, ⟨(some 12), .mv (.t 3), none⟩, ⟨(some 13), .ld (.t 1), none⟩, ⟨(some 14), .mv (.t 3), none⟩, ⟨(some 15), .ia 5 (.t 13) (.t 14), none⟩, ⟨(some 16), .ldn 5 (.t 15), none⟩, ⟨(some 17), .cv (.t 11) [(.t 12), (.t 16)], none⟩, ⟨(some 18), .un .not (.t 17), none⟩])
 (.cond (.t 18) .ret .skip)))
def I22 : ICode := (.reg [⟨(some 9), .mv (.t 3), none⟩, ⟨(some 10), .bin .sub (.t 9) (.c (.int .i64 (.ofNat 1))), none⟩, ⟨(some 3), .mv (.t 10), none⟩])
def R22_0 : ICode := (.reg [⟨(some 4), .ld (.t 1), none⟩, ⟨(some 5), .len .v (.t 4), none⟩, ⟨(some 6), .bin .sub (.t 5) (.c (.int .i64 (.ofNat 1))), none⟩, ⟨(some 3), .mv (.t 6), none⟩])
theorem b22_0_eq : b22_0 = .seq A22 (.seq P22 I22) := rfl
theorem f22_eq : f22 = ⟨19, [], (.seq R22_0
 (.block 0 (.loop b22_0)))⟩ := rfl
def b10_0 : ICode := (.seq (.seq (.reg [⟨(some 41), .mv (.t 5), none⟩, ⟨(some 42), .fa 3 (.t 2), none⟩, ⟨(some 43), .ld (.t 42), none⟩, ⟨(some 44), .len .v (.t 43), none⟩, ⟨(some 45), .bin .lss (.t 41) (.t 44), none⟩])
 (.cond (.t 45) .skip (.exit 0)))
 (.seq (.block 1 (.seq (.regd [⟨⟨(some 48), .fa 3 (.t 2), none⟩, 0⟩, ⟨⟨(some 49), .ld (.t 48), none⟩, 1⟩, ⟨⟨(some 50), .mv (.t 5), none⟩, 0⟩, ⟨⟨(some 51), .ia 5 (.t 49) (.t 50), none⟩, 7⟩, ⟨⟨(some 52), .ldn 5 (.t 51), none⟩, 15⟩, ⟨⟨(some 53), .fa 3 (.t 3), none⟩, 0⟩, ⟨⟨(some 54), .ld (.t 53), none⟩, 32⟩, ⟨⟨(some 55), .mv (.t 5), none⟩, 0⟩, ⟨⟨(some 56), .ia 5 (.t 54) (.t 55), none⟩, 224⟩, ⟨⟨(some 57), .ldn 5 (.t 56), none⟩, 480⟩, ⟨⟨(some 58), .call 10 [(.t 52), (.t 57)], none⟩, 1023⟩, ⟨⟨(some 59), .un .not (.t 58), none⟩, 2047⟩])
 (.cond (.t 59) (.seq (.reg [⟨(some 4), .mv (.c (.bool false)), none⟩])
 .ret) .skip)))
 (.reg [⟨(some 46), .mv (.t 5), none⟩, ⟨(some 47), .bin .add (.t 46) (.c (.int .i64 (.ofNat 1))), none⟩, ⟨(some 5), .mv (.t 47), none⟩])))
def APL : ICode := (.seq (.reg [⟨(some 41), .mv (.t 5), none⟩, ⟨(some 42), .fa 3 (.t 2), none⟩, ⟨(some 43), .ld (.t 42), none⟩, ⟨(some 44), .len .v (.t 43), none⟩, ⟨(some 45), .bin .lss (.t 41) (.t 44), none⟩])
 (.cond (.t 45) .skip (.exit 0)))
def RPL : List DOper := [⟨⟨(some 48), .fa 3 (.t 2), none⟩, 0⟩, ⟨⟨(some 49), .ld (.t 48), none⟩, 1⟩, ⟨⟨(some 50), .mv (.t 5), none⟩, 0⟩, ⟨⟨(some 51), .ia 5 (.t 49) (.t 50), none⟩, 7⟩, ⟨⟨(some 52), .ldn 5 (.t 51), none⟩, 15⟩, ⟨⟨(some 53), .fa 3 (.t 3), none⟩, 0⟩, ⟨⟨(some 54), .ld (.t 53), none⟩, 32⟩, ⟨⟨(some 55), .mv (.t 5), none⟩, 0⟩, ⟨⟨(some 56), .ia 5 (.t 54) (.t 55), none⟩, 224⟩, ⟨⟨(some 57), .ldn 5 (.t 56), none⟩, 480⟩, ⟨⟨(some 58), .call 10 [(.t 52), (.t 57)], none⟩, 1023⟩, ⟨⟨(some 59), .un .not (.t 58), none⟩, 2047⟩]
def IPL : ICode := (.reg [⟨(some 46), .mv (.t 5), none⟩, ⟨(some 47), .bin .add (.t 46) (.c (.int .i64 (.ofNat 1))), none⟩, ⟨(some 5), .mv (.t 47), none⟩])
def CPL : ICode := (.cond (.t 59) (.seq (.reg [⟨(some 4), .mv (.c (.bool false)), none⟩])
 .ret) .skip)
theorem b10_0_eq : b10_0 = .seq APL (.seq (.block 1 (.seq (.regd RPL) CPL)) IPL) := rfl
def HPL : ICode := (.seq (.reg [⟨(some 6), .fa 4 (.t 2), none⟩, ⟨(some 7), .ld (.t 6), none⟩, ⟨(some 8), .fa 4 (.t 3), none⟩, ⟨(some 9), .ld (.t 8), none⟩, ⟨(some 10), .bin .neq (.t 7) (.t 9), none⟩, ⟨(some 11), .mv (.t 10), none⟩, ⟨(some 12), .fa 0 (.t 2), (some (11, false))⟩, ⟨(some 13), .ld (.t 12), (some (11, false))⟩, ⟨(some 14), .fa 0 (.t 3), (some (11, false))⟩, ⟨(some 15), .ld (.t 14), (some (11, false))⟩, ⟨(some 16), .bin .neq (.t 13) (.t 15), (some (11, false))⟩, ⟨(some 17), .pick (.t 11) (.c (.bool true)) (.t 16), none⟩, ⟨(some 18), .mv (.t 17), none⟩, ⟨(some 19), .fa 1 (.t 2), (some (18, false))⟩, ⟨(some 20), .ld (.t 19), (some (18, false))⟩, ⟨(some 21), .fa 1 (.t 3), (some (18, false))⟩, ⟨(some 22), .ld (.t 21), (some (18, false))⟩, ⟨(some 23), .bin .neq (.t 20) (.t 22), (some (18, false))⟩, ⟨(some 24), .pick (.t 18) (.c (.bool true)) (.t 23), none⟩, ⟨(some 25), .mv (.t 24), none⟩, ⟨(some 26), .fa 2 (.t 2), (some (25, false))⟩, ⟨(some 27), .ld (.t 26), (some (25, false))⟩, ⟨(some 28), .fa 2 (.t 3), (some (25, false))⟩, ⟨(some 29), .ld (.t 28), (some (25, false))⟩, ⟨(some 30), .bin .neq (.t 27) (.t 29), (some (25, false))⟩, ⟨(some 31), .pick (.t 25) (.c (.bool true)) (.t 30), none⟩, ⟨(some 32), .mv (.t 31), none⟩, ⟨(some 33), .fa 3 (.t 2), (some (32, false))⟩, ⟨(some 34), .ld (.t 33), (some (32, false))⟩, ⟨(some 35), .len .v (.t 34), (some (32, false))⟩, ⟨(some 36), .fa 3 (.t 3), (some (32, false))⟩, ⟨(some 37), .ld (.t 36), (some (32, false))⟩, ⟨(some 38), .len .v (.t 37), (some (32, false))⟩, ⟨(some 39), .bin .neq (.t 35) (.t 38), (some (32, false))⟩, ⟨(some 40), .pick (.t 32) (.c (.bool true)) (.t 39), none⟩])
 (.cond (.t 40) (.seq (.reg [⟨(some 4), .mv (.c (.bool false)), none⟩])
 .ret) .skip))
def RPL0 : ICode := (.reg [⟨(some 2), .box 24 (.t 0), none⟩, ⟨(some 3), .box 24 (.t 1), none⟩, ⟨(some 4), .mv (.c (.bool false)), none⟩])
theorem f10_eq : f10 = ⟨60, [.t 4], (.seq RPL0
 (.seq HPL
 (.seq (.seq (.reg [⟨(some 5), .mv (.c (.int .i64 (.ofNat 0))), none⟩])
 (.block 0 (.loop b10_0)))
 (.seq (.reg [⟨(some 4), .mv (.c (.bool true)), none⟩])
 .ret))))⟩ := rfl
def b7_0 : ICode := (.seq (.seq (.reg [⟨(some 9), .mv (.t 5), none⟩, ⟨(some 10), .bin .geq (.t 9) (.c (.int .i64 (.ofNat 0))), none⟩])
 (.cond (.t 10) .skip (.exit 0)))
 (.seq (.block 1 (.regd [⟨⟨(some 13), .mv (.t 0), none⟩, 0⟩, ⟨⟨(some 14), .mv (.t 5), none⟩, 0⟩, ⟨⟨(some 15), .ia 5 (.t 13) (.t 14), none⟩, 3⟩, ⟨⟨(some 16), .ldn 5 (.t 15), none⟩, 7⟩, ⟨⟨(some 17), .ldn 5 (.t 3), none⟩, 0⟩, ⟨⟨(some 18), .bsl 24 [(.int .i64 (.ofNat 0)), (.int .i64 (.ofNat 0)), (.str []), .nils, (.int .i64 (.ofNat 0)), (.int .i64 (.ofNat 0)), (.int .i64 (.ofNat 0)), (.str []), .nils, (.int .i64 (.ofNat 0))] 2 [(0, 5, (.t 16)), (5, 5, (.t 17))], none⟩, 31⟩, ⟨⟨(some 19), .mv (.t 0), none⟩, 0⟩, ⟨⟨(some 20), .mv (.t 5), none⟩, 0⟩, ⟨⟨(some 21), .ia 5 (.t 19) (.t 20), none⟩, 192⟩, ⟨⟨(some 22), .fa 4 (.t 21), none⟩, 448⟩, ⟨⟨(some 23), .ld (.t 22), none⟩, 960⟩, ⟨⟨(some 24), .build [(.int .i64 (.ofNat 0)), (.int .i64 (.ofNat 0)), (.str []), .nils, (.int .i64 (.ofNat 0))] [(0, 1, (.c (.int .i64 (.ofNat 6)))), (3, 1, (.t 18)), (4, 1, (.t 23))], none⟩, 2047⟩, ⟨⟨none, .st 5 (.t 3) (.t 24), none⟩, 4095⟩]))
 (.reg [⟨(some 11), .mv (.t 5), none⟩, ⟨(some 12), .bin .sub (.t 11) (.c (.int .i64 (.ofNat 1))), none⟩, ⟨(some 5), .mv (.t 12), none⟩])))
def ARL : ICode := (.seq (.reg [⟨(some 9), .mv (.t 5), none⟩, ⟨(some 10), .bin .geq (.t 9) (.c (.int .i64 (.ofNat 0))), none⟩])
 (.cond (.t 10) .skip (.exit 0)))
def RRL : List DOper := [⟨⟨(some 13), .mv (.t 0), none⟩, 0⟩, ⟨⟨(some 14), .mv (.t 5), none⟩, 0⟩, ⟨⟨(some 15), .ia 5 (.t 13) (.t 14), none⟩, 3⟩, ⟨⟨(some 16), .ldn 5 (.t 15), none⟩, 7⟩, ⟨⟨(some 17), .ldn 5 (.t 3), none⟩, 0⟩, ⟨⟨(some 18), .bsl 24 [(.int .i64 (.ofNat 0)), (.int .i64 (.ofNat 0)), (.str []), .nils, (.int .i64 (.ofNat 0)), (.int .i64 (.ofNat 0)), (.int .i64 (.ofNat 0)), (.str []), .nils, (.int .i64 (.ofNat 0))] 2 [(0, 5, (.t 16)), (5, 5, (.t 17))], none⟩, 31⟩, ⟨⟨(some 19), .mv (.t 0), none⟩, 0⟩, ⟨⟨(some 20), .mv (.t 5), none⟩, 0⟩, ⟨⟨(some 21), .ia 5 (.t 19) (.t 20), none⟩, 192⟩, ⟨⟨(some 22), .fa 4 (.t 21), none⟩, 448⟩, ⟨⟨(some 23), .ld (.t 22), none⟩, 960⟩, ⟨⟨(some 24), .build [(.int .i64 (.ofNat 0)), (.int .i64 (.ofNat 0)), (.str []), .nils, (.int .i64 (.ofNat 0))] [(0, 1, (.c (.int .i64 (.ofNat 6)))), (3, 1, (.t 18)), (4, 1, (.t 23))], none⟩, 2047⟩, ⟨⟨none, .st 5 (.t 3) (.t 24), none⟩, 4095⟩]
def IRL : ICode := (.reg [⟨(some 11), .mv (.t 5), none⟩, ⟨(some 12), .bin .sub (.t 11) (.c (.int .i64 (.ofNat 1))), none⟩, ⟨(some 5), .mv (.t 12), none⟩])
theorem b7_0_eq : b7_0 = .seq ARL (.seq (.block 1 (.regd RRL)) IRL) := rfl
def RRL0 : ICode := (.reg [⟨(some 3), .box 24 (.t 1), none⟩, ⟨(some 4), .alloc 24 [(.int .i64 (.ofNat 0)), (.int .i64 (.ofNat 0)), (.str []), .nils, (.int .i64 (.ofNat 0))], none⟩])
def IRL0 : ICode := (.reg [⟨(some 6), .mv (.t 0), none⟩, ⟨(some 7), .len .v (.t 6), none⟩, ⟨(some 8), .bin .sub (.t 7) (.c (.int .i64 (.ofNat 1))), none⟩, ⟨(some 5), .mv (.t 8), none⟩])
def FRL : ICode := (.seq (.reg [⟨(some 25), .ldn 5 (.t 3), none⟩, ⟨none, .st 5 (.t 4) (.t 25), none⟩])
 .ret)
theorem f7_eq : f7 = ⟨26, [.cn 4 5], (.seq RRL0
 (.seq (.seq IRL0
 (.block 0 (.loop b7_0)))
 FRL))⟩ := rfl
def C8 : ICode := (.seq (.reg [⟨(some 4), .ldn 5 (.t 1), none⟩, ⟨(some 5), .call 15 [(.t 4)], none⟩])
 (.cond (.t 5) .skip (.exit 0)))
def P8 : ICode := (.reg [⟨(some 6), .mv (.t 2), none⟩, ⟨(some 7), .fa 3 (.t 1), none⟩, ⟨(some 8), .ld (.t 7), none⟩, ⟨(some 9), .ia 5 (.t 8) (.c (.int .i64 (.ofNat 0))), none⟩, ⟨(some 10), .ldn 5 (.t 9), none⟩, ⟨(some 11), .bsl 24 [(.int .i64 (.ofNat 0)), (.int .i64 (.ofNat 0)), (.str []), .nils, (.int .i64 (.ofNat 0))] 1 [(0, 5, (.t 10))], none⟩, ⟨(some 12), .app 24 5 64 (.t 6) (.t 11), none⟩, ⟨(some 2), .mv (.t 12), none⟩])
def Q8 : ICode := (.reg [⟨(some 13), .fa 3 (.t 1), none⟩, ⟨(some 14), .ld (.t 13), none⟩, ⟨(some 15), .ia 5 (.t 14) (.c (.int .i64 (.ofNat 1))), none⟩, ⟨(some 16), .ldn 5 (.t 15), none⟩, ⟨none, .st 5 (.t 1) (.t 16), none⟩])
def b8_0 : ICode := (.seq (.seq (.reg [⟨(some 4), .ldn 5 (.t 1), none⟩, ⟨(some 5), .call 15 [(.t 4)], none⟩])
 (.cond (.t 5) .skip (.exit 0)))
 (.block 1 (.seq (.reg [⟨(some 6), .mv (.t 2), none⟩, ⟨(some 7), .fa 3 (.t 1), none⟩, ⟨(some 8), .ld (.t 7), none⟩, ⟨(some 9), .ia 5 (.t 8) (.c (.int .i64 (.ofNat 0))), none⟩, ⟨(some 10), .ldn 5 (.t 9), none⟩, ⟨(some 11), .bsl 24 [(.int .i64 (.ofNat 0)), (.int .i64 (.ofNat 0)), (.str []), .nils, (.int .i64 (.ofNat 0))] 1 [(0, 5, (.t 10))], none⟩, ⟨(some 12), .app 24 5 64 (.t 6) (.t 11), none⟩, ⟨(some 2), .mv (.t 12), none⟩])
 (.reg [⟨(some 13), .fa 3 (.t 1), none⟩, ⟨(some 14), .ld (.t 13), none⟩, ⟨(some 15), .ia 5 (.t 14) (.c (.int .i64 (.ofNat 1))), none⟩, ⟨(some 16), .ldn 5 (.t 15), none⟩, ⟨none, .st 5 (.t 1) (.t 16), none⟩]))))
theorem b8_0_eq : b8_0 = .seq C8 (.block 1 (.seq P8 Q8)) := rfl
def R8_0 : ICode := (.reg [⟨(some 1), .box 24 (.t 0), none⟩, ⟨(some 2), .mv (.c .nils), none⟩, ⟨(some 3), .alloc 24 [(.int .i64 (.ofNat 0)), (.int .i64 (.ofNat 0)), (.str []), .nils, (.int .i64 (.ofNat 0))], none⟩])
def R8 : List DOper := [⟨⟨(some 17), .mv (.t 2), none⟩, 0⟩, ⟨⟨(some 18), .ldn 5 (.t 1), none⟩, 0⟩, ⟨⟨(some 2), .mv (.t 17), none⟩, 1⟩, ⟨⟨none, .st 5 (.t 3) (.t 18), none⟩, 7⟩]
theorem f8_eq : f8 = ⟨19, [.t 2, .cn 3 5], (.seq R8_0
 (.seq (.block 0 (.loop b8_0))
 (.seq (.regd R8)
 .ret)))⟩ := rfl
def C9 : ICode := (.seq (.reg [⟨(some 5), .fa 0 (.t 1), none⟩, ⟨(some 6), .ld (.t 5), none⟩, ⟨(some 7), .bin .eql (.t 6) (.c (.int .i64 (.ofNat 6))), none⟩, ⟨(some 8), .mv (.t 7), none⟩, ⟨(some 9), .fa 3 (.t 1), (some (8, true))⟩, ⟨(some 10), .ld (.t 9), (some (8, true))⟩, ⟨(some 11), .len .v (.t 10), (some (8, true))⟩, ⟨(some 12), .bin .eql (.t 11) (.c (.int .i64 (.ofNat 2))), (some (8, true))⟩, ⟨(some 13), .pick (.t 8) (.t 12) (.c (.bool false)), none⟩])
 (.cond (.t 13) .skip (.exit 0)))
def P9 : ICode := (.reg [⟨(some 14), .mv (.t 4), none⟩, ⟨(some 15), .fa 3 (.t 1), none⟩, ⟨(some 16), .ld (.t 15), none⟩, ⟨(some 17), .ia 5 (.t 16) (.c (.int .i64 (.ofNat 0))), none⟩, ⟨(some 18), .ldn 5 (.t 17), none⟩, ⟨(some 19), .bsl 24 [(.int .i64 (.ofNat 0)), (.int .i64 (.ofNat 0)), (.str []), .nils, (.int .i64 (.ofNat 0))] 1 [(0, 5, (.t 18))], none⟩, ⟨(some 20), .app 24 5 64 (.t 14) (.t 19), none⟩, ⟨(some 4), .mv (.t 20), none⟩])
def Q9 : ICode := (.reg [⟨(some 21), .fa 3 (.t 1), none⟩, ⟨(some 22), .ld (.t 21), none⟩, ⟨(some 23), .ia 5 (.t 22) (.c (.int .i64 (.ofNat 1))), none⟩, ⟨(some 24), .ldn 5 (.t 23), none⟩, ⟨none, .st 5 (.t 1) (.t 24), none⟩])
def b9_0 : ICode := (.seq (.seq (.reg [⟨(some 5), .fa 0 (.t 1), none⟩, ⟨(some 6), .ld (.t 5), none⟩, ⟨(some 7), .bin .eql (.t 6) (.c (.int .i64 (.ofNat 6))), none⟩, ⟨(some 8), .mv (.t 7), none⟩, ⟨(some 9), .fa 3 (.t 1), (some (8, true))⟩, ⟨(some 10), .ld (.t 9), (some (8, true))⟩, ⟨(some 11), .len .v (.t 10), (some (8, true))⟩, ⟨(some 12), .bin .eql (.t 11) (.c (.int .i64 (.ofNat 2))), (some (8, true))⟩, ⟨(some 13), .pick (.t 8) (.t 12) (.c (.bool false)), none⟩])
 (.cond (.t 13) .skip (.exit 0)))
 (.block 1 (.seq (.reg [⟨(some 14), .mv (.t 4), none⟩, ⟨(some 15), .fa 3 (.t 1), none⟩, ⟨(some 16), .ld (.t 15), none⟩, ⟨(some 17), .ia 5 (.t 16) (.c (.int .i64 (.ofNat 0))), none⟩, ⟨(some 18), .ldn 5 (.t 17), none⟩, ⟨(some 19), .bsl 24 [(.int .i64 (.ofNat 0)), (.int .i64 (.ofNat 0)), (.str []), .nils, (.int .i64 (.ofNat 0))] 1 [(0, 5, (.t 18))], none⟩, ⟨(some 20), .app 24 5 64 (.t 14) (.t 19), none⟩, ⟨(some 4), .mv (.t 20), none⟩])
 (.reg [⟨(some 21), .fa 3 (.t 1), none⟩, ⟨(some 22), .ld (.t 21), none⟩, ⟨(some 23), .ia 5 (.t 22) (.c (.int .i64 (.ofNat 1))), none⟩, ⟨(some 24), .ldn 5 (.t 23), none⟩, ⟨none, .st 5 (.t 1) (.t 24), none⟩]))))
theorem b9_0_eq : b9_0 = .seq C9 (.block 1 (.seq P9 Q9)) := rfl
def R9_0 : ICode := (.reg [⟨(some 1), .box 24 (.t 0), none⟩, ⟨(some 2), .mv (.c .nils), none⟩, ⟨(some 3), .alloc 24 [(.int .i64 (.ofNat 0)), (.int .i64 (.ofNat 0)), (.str []), .nils, (.int .i64 (.ofNat 0))], none⟩])
def R9_1 : ICode := (.reg [⟨(some 4), .mv (.c .nils), none⟩])
def R9 : List DOper := [⟨⟨(some 25), .mv (.t 4), none⟩, 0⟩, ⟨⟨(some 26), .ldn 5 (.t 1), none⟩, 0⟩, ⟨⟨(some 2), .mv (.t 25), none⟩, 1⟩, ⟨⟨none, .st 5 (.t 3) (.t 26), none⟩, 7⟩]
theorem f9_eq : f9 = ⟨27, [.t 2, .cn 3 5], (.seq R9_0
 (.seq R9_1
 (.seq (.block 0 (.loop b9_0))
 (.seq (.regd R9)
 .ret))))⟩ := rfl
def aLI : ICode := (.reg [⟨(some 6), .alloc 24 [(.int .i64 (.ofNat 0)), (.int .i64 (.ofNat 0)), (.str []), .nils, (.int .i64 (.ofNat 0))], none⟩, ⟨none, .st 5 (.t 6) (.t 10), none⟩])
def bLI : ICode := (.block 1 (.reg [⟨(some 11), .ldn 5 (.t 6), none⟩, ⟨(some 12), .ldn 5 (.t 3), none⟩, ⟨(some 13), .bsl 24 [(.int .i64 (.ofNat 0)), (.int .i64 (.ofNat 0)), (.str []), .nils, (.int .i64 (.ofNat 0)), (.int .i64 (.ofNat 0)), (.int .i64 (.ofNat 0)), (.str []), .nils, (.int .i64 (.ofNat 0))] 2 [(0, 5, (.t 11)), (5, 5, (.t 12))], none⟩, ⟨(some 14), .fa 4 (.t 6), none⟩, ⟨(some 15), .ld (.t 14), none⟩, ⟨(some 16), .build [(.int .i64 (.ofNat 0)), (.int .i64 (.ofNat 0)), (.str []), .nils, (.int .i64 (.ofNat 0))] [(0, 1, (.c (.int .i64 (.ofNat 6)))), (3, 1, (.t 13)), (4, 1, (.t 15))], none⟩, ⟨none, .st 5 (.t 3) (.t 16), none⟩]))
def RLI0 : ICode := (.reg [⟨(some 3), .box 24 (.t 1), none⟩, ⟨(some 4), .alloc 24 [(.int .i64 (.ofNat 0)), (.int .i64 (.ofNat 0)), (.str []), .nils, (.int .i64 (.ofNat 0))], none⟩])
def RLI1 : ICode := (.reg [⟨(some 7), .mv (.t 0), none⟩, ⟨(some 8), .call 14 [(.t 7)], none⟩])
def FLI : ICode := (.seq (.reg [⟨(some 17), .ldn 5 (.t 3), none⟩, ⟨none, .st 5 (.t 4) (.t 17), none⟩])
 .ret)
theorem f6_eq : f6 = ⟨18, [.cn 4 5], (.seq RLI0
 (.seq (.seq RLI1
 (.block 0 (.rf (.t 8) [9, 10] aLI bLI)))
 FLI))⟩ := rfl
def b3_0 : ICode := (.seq (.seq (.reg [⟨(some 22), .mv (.t 5), none⟩, ⟨(some 23), .mv (.t 0), none⟩, ⟨(some 24), .len .v (.t 23), none⟩, ⟨(some 25), .bin .lss (.t 22) (.t 24), none⟩])
 (.cond (.t 25) .skip (.exit 0)))
 (.seq (.block 1 (.seq (.reg [⟨(some 28), .mv (.t 0), none⟩, ⟨(some 29), .mv (.t 5), none⟩, ⟨(some 30), .ia 5 (.t 28) (.t 29), none⟩, ⟨(some 31), .ldn 5 (.t 30), none⟩, ⟨(some 32), .call 4 [(.t 31), (.c (.int .i64 (.ofNat 300)))], none⟩, ⟨(some 33), .bin .leq (.t 32) (.c (.int .i64 (.ofNat 0))), none⟩])
 (.cond (.t 33) (.seq (.reg [⟨(some 34), .call 5 [], none⟩, ⟨(some 4), .mv (.t 34), none⟩])
 .ret) .skip)))
 (.reg [⟨(some 26), .mv (.t 5), none⟩, ⟨(some 27), .bin .add (.t 26) (.c (.int .i64 (.ofNat 1))), none⟩, ⟨(some 5), .mv (.t 27), none⟩])))
def AD0 : ICode := (.seq (.reg [⟨(some 22), .mv (.t 5), none⟩, ⟨(some 23), .mv (.t 0), none⟩, ⟨(some 24), .len .v (.t 23), none⟩, ⟨(some 25), .bin .lss (.t 22) (.t 24), none⟩])
 (.cond (.t 25) .skip (.exit 0)))
def PD0 : ICode := (.block 1 (.seq (.reg [⟨(some 28), .mv (.t 0), none⟩, ⟨(some 29), .mv (.t 5), none⟩, ⟨(some 30), .ia 5 (.t 28) (.t 29), none⟩, ⟨(some 31), .ldn 5 (.t 30), none⟩, ⟨(some 32), .call 4 [(.t 31), (.c (.int .i64 (.ofNat 300)))], none⟩, ⟨(some 33), .bin .leq (.t 32) (.c (.int .i64 (.ofNat 0))), none⟩])
 (.cond (.t 33) (.seq (.reg [⟨(some 34), .call 5 [], none⟩, ⟨(some 4), .mv (.t 34), none⟩])
 .ret) .skip)))
def ID0 : ICode := (.reg [⟨(some 26), .mv (.t 5), none⟩, ⟨(some 27), .bin .add (.t 26) (.c (.int .i64 (.ofNat 1))), none⟩, ⟨(some 5), .mv (.t 27), none⟩])
theorem b3_0_eq : b3_0 = .seq AD0 (.seq PD0 ID0) := rfl
def b3_1 : ICode := (.seq (.seq (.reg [⟨(some 68), .mv (.t 12), none⟩, ⟨(some 69), .mv (.t 8), none⟩, ⟨(some 70), .len .v (.t 69), none⟩, ⟨(some 71), .bin .lss (.t 68) (.t 70), none⟩])
 (.cond (.t 71) .skip (.exit 2)))
 (.seq (.block 3 (.seq (.regd [⟨⟨(some 74), .mv (.t 8), none⟩, 0⟩, ⟨⟨(some 75), .mv (.t 12), none⟩, 0⟩, ⟨⟨(some 76), .ia 5 (.t 74) (.t 75), none⟩, 3⟩, ⟨⟨(some 77), .ldn 5 (.t 76), none⟩, 7⟩, ⟨⟨(some 78), .mv (.t 10), none⟩, 0⟩, ⟨⟨(some 79), .mv (.t 12), none⟩, 0⟩, ⟨⟨(some 80), .ia 5 (.t 78) (.t 79), none⟩, 48⟩, ⟨⟨(some 81), .ldn 5 (.t 80), none⟩, 112⟩, ⟨⟨(some 82), .call 10 [(.t 77), (.t 81)], none⟩, 255⟩, ⟨⟨(some 83), .un .not (.t 82), none⟩, 511⟩])
 (.cond (.t 83) (.seq (.reg [⟨(some 4), .mv (.c (.bool false)), none⟩])
 .ret) .skip)))
 (.reg [⟨(some 72), .mv (.t 12), none⟩, ⟨(some 73), .bin .add (.t 72) (.c (.int .i64 (.ofNat 1))), none⟩, ⟨(some 12), .mv (.t 73), none⟩])))
def ADL : ICode := (.seq (.reg [⟨(some 68), .mv (.t 12), none⟩, ⟨(some 69), .mv (.t 8), none⟩, ⟨(some 70), .len .v (.t 69), none⟩, ⟨(some 71), .bin .lss (.t 68) (.t 70), none⟩])
 (.cond (.t 71) .skip (.exit 2)))
def RDL : List DOper := [⟨⟨(some 74), .mv (.t 8), none⟩, 0⟩, ⟨⟨(some 75), .mv (.t 12), none⟩, 0⟩, ⟨⟨(some 76), .ia 5 (.t 74) (.t 75), none⟩, 3⟩, ⟨⟨(some 77), .ldn 5 (.t 76), none⟩, 7⟩, ⟨⟨(some 78), .mv (.t 10), none⟩, 0⟩, ⟨⟨(some 79), .mv (.t 12), none⟩, 0⟩, ⟨⟨(some 80), .ia 5 (.t 78) (.t 79), none⟩, 48⟩, ⟨⟨(some 81), .ldn 5 (.t 80), none⟩, 112⟩, ⟨⟨(some 82), .call 10 [(.t 77), (.t 81)], none⟩, 255⟩, ⟨⟨(some 83), .un .not (.t 82), none⟩, 511⟩]
def IDL : ICode := (.reg [⟨(some 72), .mv (.t 12), none⟩, ⟨(some 73), .bin .add (.t 72) (.c (.int .i64 (.ofNat 1))), none⟩, ⟨(some 12), .mv (.t 73), none⟩])
def CDL : ICode := (.cond (.t 83) (.seq (.reg [⟨(some 4), .mv (.c (.bool false)), none⟩])
 .ret) .skip)
theorem b3_1_eq : b3_1 = .seq ADL (.seq (.block 3 (.seq (.regd RDL) CDL)) IDL) := rfl
def D_R0 : ICode := (.reg [⟨(some 3), .box 24 (.t 1), none⟩, ⟨(some 4), .mv (.c (.bool false)), none⟩])
def D_R1 : ICode := (.reg [⟨(some 13), .mv (.t 0), none⟩, ⟨(some 14), .mv (.t 0), none⟩, ⟨(some 15), .len .v (.t 14), none⟩, ⟨(some 16), .mn [(.t 15), (.c (.int .i64 (.ofNat 40)))], none⟩, ⟨(some 17), .slv 5 (.t 13) none (some (.t 16)) none, none⟩, ⟨(some 0), .mv (.t 17), none⟩])
def D_S1 : ICode := (.seq (.reg [⟨(some 18), .ldn 5 (.t 3), none⟩, ⟨(some 19), .call 4 [(.t 18), (.c (.int .i64 (.ofNat 300)))], none⟩, ⟨(some 20), .bin .leq (.t 19) (.c (.int .i64 (.ofNat 0))), none⟩])
 (.cond (.t 20) (.seq (.reg [⟨(some 21), .call 5 [], none⟩, ⟨(some 4), .mv (.t 21), none⟩])
 .ret) .skip))
def D_I0 : ICode := (.reg [⟨(some 5), .mv (.c (.int .i64 (.ofNat 0))), none⟩])
def D_L6 : ICode := (.reg [⟨(some 35), .mv (.t 0), none⟩, ⟨(some 36), .ldn 5 (.t 3), none⟩, ⟨(some 37), .call 6 [(.t 35), (.t 36)], none⟩, ⟨(some 6), .alloc 24 [(.int .i64 (.ofNat 0)), (.int .i64 (.ofNat 0)), (.str []), .nils, (.int .i64 (.ofNat 0))], none⟩, ⟨none, .st 5 (.t 6) (.t 37), none⟩])
def D_L7 : ICode := (.reg [⟨(some 38), .mv (.t 0), none⟩, ⟨(some 39), .ldn 5 (.t 3), none⟩, ⟨(some 40), .call 7 [(.t 38), (.t 39)], none⟩, ⟨(some 7), .alloc 24 [(.int .i64 (.ofNat 0)), (.int .i64 (.ofNat 0)), (.str []), .nils, (.int .i64 (.ofNat 0))], none⟩, ⟨none, .st 5 (.t 7) (.t 40), none⟩])
def D_X8 : ICode := (.reg [⟨(some 42), .ldn 5 (.t 6), none⟩, ⟨(some 43), .call 8 [(.t 42)], none⟩, ⟨(some 41), .mv (.t 43), none⟩, ⟨(some 44), .ex (.t 41) 0, none⟩, ⟨(some 45), .ex (.t 41) 1, none⟩, ⟨(some 9), .alloc 24 [(.int .i64 (.ofNat 0)), (.int .i64 (.ofNat 0)), (.str []), .nils, (.int .i64 (.ofNat 0))], none⟩, ⟨(some 8), .mv (.t 44), none⟩, ⟨none, .st 5 (.t 9) (.t 45), none⟩])
def D_X9 : ICode := (.reg [⟨(some 47), .ldn 5 (.t 7), none⟩, ⟨(some 48), .call 9 [(.t 47)], none⟩, ⟨(some 46), .mv (.t 48), none⟩, ⟨(some 49), .ex (.t 46) 0, none⟩, ⟨(some 50), .ex (.t 46) 1, none⟩, ⟨(some 11), .alloc 24 [(.int .i64 (.ofNat 0)), (.int .i64 (.ofNat 0)), (.str []), .nils, (.int .i64 (.ofNat 0))], none⟩, ⟨(some 10), .mv (.t 49), none⟩, ⟨none, .st 5 (.t 11) (.t 50), none⟩])
def D_T10 : ICode := (.seq (.reg [⟨(some 51), .ldn 5 (.t 6), none⟩, ⟨(some 52), .ldn 5 (.t 7), none⟩, ⟨(some 53), .call 10 [(.t 51), (.t 52)], none⟩, ⟨(some 54), .un .not (.t 53), none⟩, ⟨(some 55), .mv (.t 54), none⟩, ⟨(some 56), .mv (.t 8), (some (55, false))⟩, ⟨(some 57), .len .v (.t 56), (some (55, false))⟩, ⟨(some 58), .mv (.t 10), (some (55, false))⟩, ⟨(some 59), .len .v (.t 58), (some (55, false))⟩, ⟨(some 60), .bin .neq (.t 57) (.t 59), (some (55, false))⟩, ⟨(some 61), .pick (.t 55) (.c (.bool true)) (.t 60), none⟩, ⟨(some 62), .mv (.t 61), none⟩, ⟨(some 63), .ldn 5 (.t 9), (some (62, false))⟩, ⟨(some 64), .ldn 5 (.t 11), (some (62, false))⟩, ⟨(some 65), .call 10 [(.t 63), (.t 64)], (some (62, false))⟩, ⟨(some 66), .un .not (.t 65), (some (62, false))⟩, ⟨(some 67), .pick (.t 62) (.c (.bool true)) (.t 66), none⟩])
 (.cond (.t 67) (.seq (.reg [⟨(some 4), .mv (.c (.bool false)), none⟩])
 .ret) .skip))
def D_I12 : ICode := (.reg [⟨(some 12), .mv (.c (.int .i64 (.ofNat 0))), none⟩])
def D_END : ICode := (.seq (.reg [⟨(some 84), .call 5 [], none⟩, ⟨(some 4), .mv (.t 84), none⟩])
 .ret)
theorem f3_eq : f3 = ⟨85, [.t 4], (.seq D_R0
 (.seq D_R1
 (.seq D_S1
 (.seq (.seq D_I0
 (.block 0 (.loop b3_0)))
 (.seq D_L6
 (.seq D_L7
 (.seq D_X8
 (.seq D_X9
 (.seq D_T10
 (.seq (.seq D_I12
 (.block 2 (.loop b3_1)))
 D_END))))))))))⟩ := rfl
end Go.Proofs.YtagpffdamckekaaGreatDoor.Ev.T

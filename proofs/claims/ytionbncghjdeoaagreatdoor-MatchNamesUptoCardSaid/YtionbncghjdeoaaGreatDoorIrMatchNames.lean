/- The code of the functions that MatchNames comes to, as the evaluator reads it: data alone, nothing is proved here. -/
import Derived.Test.YtionbncghjdeoaaGreatDoorEvDefs
namespace Go.Proofs.YtionbncghjdeoaaGreatDoor.Ev.T
set_option maxRecDepth 100000
def f3 : IFunc := ⟨180, [.t 4], (.seq (.reg [Ko 2 (.box 27 (.t 0)), Ko 4 (.mv (.c (.bool false)))])
 (.seq (.seq (.reg [Ko 19 (.fa 1 (.t 2)), Ko 20 (.ldn 5 (.t 19)), Ko 21 (.fa 6 (.t 2)), Ko 22 (.ldn 5 (.t 21)), Ko 23 (.fa 11 (.t 2)), Ko 24 (.ldn 5 (.t 23)), Ko 25 (.bsl 25 [(.int .i64 (.ofNat 0)), (.int .i64 (.ofNat 0)), (.str []), .nils, (.int .i64 (.ofNat 0)), (.int .i64 (.ofNat 0)), (.int .i64 (.ofNat 0)), (.str []), .nils, (.int .i64 (.ofNat 0)), (.int .i64 (.ofNat 0)), (.int .i64 (.ofNat 0)), (.str []), .nils, (.int .i64 (.ofNat 0))] 3 [(0, 5, (.t 20)), (5, 5, (.t 22)), (10, 5, (.t 24))]), Ko 26 (.call 4 [.t 25]), Ko 27 (.mv (.t 26)), Kg 28 (.fa 0 (.t 2)) 27 false, Kg 29 (.ld (.t 28)) 27 false, Kg 30 (.len .v (.t 29)) 27 false, Kg 31 (.bin .gtr (.t 30) (Ki 20)) 27 false, Ko 32 (.pick (.t 27) (.c (.bool true)) (.t 31))])
 (.cond (.t 32) (.seq (.reg [Ko 33 (.call 5 []), Ko 4 (.mv (.t 33))])
 .ret) .skip))
 (.seq (.regd [Kd 34 (.fa 6 (.t 2)) 0, Kd 35 (.ldn 5 (.t 34)) 1, Kd 36 (.call 6 [(.c .nils), .t 35]) 3, Kd 37 (.fa 11 (.t 2)) 0, Kd 38 (.ldn 5 (.t 37)) 8, Kd 39 (.call 6 [.t 36, .t 38]) 31, Kd 5 (.mv (.t 39)) 63])
 (.seq (.seq (.reg [Ko 6 (.mv (Ki 0))])
 (.block 0 (.loop (.seq (.seq (.reg [Ko 40 (.mv (.t 6)), Ko 41 (.mv (.t 5)), Ko 42 (.len .v (.t 41)), Ko 43 (.bin .lss (.t 40) (.t 42))])
 (.cond (.t 43) .skip (.exit 0)))
 (.seq (.block 1 (.seq (.reg [Ko 46 (.mv (.t 5)), Ko 47 (.mv (.t 6)), Ko 48 (.ia 5 (.t 46) (.t 47)), Ko 49 (.fa 1 (.t 48)), Ko 50 (.ld (.t 49)), Ko 51 (.bin .geq (.t 50) (Ki 1000))])
 (.cond (.t 51) (.seq (.reg [Ko 52 (.call 5 []), Ko 4 (.mv (.t 52))])
 .ret) .skip)))
 (.reg [Ko 44 (.mv (.t 6)), Ko 45 (.bin .add (.t 44) (Ki 1)), Ko 6 (.mv (.t 45))]))))))
 (.seq (.reg [Ko 54 (.fa 0 (.t 2)), Ko 55 (.ld (.t 54)), Ko 56 (.fa 1 (.t 2)), Ko 57 (.ldn 5 (.t 56)), Ko 58 (.fa 6 (.t 2)), Ko 59 (.ldn 5 (.t 58)), Ko 60 (.call 7 [.t 55, .t 57, .t 59]), Ko 53 (.mv (.t 60)), Ko 61 (.ex (.t 53) 0), Ko 62 (.ex (.t 53) 1), Ko 7 (.alloc 34 [.nils, .nils]), Kn (.st 2 (.t 7) (.t 61)), Ko 8 (.mv (.t 62))])
 (.seq (.reg [Ko 63 (.mv (.t 1)), Ko 64 (.ci .i64 (.t 63)), Ko 65 (.bin .add (Ki 1000) (.t 64)), Ko 9 (.mv (.t 65))])
 (.seq (.reg [Ko 67 (.fa 11 (.t 2)), Ko 68 (.ldn 5 (.t 67)), Ko 69 (.ldn 2 (.t 7)), Ko 70 (.mv (.t 9)), Ko 71 (.call 8 [.t 68, .t 69, .t 70, Ki 0]), Ko 66 (.mv (.t 71)), Ko 72 (.ex (.t 66) 0), Ko 73 (.ex (.t 66) 1), Ko 74 (.ex (.t 66) 2), Ko 75 (.ex (.t 66) 3), Ko 10 (.alloc 25 [(.int .i64 (.ofNat 0)), (.int .i64 (.ofNat 0)), (.str []), .nils, (.int .i64 (.ofNat 0))]), Kn (.st 5 (.t 10) (.t 72)), Ko 11 (.mv (.t 73)), Ko 12 (.mv (.t 74)), Ko 13 (.mv (.t 75))])
 (.seq (.seq (.reg [Ko 76 (.mv (.t 8)), Ko 77 (.un .not (.t 76)), Ko 78 (.mv (.t 77)), Kg 79 (.mv (.t 13)) 78 false, Kg 80 (.bin .neq (.t 79) (Ki 0)) 78 false, Ko 81 (.pick (.t 78) (.c (.bool true)) (.t 80))])
 (.cond (.t 81) (.seq (.reg [Ko 82 (.call 5 []), Ko 4 (.mv (.t 82))])
 .ret) .skip))
 (.seq (.seq (.reg [Ko 14 (.mv (Ki 0))])
 (.block 2 (.loop (.seq (.seq (.reg [Ko 83 (.mv (.t 14)), Ko 84 (.mv (.t 11)), Ko 85 (.len .v (.t 84)), Ko 86 (.bin .lss (.t 83) (.t 85))])
 (.cond (.t 86) .skip (.exit 2)))
 (.seq (.block 3 (.seq (.reg [Ko 15 (.mv (Ki 0))])
 (.block 4 (.loop (.seq (.seq (.reg [Ko 89 (.mv (.t 15)), Ko 90 (.mv (.t 14)), Ko 91 (.bin .lss (.t 89) (.t 90))])
 (.cond (.t 91) .skip (.exit 4)))
 (.seq (.block 5 (.seq (.regd [Kd 94 (.mv (.t 11)) 0, Kd 95 (.mv (.t 14)) 0, Kd 96 (.ia 5 (.t 94) (.t 95)) 3, Kd 97 (.fa 2 (.t 96)) 7, Kd 98 (.ld (.t 97)) 15, Kd 99 (.mv (.t 11)) 0, Kd 100 (.mv (.t 15)) 0, Kd 101 (.ia 5 (.t 99) (.t 100)) 96, Kd 102 (.fa 2 (.t 101)) 224, Kd 103 (.ld (.t 102)) 480, Kd 104 (.bin .eql (.t 98) (.t 103)) 1023, Kd 105 (.mv (.t 104)) 2047, Ke 106 (.mv (.t 11)) 105 true 4095, Ke 107 (.mv (.t 14)) 105 true 4095, Ke 108 (.ia 5 (.t 106) (.t 107)) 105 true 16383, Ke 109 (.fa 1 (.t 108)) 105 true 32767, Ke 110 (.ld (.t 109)) 105 true 65535, Ke 111 (.mv (.t 11)) 105 true 4095, Ke 112 (.mv (.t 15)) 105 true 4095, Ke 113 (.ia 5 (.t 111) (.t 112)) 105 true 397311, Ke 114 (.fa 1 (.t 113)) 105 true 921599, Ke 115 (.ld (.t 114)) 105 true 1970175, Ke 116 (.bin .eql (.t 110) (.t 115)) 105 true 4194303, Kd 117 (.pick (.t 105) (.t 116) (.c (.bool false))) 8388607])
 (.cond (.t 117) (.seq (.reg [Ko 4 (.mv (.c (.bool false)))])
 .ret) .skip)))
 (.reg [Ko 92 (.mv (.t 15)), Ko 93 (.bin .add (.t 92) (Ki 1)), Ko 15 (.mv (.t 93))])))))))
 (.reg [Ko 87 (.mv (.t 14)), Ko 88 (.bin .add (.t 87) (Ki 1)), Ko 14 (.mv (.t 88))]))))))
 (.seq (.reg [Ko 118 (.ldn 5 (.t 10)), Ko 119 (.call 6 [(.c .nils), .t 118]), Ko 16 (.mv (.t 119))])
 (.seq (.seq (.reg [Ko 17 (.mv (Ki 0))])
 (.block 6 (.loop (.seq (.seq (.reg [Ko 120 (.mv (.t 17)), Ko 121 (.mv (.t 16)), Ko 122 (.len .v (.t 121)), Ko 123 (.bin .lss (.t 120) (.t 122))])
 (.cond (.t 123) .skip (.exit 6)))
 (.seq (.block 7 (.seq (.reg [Ko 126 (.mv (.t 16)), Ko 127 (.mv (.t 17)), Ko 128 (.ia 5 (.t 126) (.t 127)), Ko 129 (.fa 1 (.t 128)), Ko 130 (.ld (.t 129)), Ko 131 (.mv (.t 9)), Ko 132 (.bin .sub (.t 130) (.t 131)), Ko 18 (.mv (.t 132))])
 (.seq (.seq (.regd [Kd 133 (.mv (.t 16)) 0, Kd 134 (.mv (.t 17)) 0, Kd 135 (.ia 5 (.t 133) (.t 134)) 3, Kd 136 (.fa 1 (.t 135)) 7, Kd 137 (.ld (.t 136)) 15, Kd 138 (.bin .geq (.t 137) (Ki 1000)) 31, Kd 139 (.mv (.t 138)) 63, Ke 140 (.mv (.t 18)) 139 true 127, Ke 141 (.bin .lss (.t 140) (Ki 0)) 139 true 255, Ke 142 (.mv (.t 141)) 139 true 511, Ke 143 (.mv (.t 18)) 142 false 1023, Ke 144 (.mv (.t 11)) 142 false 1023, Ke 145 (.len .v (.t 144)) 142 false 3071, Ke 146 (.bin .geq (.t 143) (.t 145)) 142 false 8191, Ke 147 (.pick (.t 142) (.c (.bool true)) (.t 146)) 139 true 16383, Ke 148 (.mv (.t 147)) 139 true 32767, Ke 149 (.mv (.t 11)) 148 false 65535, Ke 150 (.mv (.t 18)) 148 false 65535, Ke 151 (.ia 5 (.t 149) (.t 150)) 148 false 262143, Ke 152 (.fa 2 (.t 151)) 148 false 524287, Ke 153 (.ld (.t 152)) 148 false 1048575, Ke 154 (.mv (.t 16)) 148 false 65535, Ke 155 (.mv (.t 17)) 148 false 65535, Ke 156 (.ia 5 (.t 154) (.t 155)) 148 false 6356991, Ke 157 (.fa 2 (.t 156)) 148 false 14745599, Ke 158 (.ld (.t 157)) 148 false 31522815, Ke 159 (.bin .neq (.t 153) (.t 158)) 148 false 67108863, Ke 160 (.pick (.t 148) (.c (.bool true)) (.t 159)) 139 true 134217727, Kd 161 (.pick (.t 139) (.t 160) (.c (.bool false))) 268435455])
 (.cond (.t 161) (.seq (.reg [Ko 4 (.mv (.c (.bool false)))])
 .ret) .skip))
 (.seq (.regd [Kd 162 (.mv (.t 16)) 0, Kd 163 (.mv (.t 17)) 0, Kd 164 (.ia 5 (.t 162) (.t 163)) 3, Kd 165 (.fa 1 (.t 164)) 7, Kd 166 (.ld (.t 165)) 15, Kd 167 (.bin .lss (.t 166) (Ki 1000)) 31, Kd 168 (.mv (.t 167)) 63, Ke 169 (.fa 6 (.t 2)) 168 true 127, Ke 170 (.ldn 5 (.t 169)) 168 true 255, Ke 171 (.call 6 [(.c .nils), .t 170]) 168 true 511, Ke 172 (.mv (.t 16)) 168 true 127, Ke 173 (.mv (.t 17)) 168 true 127, Ke 174 (.ia 5 (.t 172) (.t 173)) 168 true 3199, Ke 175 (.ldn 5 (.t 174)) 168 true 7295, Ke 176 (.call 9 [.t 171, .t 175]) 168 true 16383, Ke 177 (.un .not (.t 176)) 168 true 32767, Kd 178 (.pick (.t 168) (.t 177) (.c (.bool false))) 65535])
 (.cond (.t 178) (.seq (.reg [Ko 4 (.mv (.c (.bool false)))])
 .ret) .skip)))))
 (.reg [Ko 124 (.mv (.t 17)), Ko 125 (.bin .add (.t 124) (Ki 1)), Ko 17 (.mv (.t 125))]))))))
 (.seq (.reg [Ko 179 (.call 5 []), Ko 4 (.mv (.t 179))])
 .ret))))))))))))⟩
def f4 : IFunc := ⟨24, [.t 2], (.seq (.reg [Ko 2 (.mv (.c (.bool false)))])
 (.seq (.seq (.reg [Ko 3 (.mv (Ki 0))])
 (.block 0 (.loop (.seq (.seq (.reg [Ko 4 (.mv (.t 3)), Ko 5 (.mv (.t 0)), Ko 6 (.len .v (.t 5)), Ko 7 (.bin .lss (.t 4) (.t 6))])
 (.cond (.t 7) .skip (.exit 0)))
 (.seq (.block 1 (.seq (.reg [Ko 10 (.mv (.t 0)), Ko 11 (.mv (.t 3)), Ko 12 (.ia 5 (.t 10) (.t 11)), Ko 13 (.ldn 5 (.t 12)), Ko 14 (.call 10 [.t 13, Ki 40]), Ko 15 (.bin .gtr (.t 14) (Ki 300)), Ko 16 (.mv (.t 15)), Kg 17 (.mv (.t 0)) 16 false, Kg 18 (.mv (.t 3)) 16 false, Kg 19 (.ia 5 (.t 17) (.t 18)) 16 false, Kg 20 (.ldn 5 (.t 19)) 16 false, Kg 21 (.call 11 [.t 20]) 16 false, Kg 22 (.un .not (.t 21)) 16 false, Ko 23 (.pick (.t 16) (.c (.bool true)) (.t 22))])
 (.cond (.t 23) (.seq (.reg [Ko 2 (.mv (.c (.bool true)))])
 .ret) .skip)))
 (.reg [Ko 8 (.mv (.t 3)), Ko 9 (.bin .add (.t 8) (Ki 1)), Ko 3 (.mv (.t 9))]))))))
 (.seq (.reg [Ko 2 (.mv (.c (.bool false)))])
 .ret)))⟩
def f5 : IFunc := ⟨5, [.t 0], (Kr [Km 0 KF]
 (Kr [Ko 1 (.call 12 [(.c (.str [40, 120, 32, 121, 32, 46, 46, 46, 41])), (.c (.str [40, 49, 32, 50, 32, 51, 41])), (.c (.str [40, 40, 121, 32, 120, 41, 32, 46, 46, 46, 41])), (.c (.str [40, 40, 50, 32, 49, 41, 32, 40, 51, 32, 49, 41, 41])), (.c .nils)]), Km 2 1, Kg 3 (.call 12 [(.c (.str [40, 40, 120, 32, 118, 41, 32, 46, 46, 46, 32, 98, 41])), (.c (.str [40, 40, 97, 32, 49, 41, 32, 40, 99, 32, 50, 41, 32, 100, 41])), (.c (.str [40, 98, 32, 40, 118, 32, 46, 46, 46, 41, 32, 120, 32, 46, 46, 46, 41])), (.c (.str [40, 100, 32, 40, 49, 32, 50, 41, 32, 97, 32, 99, 41])), (.c .nils)]) 2 true, Ko 4 (.pick 2 3 KF), Km 0 4]
 .ret))⟩
def f6 : IFunc := ⟨28, [.t 4], (.seq (.reg [Ko 3 (.box 25 (.t 1)), Ko 4 (.mv (.c .nils))])
 (.seq (.seq (.reg [Ko 6 (.fa 0 (.t 3)), Ko 7 (.ld (.t 6)), Ko 8 (.bin .eql (.t 7) (Ki 5))])
 (.cond (.t 8) (.seq (.reg [Ko 9 (.mv (.t 0)), Ko 10 (.ldn 5 (.t 3)), Ko 11 (.bsl 25 [(.int .i64 (.ofNat 0)), (.int .i64 (.ofNat 0)), (.str []), .nils, (.int .i64 (.ofNat 0))] 1 [(0, 5, (.t 10))]), Ko 12 (.app 25 5 64 (.t 9) (.t 11)), Ko 4 (.mv (.t 12))])
 .ret) .skip))
 (.seq (.seq (.reg [Ko 5 (.mv (Ki 0))])
 (.block 0 (.loop (.seq (.seq (.reg [Ko 13 (.mv (.t 5)), Ko 14 (.fa 3 (.t 3)), Ko 15 (.ld (.t 14)), Ko 16 (.len .v (.t 15)), Ko 17 (.bin .lss (.t 13) (.t 16))])
 (.cond (.t 17) .skip (.exit 0)))
 (.seq (.block 1 (.reg [Ko 20 (.mv (.t 0)), Ko 21 (.fa 3 (.t 3)), Ko 22 (.ld (.t 21)), Ko 23 (.mv (.t 5)), Ko 24 (.ia 5 (.t 22) (.t 23)), Ko 25 (.ldn 5 (.t 24)), Ko 26 (.call 6 [.t 20, .t 25]), Ko 0 (.mv (.t 26))]))
 (.reg [Ko 18 (.mv (.t 5)), Ko 19 (.bin .add (.t 18) (Ki 1)), Ko 5 (.mv (.t 19))]))))))
 (.seq (.reg [Ko 27 (.mv (.t 0)), Ko 4 (.mv (.t 27))])
 .ret))))⟩
def f7 : IFunc := ⟨28, [.cn 6 2, .t 7], (.seq (.reg [Ko 4 (.box 25 (.t 1)), Ko 5 (.box 25 (.t 2)), Ko 6 (.alloc 34 [.nils, .nils]), Ko 7 (.mv (.c (.bool false)))])
 (.seq (.reg [Ko 11 (.mv (.t 0)), Ko 12 (.build [.nils] [(0, 1, (.t 11))]), Ko 8 (.alloc 46 [.nils]), Kn (.st 1 (.t 8) (.t 12))])
 (.seq (.reg [Ko 14 (.ldn 1 (.t 8)), Ko 15 (.ldn 5 (.t 4)), Ko 16 (.ldn 5 (.t 5)), Ko 17 (.call 13 [.t 14, .t 15, .t 16]), Ko 13 (.mv (.t 17)), Ko 18 (.ex (.t 13) 0), Ko 19 (.ex (.t 13) 1), Ko 9 (.mv (.t 18)), Ko 10 (.mv (.t 19))])
 (.seq (.seq (.reg [Ko 20 (.mv (.t 10)), Ko 21 (.un .not (.t 20))])
 (.cond (.t 21) (.seq (.reg [Ko 22 (.build [.nils, .nils] []), Kn (.st 2 (.t 6) (.t 22)), Ko 7 (.mv (.c (.bool false)))])
 .ret) .skip))
 (.seq (.reg [Ko 23 (.ldn 1 (.t 8)), Ko 24 (.ldn 5 (.t 4)), Ko 25 (.call 14 [.t 23, .t 24, Ki 0]), Ko 26 (.mv (.t 9)), Ko 27 (.build [.nils, .nils] [(0, 1, (.t 25)), (1, 1, (.t 26))]), Kn (.st 2 (.t 6) (.t 27)), Ko 7 (.mv (.c (.bool true)))])
 .ret)))))⟩
def f8 : IFunc := ⟨67, [.cn 8 5, .t 9, .t 10, .t 11], (.seq (.reg [Ko 4 (.box 25 (.t 0)), Ko 5 (.box 34 (.t 1)), Ko 8 (.alloc 25 [(.int .i64 (.ofNat 0)), (.int .i64 (.ofNat 0)), (.str []), .nils, (.int .i64 (.ofNat 0))]), Ko 9 (.mv (.c .nils)), Ko 10 (.mv (Ki 0)), Ko 11 (.mv (Ki 0))])
 (.seq (.seq (.reg [Ko 16 (.fa 0 (.t 5)), Ko 17 (.ld (.t 16)), Ko 18 (.ldn 5 (.t 4)), Ko 19 (.call 15 [.t 17, .t 18, Ki 0]), Ko 15 (.mv (.t 19)), Ko 20 (.ex (.t 15) 0), Ko 21 (.ex (.t 15) 1), Ko 12 (.mv (.t 20)), Ko 13 (.mv (.t 21))])
 (.seq (.reg [Ko 22 (.mv (.t 13)), Ko 23 (.un .not (.t 22)), Ko 24 (.mv (.t 23)), Kg 25 (.fa 0 (.t 5)) 24 false, Kg 26 (.ld (.t 25)) 24 false, Kg 27 (.len .v (.t 26)) 24 false, Kg 28 (.fa 1 (.t 5)) 24 false, Kg 29 (.ld (.t 28)) 24 false, Kg 30 (.len .v (.t 29)) 24 false, Kg 31 (.bin .neq (.t 27) (.t 30)) 24 false, Ko 32 (.pick (.t 24) (.c (.bool true)) (.t 31))])
 (.cond (.t 32) (.seq (.reg [Ko 33 (.ldn 5 (.t 8)), Kn (.st 5 (.t 8) (.t 33)), Ko 9 (.mv (.c .nils)), Ko 10 (.mv (Ki 0)), Ko 11 (.mv (Ki 7))])
 .ret) .skip)))
 (.seq (.reg [Ko 34 (.fa 0 (.t 5)), Ko 35 (.ld (.t 34)), Ko 36 (.mv (.t 2)), Ko 37 (.mv (.t 3)), Ko 38 (.build [.nils, .nils, .int .i64 (.ofNat 0), .int .i64 (.ofNat 0), .int .i64 (.ofNat 0), .int .i64 (.ofNat 0)] [(0, 1, (.t 35)), (2, 1, (.t 36)), (3, 1, (.t 37))]), Ko 39 (.box 54 (.t 38)), Ko 14 (.mv (.t 39))])
 (.seq (.reg [Ko 40 (.mv (.t 14)), Ko 41 (.ldn 5 (.t 4)), Ko 42 (.call 16 [.t 40, .t 41])])
 (.seq (.reg [Ko 43 (.mv (.t 14)), Ko 44 (.ldn 5 (.t 4)), Ko 45 (.fa 1 (.t 5)), Ko 46 (.ld (.t 45)), Ko 47 (.call 17 [.t 43, .t 44, .t 46]), Kn (.st 5 (.t 8) (.t 47))])
 (.seq (.seq (.reg [Ko 48 (.mv (.t 14)), Ko 49 (.nck (.t 48)), Ko 50 (.fa 5 (.t 49)), Ko 51 (.ld (.t 50)), Ko 52 (.bin .neq (.t 51) (Ki 0))])
 (.cond (.t 52) (.seq (.regd [Kd 53 (.build [(.int .i64 (.ofNat 0)), (.int .i64 (.ofNat 0)), (.str []), .nils, (.int .i64 (.ofNat 0))] []) 0, Kd 54 (.mv (.t 14)) 0, Kd 55 (.nck (.t 54)) 2, Kd 56 (.fa 5 (.t 55)) 6, Kd 57 (.ld (.t 56)) 14, Kf (.st 5 (.t 8) (.t 53)) 1, Kd 9 (.mv (.c .nils)) 33, Kd 10 (.mv (Ki 0)) 97, Kd 11 (.mv (.t 57)) 255])
 .ret) .skip))
 (.seq (.regd [Kd 58 (.ldn 5 (.t 8)) 0, Kd 59 (.mv (.t 14)) 0, Kd 60 (.nck (.t 59)) 2, Kd 61 (.fa 1 (.t 60)) 6, Kd 62 (.ld (.t 61)) 14, Kd 63 (.mv (.t 14)) 0, Kd 64 (.nck (.t 63)) 32, Kd 65 (.fa 4 (.t 64)) 96, Kd 66 (.ld (.t 65)) 224, Kf (.st 5 (.t 8) (.t 58)) 1, Kd 9 (.mv (.t 62)) 543, Kd 10 (.mv (.t 66)) 2047, Kd 11 (.mv (Ki 0)) 4095])
 .ret)))))))⟩
def f9 : IFunc := ⟨30, [.t 4], (.seq (.reg [Ko 3 (.box 25 (.t 1)), Ko 4 (.mv (.c (.bool false)))])
 (.seq (.seq (.reg [Ko 5 (.mv (Ki 0))])
 (.block 0 (.loop (.seq (.seq (.reg [Ko 6 (.mv (.t 5)), Ko 7 (.mv (.t 0)), Ko 8 (.len .v (.t 7)), Ko 9 (.bin .lss (.t 6) (.t 8))])
 (.cond (.t 9) .skip (.exit 0)))
 (.seq (.block 1 (.seq (.regd [Kd 12 (.mv (.t 0)) 0, Kd 13 (.mv (.t 5)) 0, Kd 14 (.ia 5 (.t 12) (.t 13)) 3, Kd 15 (.fa 2 (.t 14)) 7, Kd 16 (.ld (.t 15)) 15, Kd 17 (.fa 2 (.t 3)) 0, Kd 18 (.ld (.t 17)) 32, Kd 19 (.bin .eql (.t 16) (.t 18)) 127, Kd 20 (.mv (.t 19)) 255, Ke 21 (.mv (.t 0)) 20 true 511, Ke 22 (.mv (.t 5)) 20 true 511, Ke 23 (.ia 5 (.t 21) (.t 22)) 20 true 2047, Ke 24 (.fa 1 (.t 23)) 20 true 4095, Ke 25 (.ld (.t 24)) 20 true 8191, Ke 26 (.fa 1 (.t 3)) 20 true 511, Ke 27 (.ld (.t 26)) 20 true 16895, Ke 28 (.bin .eql (.t 25) (.t 27)) 20 true 65535, Kd 29 (.pick (.t 20) (.t 28) (.c (.bool false))) 131071])
 (.cond (.t 29) (.seq (.reg [Ko 4 (.mv (.c (.bool true)))])
 .ret) .skip)))
 (.reg [Ko 10 (.mv (.t 5)), Ko 11 (.bin .add (.t 10) (Ki 1)), Ko 5 (.mv (.t 11))]))))))
 (.seq (.reg [Ko 4 (.mv (.c (.bool false)))])
 .ret)))⟩
def f10 : IFunc := ⟨31, [.t 4], (.seq (.reg [Ko 2 (.box 25 (.t 0)), Ko 4 (.mv (Ki 0))])
 (.seq (.seq (.reg [Ko 7 (.mv (.t 1)), Ko 8 (.bin .eql (.t 7) (Ki 0))])
 (.cond (.t 8) (.seq (.reg [Ko 4 (.mv (Ki 1000))])
 .ret) .skip))
 (.seq (.reg [Ko 5 (.mv (Ki 1))])
 (.seq (.seq (.reg [Ko 6 (.mv (Ki 0))])
 (.block 0 (.loop (.seq (.seq (.reg [Ko 9 (.mv (.t 6)), Ko 10 (.fa 3 (.t 2)), Ko 11 (.ld (.t 10)), Ko 12 (.len .v (.t 11)), Ko 13 (.bin .lss (.t 9) (.t 12)), Ko 14 (.mv (.t 13)), Kg 15 (.mv (.t 5)) 14 true, Kg 16 (.bin .lss (.t 15) (Ki 1000)) 14 true, Ko 17 (.pick (.t 14) (.t 16) (.c (.bool false)))])
 (.cond (.t 17) .skip (.exit 0)))
 (.seq (.block 1 (.reg [Ko 20 (.mv (.t 5)), Ko 21 (.fa 3 (.t 2)), Ko 22 (.ld (.t 21)), Ko 23 (.mv (.t 6)), Ko 24 (.ia 5 (.t 22) (.t 23)), Ko 25 (.ldn 5 (.t 24)), Ko 26 (.mv (.t 1)), Ko 27 (.bin .sub (.t 26) (Ki 1)), Ko 28 (.call 10 [.t 25, .t 27]), Ko 29 (.bin .add (.t 20) (.t 28)), Ko 5 (.mv (.t 29))]))
 (.reg [Ko 18 (.mv (.t 6)), Ko 19 (.bin .add (.t 18) (Ki 1)), Ko 6 (.mv (.t 19))]))))))
 (.seq (.reg [Ko 30 (.mv (.t 5)), Ko 4 (.mv (.t 30))])
 .ret)))))⟩
def f11 : IFunc := ⟨97, [.t 2], (.seq (.reg [Ko 1 (.box 25 (.t 0)), Ko 2 (.mv (.c (.bool false)))])
 (.seq (.reg [Ko 10 (.ldn 5 (.t 1)), Ko 11 (.call 18 [.t 10]), Ko 9 (.mv (.t 11)), Ko 12 (.ex (.t 9) 0), Ko 13 (.ex (.t 9) 1), Ko 4 (.alloc 25 [(.int .i64 (.ofNat 0)), (.int .i64 (.ofNat 0)), (.str []), .nils, (.int .i64 (.ofNat 0))]), Ko 3 (.mv (.t 12)), Kn (.st 5 (.t 4) (.t 13))])
 (.seq (.seq (.reg [Ko 5 (.mv (Ki 0))])
 (.block 0 (.loop (.seq (.seq (.reg [Ko 14 (.mv (.t 5)), Ko 15 (.mv (.t 3)), Ko 16 (.len .v (.t 15)), Ko 17 (.bin .lss (.t 14) (.t 16))])
 (.cond (.t 17) .skip (.exit 0)))
 (.seq (.block 1 (.seq (.reg [Ko 20 (.mv (.t 3)), Ko 21 (.mv (.t 5)), Ko 22 (.ia 5 (.t 20) (.t 21)), Ko 23 (.ldn 5 (.t 22)), Ko 24 (.call 11 [.t 23]), Ko 25 (.un .not (.t 24))])
 (.cond (.t 25) (.seq (.reg [Ko 2 (.mv (.c (.bool false)))])
 .ret) .skip)))
 (.reg [Ko 18 (.mv (.t 5)), Ko 19 (.bin .add (.t 18) (Ki 1)), Ko 5 (.mv (.t 19))]))))))
 (.seq (.seq (.reg [Ko 26 (.fa 0 (.t 4)), Ko 27 (.ld (.t 26)), Ko 28 (.bin .neq (.t 27) (Ki 7)), Ko 29 (.mv (.t 28)), Kg 30 (.fa 3 (.t 4)) 29 true, Kg 31 (.ld (.t 30)) 29 true, Kg 32 (.len .v (.t 31)) 29 true, Kg 33 (.bin .gtr (.t 32) (Ki 0)) 29 true, Ko 34 (.pick (.t 29) (.t 33) (.c (.bool false)))])
 (.cond (.t 34) (.seq (.reg [Ko 2 (.mv (.c (.bool false)))])
 .ret) .skip))
 (.seq (.seq (.reg [Ko 6 (.mv (Ki 0))])
 (.block 2 (.loop (.seq (.seq (.reg [Ko 35 (.mv (.t 6)), Ko 36 (.fa 3 (.t 4)), Ko 37 (.ld (.t 36)), Ko 38 (.len .v (.t 37)), Ko 39 (.bin .lss (.t 35) (.t 38))])
 (.cond (.t 39) .skip (.exit 2)))
 (.seq (.block 3 (.seq (.reg [Ko 42 (.fa 3 (.t 4)), Ko 43 (.ld (.t 42)), Ko 44 (.mv (.t 6)), Ko 45 (.ia 5 (.t 43) (.t 44)), Ko 46 (.ldn 5 (.t 45)), Ko 47 (.call 11 [.t 46]), Ko 48 (.un .not (.t 47))])
 (.cond (.t 48) (.seq (.reg [Ko 2 (.mv (.c (.bool false)))])
 .ret) .skip)))
 (.reg [Ko 40 (.mv (.t 6)), Ko 41 (.bin .add (.t 40) (Ki 1)), Ko 6 (.mv (.t 41))]))))))
 (.seq (.reg [Ko 50 (.fa 2 (.t 4)), Ko 51 (.ld (.t 50)), Ko 52 (.call 19 [.t 51]), Ko 49 (.mv (.t 52)), Ko 53 (.ex (.t 49) 0), Ko 54 (.ex (.t 49) 1), Ko 7 (.mv (.t 53)), Ko 8 (.mv (.t 54))])
 (.seq (.seq (.reg [Ko 55 (.fa 0 (.t 4)), Ko 56 (.ld (.t 55))])
 (.block 4 (.seq (.seq (.reg [Ko 58 (.bin .eql (.t 56) (Ki 0)), Ko 57 (.mv (.t 58))])
 (.cond (.t 57) .skip (.seq (.reg [Ko 59 (.bin .eql (.t 56) (Ki 7)), Ko 57 (.mv (.t 59))])
 (.cond (.t 57) .skip (.seq (.reg [Ko 60 (.bin .eql (.t 56) (Ki 8)), Ko 57 (.mv (.t 60))])
 (.cond (.t 57) .skip (.seq (.reg [Ko 61 (.bin .eql (.t 56) (Ki 9)), Ko 57 (.mv (.t 61))])
 (.cond (.t 57) .skip (.reg [Ko 62 (.bin .eql (.t 56) (Ki 10)), Ko 57 (.mv (.t 62))])))))))))
 (.cond (.t 57) (.seq (.reg [Ko 2 (.mv (.c (.bool true)))])
 .ret) (.seq (.reg [Ko 64 (.bin .eql (.t 56) (Ki 1)), Ko 63 (.mv (.t 64))])
 (.cond (.t 63) (.seq (.reg [Ko 65 (.fa 1 (.t 4)), Ko 66 (.ld (.t 65)), Ko 67 (.bin .eql (.t 66) (Ki 0)), Ko 68 (.mv (.t 67)), Kg 69 (.fa 1 (.t 4)) 68 false, Kg 70 (.ld (.t 69)) 68 false, Kg 71 (.bin .eql (.t 70) (Ki 1)) 68 false, Ko 72 (.pick (.t 68) (.c (.bool true)) (.t 71)), Ko 2 (.mv (.t 72))])
 .ret) (.seq (.reg [Ko 74 (.bin .eql (.t 56) (Ki 2)), Ko 73 (.mv (.t 74))])
 (.cond (.t 73) (.seq (.reg [Ko 75 (.fa 2 (.t 4)), Ko 76 (.ld (.t 75)), Ko 77 (.call 20 [.t 76]), Ko 2 (.mv (.t 77))])
 .ret) (.seq (.reg [Ko 79 (.bin .eql (.t 56) (Ki 3)), Ko 78 (.mv (.t 79))])
 (.cond (.t 78) (.seq (.reg [Ko 80 (.fa 1 (.t 4)), Ko 81 (.ld (.t 80)), Ko 82 (.call 21 [.t 81]), Ko 2 (.mv (.t 82))])
 .ret) (.seq (.reg [Ko 84 (.bin .eql (.t 56) (Ki 4)), Ko 83 (.mv (.t 84))])
 (.cond (.t 83) (.seq (.reg [Ko 85 (.mv (.t 8)), Ko 86 (.bin .eql (.t 85) (Ki 0)), Ko 2 (.mv (.t 86))])
 .ret) (.seq (.reg [Ko 88 (.bin .eql (.t 56) (Ki 5)), Ko 87 (.mv (.t 88))])
 (.cond (.t 87) (.seq (.reg [Ko 89 (.mv (.t 8)), Ko 90 (.bin .eql (.t 89) (Ki 0)), Ko 91 (.mv (.t 90)), Kg 92 (.fa 2 (.t 4)) 91 true, Kg 93 (.ld (.t 92)) 91 true, Kg 94 (.len .s (.t 93)) 91 true, Kg 95 (.bin .gtr (.t 94) (Ki 0)) 91 true, Ko 96 (.pick (.t 91) (.t 95) (.c (.bool false))), Ko 2 (.mv (.t 96))])
 .ret) .skip))))))))))))))
 (.seq (.reg [Ko 2 (.mv (.c (.bool false)))])
 .ret))))))))⟩
def f12 : IFunc := ⟨46, [.t 10], (Kr [Km 10 KF]
 (Kr [Km 18 4, Km 19 0, Ko 20 (.call 22 [19]), Km 21 1, Ko 22 (.call 22 [21]), Ko 23 (.call 7 [18, 20, 22]), Km 17 23, Ko 24 (.ex 17 0), Ko 25 (.ex 17 1), Ko 11 (.alloc 34 [.nils, .nils]), Kn (.st 2 11 24), Km 12 25]
 (.seq (.regd [Kd 27 (.mv 2) 0, Kd 28 (.call 22 [27]) 1, Kd 29 (.ldn 2 11) 0, Kd 30 (.call 8 [28, 29, Ki 7, Ki 0]) 7, Kd 26 (.mv 30) 15, Kd 31 (.ex 26 0) 31, Kd 32 (.ex 26 1) 31, Kd 33 (.ex 26 2) 31, Kd 34 (.ex 26 3) 31, Kd 13 (.alloc 25 [Kv 0, Kv 0, (.str []), .nils, Kv 0]) 0, Kf (.st 5 13 31) 575, Kd 14 (.mv 32) 1663, Kd 15 (.mv 33) 3839, Kd 16 (.mv 34) 8191])
 (Kr [Km 35 12, Km 36 35, Kg 37 (.mv 16) 36 true, Kg 38 (.bin .eql 37 (Ki 0)) 36 true, Ko 39 (.pick 36 38 KF), Km 40 39, Kg 41 (.ldn 5 13) 40 true, Kg 42 (.call 23 [41, .c (.bool false)]) 40 true, Kg 43 (.mv 3) 40 true, Kg 44 (.bin .eql 42 43) 40 true, Ko 45 (.pick 40 44 KF), Km 10 45]
 .ret))))⟩
def f13 : IFunc := ⟨172, [.t 6, .t 7], (.seq (.reg [Ko 3 (.box 46 (.t 0)), Ko 4 (.box 25 (.t 1)), Ko 5 (.box 25 (.t 2)), Ko 6 (.mv (.c .nils)), Ko 7 (.mv (.c (.bool false)))])
 (.seq (.block 0 (.seq (.reg [Ko 20 (.ldn 1 (.t 3)), Ko 21 (.ldn 5 (.t 4)), Ko 22 (.call 24 [.t 20, .t 21]), Ko 19 (.mv (.t 22))])
 (.cond (.t 19) (.seq (.reg [Ko 23 (.ldn 5 (.t 5)), Ko 24 (.build [(.int .i64 (.ofNat 0)), (.int .i64 (.ofNat 0)), (.int .i64 (.ofNat 0)), (.str []), .nils, (.int .i64 (.ofNat 0)), .nils] [(1, 5, (.t 23))]), Ko 25 (.bsl 67 [(.int .i64 (.ofNat 0)), (.int .i64 (.ofNat 0)), (.int .i64 (.ofNat 0)), (.str []), .nils, (.int .i64 (.ofNat 0)), .nils] 1 [(0, 7, (.t 24))]), Ko 6 (.mv (.t 25)), Ko 7 (.mv (.c (.bool true)))])
 .ret) (.seq (.reg [Ko 27 (.ldn 1 (.t 3)), Ko 28 (.ldn 5 (.t 4)), Ko 29 (.call 25 [.t 27, .t 28]), Ko 26 (.mv (.t 29))])
 (.cond (.t 26) (.seq (.reg [Ko 6 (.mv (.c .nils)), Ko 7 (.mv (.c (.bool false)))])
 .ret) (.seq (.reg [Ko 31 (.fa 0 (.t 4)), Ko 32 (.ld (.t 31)), Ko 33 (.bin .eql (.t 32) (Ki 5)), Ko 34 (.mv (.t 33)), Kg 35 (.ldn 1 (.t 3)) 34 true, Kg 36 (.ldn 5 (.t 4)) 34 true, Kg 37 (.call 26 [.t 35, .t 36]) 34 true, Ko 38 (.pick (.t 34) (.t 37) (.c (.bool false))), Ko 30 (.mv (.t 38))])
 (.cond (.t 30) (.seq (.regd [Kd 39 (.fa 0 (.t 5)) 0, Kd 40 (.ld (.t 39)) 1, Kd 41 (.bin .eql (.t 40) (Ki 5)) 3, Kd 42 (.mv (.t 41)) 7, Ke 43 (.fa 2 (.t 5)) 42 true 15, Ke 44 (.ld (.t 43)) 42 true 31, Ke 45 (.fa 2 (.t 4)) 42 true 15, Ke 46 (.ld (.t 45)) 42 true 79, Ke 47 (.bin .eql (.t 44) (.t 46)) 42 true 255, Kd 48 (.pick (.t 42) (.t 47) (.c (.bool false))) 511, Kd 6 (.mv (.c .nils)) 15, Kd 7 (.mv (.t 48)) 2047])
 .ret) (.seq (.reg [Ko 50 (.fa 0 (.t 4)), Ko 51 (.ld (.t 50)), Ko 52 (.bin .eql (.t 51) (Ki 5)), Ko 49 (.mv (.t 52))])
 (.cond (.t 49) (.seq (.reg [Ko 6 (.mv (.c .nils)), Ko 7 (.mv (.c (.bool true)))])
 .ret) (.seq (.reg [Ko 54 (.ldn 5 (.t 4)), Ko 55 (.call 27 [.t 54]), Ko 56 (.un .not (.t 55)), Ko 53 (.mv (.t 56))])
 (.cond (.t 53) (.seq (.reg [Ko 57 (.ldn 5 (.t 4)), Ko 58 (.ldn 5 (.t 5)), Ko 59 (.call 28 [.t 57, .t 58]), Ko 6 (.mv (.c .nils)), Ko 7 (.mv (.t 59))])
 .ret) (.seq (.reg [Ko 61 (.fa 0 (.t 4)), Ko 62 (.ld (.t 61)), Ko 63 (.bin .eql (.t 62) (Ki 7)), Ko 64 (.mv (.t 63)), Kg 65 (.fa 0 (.t 5)) 64 true, Kg 66 (.ld (.t 65)) 64 true, Kg 67 (.bin .neq (.t 66) (Ki 7)) 64 true, Ko 68 (.pick (.t 64) (.t 67) (.c (.bool false))), Ko 60 (.mv (.t 68))])
 (.cond (.t 60) (.seq (.reg [Ko 6 (.mv (.c .nils)), Ko 7 (.mv (.c (.bool false)))])
 .ret) .skip)))))))))))))
 (.seq (.reg [Ko 70 (.ldn 5 (.t 4)), Ko 71 (.call 29 [.t 70]), Ko 69 (.mv (.t 71)), Ko 72 (.ex (.t 69) 0), Ko 73 (.ex (.t 69) 1), Ko 9 (.alloc 25 [(.int .i64 (.ofNat 0)), (.int .i64 (.ofNat 0)), (.str []), .nils, (.int .i64 (.ofNat 0))]), Ko 8 (.mv (.t 72)), Kn (.st 5 (.t 9) (.t 73))])
 (.seq (.reg [Ko 75 (.mv (.t 8)), Ko 76 (.ldn 1 (.t 3)), Ko 77 (.mfn 25 [.t 76] []), Ko 78 (.call 30 [.t 75, .t 77]), Ko 74 (.mv (.t 78)), Ko 79 (.ex (.t 74) 0), Ko 80 (.ex (.t 74) 1), Ko 10 (.mv (.t 79)), Ko 11 (.mv (.t 80))])
 (.seq (.reg [Ko 82 (.mv (.t 10)), Ko 83 (.call 31 [.t 82]), Ko 81 (.mv (.t 83)), Ko 84 (.ex (.t 81) 0), Ko 85 (.ex (.t 81) 1), Ko 12 (.mv (.t 84)), Ko 13 (.mv (.t 85))])
 (.seq (.reg [Ko 14 (.mv (.c .nils))])
 (.seq (.reg [Ko 86 (.ldn 5 (.t 5)), Ko 15 (.alloc 25 [(.int .i64 (.ofNat 0)), (.int .i64 (.ofNat 0)), (.str []), .nils, (.int .i64 (.ofNat 0))]), Kn (.st 5 (.t 15) (.t 86))])
 (.seq (.seq (.reg [Ko 87 (.fa 0 (.t 4)), Ko 88 (.ld (.t 87)), Ko 89 (.bin .eql (.t 88) (Ki 7))])
 (.cond (.t 89) (.reg [Ko 90 (.fa 3 (.t 5)), Ko 91 (.ld (.t 90)), Ko 14 (.mv (.t 91))]) (.reg [Ko 93 (.ldn 5 (.t 5)), Ko 94 (.call 32 [.t 93]), Ko 92 (.mv (.t 94)), Ko 95 (.ex (.t 92) 0), Ko 96 (.ex (.t 92) 1), Ko 14 (.mv (.t 95)), Kn (.st 5 (.t 15) (.t 96))])))
 (.seq (.reg [Ko 97 (.mv (.t 10)), Ko 98 (.len .v (.t 97)), Ko 16 (.mv (.t 98))])
 (.seq (.seq (.reg [Ko 99 (.mv (.t 12)), Ko 100 (.bin .geq (.t 99) (Ki 0))])
 (.cond (.t 100) (.reg [Ko 101 (.mv (.t 16)), Ko 102 (.bin .sub (.t 101) (Ki 1)), Ko 16 (.mv (.t 102))]) .skip))
 (.seq (.seq (.reg [Ko 103 (.mv (.t 11)), Ko 104 (.un .not (.t 103)), Ko 105 (.mv (.t 104)), Kg 106 (.mv (.t 13)) 105 false, Kg 107 (.un .not (.t 106)) 105 false, Ko 108 (.pick (.t 105) (.c (.bool true)) (.t 107)), Ko 109 (.mv (.t 108)), Kg 110 (.mv (.t 14)) 109 false, Kg 111 (.len .v (.t 110)) 109 false, Kg 112 (.mv (.t 16)) 109 false, Kg 113 (.bin .lss (.t 111) (.t 112)) 109 false, Ko 114 (.pick (.t 109) (.c (.bool true)) (.t 113)), Ko 115 (.mv (.t 114)), Kg 116 (.fa 0 (.t 4)) 115 false, Kg 117 (.ld (.t 116)) 115 false, Kg 118 (.bin .eql (.t 117) (Ki 7)) 115 false, Kg 119 (.mv (.t 118)) 115 false, Kg 120 (.mv (.t 12)) 119 true, Kg 121 (.bin .lss (.t 120) (Ki 0)) 119 true, Kg 122 (.pick (.t 119) (.t 121) (.c (.bool false))) 115 false, Kg 123 (.mv (.t 122)) 115 false, Kg 124 (.mv (.t 14)) 123 true, Kg 125 (.len .v (.t 124)) 123 true, Kg 126 (.mv (.t 16)) 123 true, Kg 127 (.bin .gtr (.t 125) (.t 126)) 123 true, Kg 128 (.pick (.t 123) (.t 127) (.c (.bool false))) 115 false, Ko 129 (.pick (.t 115) (.c (.bool true)) (.t 128))])
 (.cond (.t 129) (.seq (.reg [Ko 6 (.mv (.c .nils)), Ko 7 (.mv (.c (.bool false)))])
 .ret) .skip))
 (.seq (.seq (.reg [Ko 130 (.fa 0 (.t 4)), Ko 131 (.ld (.t 130)), Ko 132 (.bin .eql (.t 131) (Ki 6)), Ko 133 (.mv (.t 132)), Kg 134 (.mv (.t 12)) 133 true, Kg 135 (.bin .lss (.t 134) (Ki 0)) 133 true, Ko 136 (.pick (.t 133) (.t 135) (.c (.bool false)))])
 (.cond (.t 136) (.regd [Kd 137 (.mv (.t 14)) 0, Kd 138 (.mv (.t 16)) 0, Kd 139 (.slv 5 (.t 137) none (some (.t 138)) none) 3, Kd 140 (.ldn 5 (.t 5)) 0, Kd 141 (.mv (.t 16)) 0, Kd 142 (.call 33 [.t 140, .t 141]) 24, Kd 14 (.mv (.t 139)) 63, Kf (.st 5 (.t 15) (.t 142)) 127]) .skip))
 (.seq (.reg [Ko 144 (.ldn 1 (.t 3)), Ko 145 (.mv (.t 10)), Ko 146 (.mv (.t 12)), Ko 147 (.mv (.t 14)), Ko 148 (.call 34 [.t 144, .t 145, .t 146, .t 147]), Ko 143 (.mv (.t 148)), Ko 149 (.ex (.t 143) 0), Ko 150 (.ex (.t 143) 1), Ko 17 (.mv (.t 149)), Ko 11 (.mv (.t 150))])
 (.seq (.seq (.reg [Ko 151 (.mv (.t 11)), Ko 152 (.un .not (.t 151)), Ko 153 (.mv (.t 152)), Kg 154 (.fa 0 (.t 4)) 153 false, Kg 155 (.ld (.t 154)) 153 false, Kg 156 (.bin .eql (.t 155) (Ki 7)) 153 false, Ko 157 (.pick (.t 153) (.c (.bool true)) (.t 156))])
 (.cond (.t 157) (.seq (.reg [Ko 158 (.mv (.t 17)), Ko 159 (.mv (.t 11)), Ko 6 (.mv (.t 158)), Ko 7 (.mv (.t 159))])
 .ret) .skip))
 (.seq (.reg [Ko 161 (.ldn 1 (.t 3)), Ko 162 (.ldn 5 (.t 9)), Ko 163 (.ldn 5 (.t 15)), Ko 164 (.call 13 [.t 161, .t 162, .t 163]), Ko 160 (.mv (.t 164)), Ko 165 (.ex (.t 160) 0), Ko 166 (.ex (.t 160) 1), Ko 18 (.mv (.t 165)), Ko 11 (.mv (.t 166))])
 (.seq (.seq (.reg [Ko 167 (.mv (.t 11)), Ko 168 (.un .not (.t 167))])
 (.cond (.t 168) (.seq (.reg [Ko 6 (.mv (.c .nils)), Ko 7 (.mv (.c (.bool false)))])
 .ret) .skip))
 (.seq (.reg [Ko 169 (.mv (.t 17)), Ko 170 (.mv (.t 18)), Ko 171 (.app 67 7 96 (.t 169) (.t 170)), Ko 6 (.mv (.t 171)), Ko 7 (.mv (.c (.bool true)))])
 .ret)))))))))))))))))⟩
def f14 : IFunc := ⟨64, [.t 6], (.seq (.reg [Ko 3 (.box 46 (.t 0)), Ko 4 (.box 25 (.t 1)), Ko 6 (.mv (.c .nils))])
 (.seq (.block 0 (.seq (.reg [Ko 14 (.ldn 1 (.t 3)), Ko 15 (.ldn 5 (.t 4)), Ko 16 (.call 24 [.t 14, .t 15]), Ko 13 (.mv (.t 16))])
 (.cond (.t 13) (.seq (.reg [Ko 17 (.fa 2 (.t 4)), Ko 18 (.ld (.t 17)), Ko 19 (.fa 1 (.t 4)), Ko 20 (.ld (.t 19)), Ko 21 (.mv (.t 2)), Ko 22 (.build [(.str []), (.int .i64 (.ofNat 0)), (.int .i64 (.ofNat 0))] [(0, 1, (.t 18)), (1, 1, (.t 20)), (2, 1, (.t 21))]), Ko 23 (.bsl 77 [(.str []), (.int .i64 (.ofNat 0)), (.int .i64 (.ofNat 0))] 1 [(0, 3, (.t 22))]), Ko 6 (.mv (.t 23))])
 .ret) (.seq (.reg [Ko 25 (.ldn 5 (.t 4)), Ko 26 (.call 27 [.t 25]), Ko 27 (.un .not (.t 26)), Ko 24 (.mv (.t 27))])
 (.cond (.t 24) (.seq (.reg [Ko 6 (.mv (.c .nils))])
 .ret) .skip)))))
 (.seq (.reg [Ko 29 (.ldn 5 (.t 4)), Ko 30 (.call 29 [.t 29]), Ko 28 (.mv (.t 30)), Ko 31 (.ex (.t 28) 0), Ko 32 (.ex (.t 28) 1), Ko 8 (.alloc 25 [(.int .i64 (.ofNat 0)), (.int .i64 (.ofNat 0)), (.str []), .nils, (.int .i64 (.ofNat 0))]), Ko 7 (.mv (.t 31)), Kn (.st 5 (.t 8) (.t 32))])
 (.seq (.reg [Ko 34 (.mv (.t 7)), Ko 35 (.ldn 1 (.t 3)), Ko 36 (.mfn 25 [.t 35] []), Ko 37 (.call 30 [.t 34, .t 36]), Ko 33 (.mv (.t 37)), Ko 38 (.ex (.t 33) 0), Ko 39 (.ex (.t 33) 1), Ko 9 (.mv (.t 38)), Ko 10 (.mv (.t 39))])
 (.seq (.seq (.reg [Ko 40 (.mv (.t 9)), Ko 41 (.len .v (.t 40)), Ko 42 (.mv (Ki 0))])
 (.block 1 (.loop (.seq (.reg [Ko 43 (.bin .lss (.t 42) (.t 41))])
 (.seq (.cond (.t 43) .skip (.exit 1))
 (.seq (.block 2 (.seq (.reg [Ko 44 (.ia 6 (.t 40) (.t 42)), Ko 45 (.ldn 6 (.t 44)), Ko 12 (.alloc 79 [(.int .i64 (.ofNat 0)), (.int .i64 (.ofNat 0)), (.str []), .nils, (.int .i64 (.ofNat 0)), (.int .i64 (.ofNat 0))]), Kn (.st 6 (.t 12) (.t 45))])
 (.reg [Ko 46 (.mv (.t 6)), Ko 47 (.ldn 1 (.t 3)), Ko 48 (.fa 0 (.t 12)), Ko 49 (.ldn 5 (.t 48)), Ko 50 (.mv (.t 2)), Ko 51 (.fa 5 (.t 12)), Ko 52 (.ld (.t 51)), Ko 53 (.mn [.t 52, Ki 1]), Ko 54 (.bin .add (.t 50) (.t 53)), Ko 55 (.call 14 [.t 47, .t 49, .t 54]), Ko 56 (.app 77 3 32 (.t 46) (.t 55)), Ko 6 (.mv (.t 56))])))
 (.reg [Ko 57 (.bin .add (.t 42) (Ki 1)), Ko 42 (.mv (.t 57))])))))))
 (.seq (.reg [Ko 58 (.mv (.t 6)), Ko 59 (.ldn 1 (.t 3)), Ko 60 (.ldn 5 (.t 8)), Ko 61 (.mv (.t 2)), Ko 62 (.call 14 [.t 59, .t 60, .t 61]), Ko 63 (.app 77 3 32 (.t 58) (.t 62)), Ko 6 (.mv (.t 63))])
 .ret))))))⟩
def f15 : IFunc := ⟨92, [.t 6, .t 7], (.seq (.reg [Ko 4 (.box 25 (.t 1)), Ko 6 (.mv (.c (.bool false))), Ko 7 (.mv (.c (.bool false)))])
 (.seq (.seq (.reg [Ko 17 (.mv (.t 0)), Ko 18 (.ldn 5 (.t 4)), Ko 19 (.call 35 [.t 17, .t 18]), Ko 8 (.mv (.t 19))])
 (.seq (.reg [Ko 20 (.mv (.t 8)), Ko 21 (.bin .geq (.t 20) (Ki 0))])
 (.cond (.t 21) (.seq (.reg [Ko 22 (.mv (.t 0)), Ko 23 (.mv (.t 8)), Ko 24 (.ia 3 (.t 22) (.t 23)), Ko 25 (.fa 2 (.t 24)), Ko 26 (.ld (.t 25)), Ko 9 (.mv (.t 26))])
 (.seq (.reg [Ko 27 (.mv (.t 9)), Ko 28 (.bin .gtr (.t 27) (Ki 0)), Ko 29 (.mv (.t 9)), Ko 30 (.bin .eql (.t 29) (Ki 0)), Ko 31 (.mv (.t 30)), Kg 32 (.mv (.t 9)) 31 false, Kg 33 (.mv (.t 2)) 31 false, Kg 34 (.bin .eql (.t 32) (.t 33)) 31 false, Ko 35 (.pick (.t 31) (.c (.bool true)) (.t 34)), Ko 6 (.mv (.t 28)), Ko 7 (.mv (.t 35))])
 .ret)) .skip)))
 (.seq (.seq (.reg [Ko 36 (.ldn 5 (.t 4)), Ko 37 (.call 27 [.t 36]), Ko 38 (.un .not (.t 37))])
 (.cond (.t 38) (.seq (.reg [Ko 39 (.ldn 5 (.t 4)), Ko 40 (.call 36 [.t 39]), Ko 41 (.un .not (.t 40)), Ko 6 (.mv (.c (.bool false))), Ko 7 (.mv (.t 41))])
 .ret) .skip))
 (.seq (.reg [Ko 43 (.ldn 5 (.t 4)), Ko 44 (.call 29 [.t 43]), Ko 42 (.mv (.t 44)), Ko 45 (.ex (.t 42) 0), Ko 46 (.ex (.t 42) 1), Ko 11 (.alloc 25 [(.int .i64 (.ofNat 0)), (.int .i64 (.ofNat 0)), (.str []), .nils, (.int .i64 (.ofNat 0))]), Ko 10 (.mv (.t 45)), Kn (.st 5 (.t 11) (.t 46))])
 (.seq (.reg [Ko 48 (.mv (.t 10)), Ko 49 (.call 30 [(.t 48), (.c (.fn 36 [] []))]), Ko 47 (.mv (.t 49)), Ko 50 (.ex (.t 47) 0), Ko 51 (.ex (.t 47) 1), Ko 12 (.mv (.t 50)), Ko 7 (.mv (.t 51))])
 (.seq (.seq (.reg [Ko 52 (.mv (.t 7)), Ko 53 (.un .not (.t 52))])
 (.cond (.t 53) (.seq (.reg [Ko 6 (.mv (.c (.bool false))), Ko 7 (.mv (.c (.bool false)))])
 .ret) .skip))
 (.seq (.seq (.reg [Ko 54 (.mv (.t 12)), Ko 55 (.ldn 5 (.t 11)), Ko 56 (.build [(.int .i64 (.ofNat 0)), (.int .i64 (.ofNat 0)), (.str []), .nils, (.int .i64 (.ofNat 0)), (.int .i64 (.ofNat 0))] [(0, 5, (.t 55))]), Ko 57 (.bsl 79 [(.int .i64 (.ofNat 0)), (.int .i64 (.ofNat 0)), (.str []), .nils, (.int .i64 (.ofNat 0)), (.int .i64 (.ofNat 0))] 1 [(0, 6, (.t 56))]), Ko 58 (.app 79 6 72 (.t 54) (.t 57)), Ko 59 (.len .v (.t 58)), Ko 60 (.mv (Ki 0))])
 (.block 0 (.loop (.seq (.reg [Ko 61 (.bin .lss (.t 60) (.t 59))])
 (.seq (.cond (.t 61) .skip (.exit 0))
 (.seq (.block 1 (.seq (.reg [Ko 62 (.ia 6 (.t 58) (.t 60)), Ko 63 (.ldn 6 (.t 62)), Ko 14 (.alloc 79 [(.int .i64 (.ofNat 0)), (.int .i64 (.ofNat 0)), (.str []), .nils, (.int .i64 (.ofNat 0)), (.int .i64 (.ofNat 0))]), Kn (.st 6 (.t 14) (.t 63))])
 (.seq (.reg [Ko 65 (.mv (.t 0)), Ko 66 (.fa 0 (.t 14)), Ko 67 (.ldn 5 (.t 66)), Ko 68 (.mv (.t 2)), Ko 69 (.fa 5 (.t 14)), Ko 70 (.ld (.t 69)), Ko 71 (.bin .add (.t 68) (.t 70)), Ko 72 (.call 15 [.t 65, .t 67, .t 71]), Ko 64 (.mv (.t 72)), Ko 73 (.ex (.t 64) 0), Ko 74 (.ex (.t 64) 1), Ko 15 (.mv (.t 73)), Ko 16 (.mv (.t 74))])
 (.seq (.seq (.reg [Ko 75 (.mv (.t 16)), Ko 76 (.un .not (.t 75)), Ko 77 (.mv (.t 76)), Kg 78 (.fa 5 (.t 14)) 77 false, Kg 79 (.ld (.t 78)) 77 false, Kg 80 (.bin .gtr (.t 79) (Ki 0)) 77 false, Kg 81 (.mv (.t 80)) 77 false, Kg 82 (.mv (.t 15)) 81 true, Kg 83 (.un .not (.t 82)) 81 true, Kg 84 (.pick (.t 81) (.t 83) (.c (.bool false))) 77 false, Ko 85 (.pick (.t 77) (.c (.bool true)) (.t 84))])
 (.cond (.t 85) (.seq (.reg [Ko 6 (.mv (.c (.bool false))), Ko 7 (.mv (.c (.bool false)))])
 .ret) .skip))
 (.reg [Ko 86 (.mv (.t 6)), Ko 87 (.mv (.t 86)), Kg 88 (.mv (.t 15)) 87 false, Ko 89 (.pick (.t 87) (.c (.bool true)) (.t 88)), Ko 6 (.mv (.t 89))])))))
 (.reg [Ko 90 (.bin .add (.t 60) (Ki 1)), Ko 60 (.mv (.t 90))])))))))
 (.seq (.reg [Ko 91 (.mv (.t 6)), Ko 6 (.mv (.t 91)), Ko 7 (.mv (.c (.bool true)))])
 .ret))))))))⟩
def f16 : IFunc := ⟨75, [], (.seq (.reg [Ko 3 (.box 25 (.t 1))])
 (.block 0 (.seq (.regd [Kd 9 (.mv (.t 0)) 0, Kd 10 (.nck (.t 9)) 1, Kd 11 (.fa 0 (.t 10)) 3, Kd 12 (.ld (.t 11)) 7, Kd 13 (.ldn 5 (.t 3)) 0, Kd 14 (.call 35 [.t 12, .t 13]) 31, Kd 15 (.bin .geq (.t 14) (Ki 0)) 63, Kd 16 (.mv (.t 15)) 127, Ke 17 (.ldn 5 (.t 3)) 16 false 255, Ke 18 (.call 36 [.t 17]) 16 false 511, Kd 19 (.pick (.t 16) (.c (.bool true)) (.t 18)) 1023, Kd 8 (.mv (.t 19)) 2047])
 (.cond (.t 8) .skip (.seq (.reg [Ko 21 (.fa 0 (.t 3)), Ko 22 (.ld (.t 21)), Ko 23 (.bin .eql (.t 22) (Ki 5)), Ko 20 (.mv (.t 23))])
 (.cond (.t 20) (.seq (.reg [Ko 24 (.mv (.t 0)), Ko 25 (.nck (.t 24)), Ko 26 (.fa 1 (.t 25)), Ko 27 (.ld (.t 26)), Ko 28 (.mfn 38 [] [.t 3]), Ko 29 (.call 37 [.t 27, .t 28]), Ko 30 (.un .not (.t 29))])
 (.cond (.t 30) (.both 31 32 (.seq (.reg [Ko 33 (.mv (.t 0)), Ko 34 (.nck (.t 33)), Ko 35 (.fa 1 (.t 34)), Ko 36 (.ld (.t 35)), Ko 37 (.len .v (.t 36)), Ko 38 (.bsl 25 [(.int .i64 (.ofNat 0)), (.int .i64 (.ofNat 0)), (.str []), .nils, (.int .i64 (.ofNat 0))] 1 [(0, 5, (.c (.agg [(.int .i64 (.ofNat 0)), (.int .i64 (.ofNat 0)), (.str []), .nils, (.int .i64 (.ofNat 0))])))]), Ko 39 (.app 25 5 64 (.t 36) (.t 38)), Ko 40 (.nck (.t 33)), Ko 41 (.fa 1 (.t 40)), Kn (.st 1 (.t 41) (.t 39))])
 (.reg [Ko 42 (.ldn 5 (.t 3)), Ko 43 (.ia 5 (.t 39) (.t 37)), Kn (.st 5 (.t 43) (.t 42))]))
 (.regd [Kd 44 (.mv (.t 0)) 0, Kd 45 (.mv (.t 0)) 0, Kd 46 (.nck (.t 45)) 2, Kd 47 (.fa 1 (.t 46)) 6, Kd 48 (.ld (.t 47)) 14, Kd 49 (.ldn 5 (.t 3)) 0, Kd 50 (.bsl 25 [(.int .i64 (.ofNat 0)), (.int .i64 (.ofNat 0)), (.str []), .nils, (.int .i64 (.ofNat 0))] 1 [(0, 5, (.t 49))]) 32, Kd 51 (.app 25 5 64 (.t 48) (.t 50)) 126, Kd 52 (.nck (.t 44)) 255, Kd 53 (.fa 1 (.t 52)) 511, Kf (.st 1 (.t 53) (.t 51)) 1023])) .skip)) (.seq (.reg [Ko 55 (.ldn 5 (.t 3)), Ko 56 (.call 27 [.t 55]), Ko 54 (.mv (.t 56))])
 (.cond (.t 54) (.seq (.reg [Ko 58 (.ldn 5 (.t 3)), Ko 59 (.call 29 [.t 58]), Ko 57 (.mv (.t 59)), Ko 60 (.ex (.t 57) 0), Ko 61 (.ex (.t 57) 1), Ko 5 (.alloc 25 [(.int .i64 (.ofNat 0)), (.int .i64 (.ofNat 0)), (.str []), .nils, (.int .i64 (.ofNat 0))]), Ko 4 (.mv (.t 60)), Kn (.st 5 (.t 5) (.t 61))])
 (.seq (.seq (.reg [Ko 62 (.mv (.t 4)), Ko 63 (.len .v (.t 62)), Ko 64 (.mv (Ki 0))])
 (.block 1 (.loop (.seq (.reg [Ko 65 (.bin .lss (.t 64) (.t 63))])
 (.seq (.cond (.t 65) .skip (.exit 1))
 (.seq (.block 2 (.seq (.reg [Ko 66 (.ia 5 (.t 62) (.t 64)), Ko 67 (.ldn 5 (.t 66)), Ko 7 (.alloc 25 [(.int .i64 (.ofNat 0)), (.int .i64 (.ofNat 0)), (.str []), .nils, (.int .i64 (.ofNat 0))]), Kn (.st 5 (.t 7) (.t 67))])
 (.reg [Ko 68 (.mv (.t 0)), Ko 69 (.ldn 5 (.t 7)), Ko 70 (.call 16 [.t 68, .t 69])])))
 (.reg [Ko 71 (.bin .add (.t 64) (Ki 1)), Ko 64 (.mv (.t 71))])))))))
 (.reg [Ko 72 (.mv (.t 0)), Ko 73 (.ldn 5 (.t 5)), Ko 74 (.call 16 [.t 72, .t 73])]))) .skip))))))))⟩
def f17 : IFunc := ⟨113, [.cn 6 5], (.seq (.reg [Ko 3 (.box 52 (.t 0)), Ko 4 (.box 25 (.t 1)), Ko 6 (.alloc 25 [(.int .i64 (.ofNat 0)), (.int .i64 (.ofNat 0)), (.str []), .nils, (.int .i64 (.ofNat 0))])])
 (.seq (.seq (.regd [Kd 18 (.ld (.t 3)) 0, Kd 19 (.nck (.t 18)) 1, Kd 20 (.fa 0 (.t 19)) 3, Kd 21 (.ld (.t 20)) 7, Kd 22 (.ldn 5 (.t 4)) 0, Kd 23 (.call 35 [.t 21, .t 22]) 31, Kd 7 (.mv (.t 23)) 63])
 (.seq (.reg [Ko 24 (.mv (.t 7)), Ko 25 (.bin .geq (.t 24) (Ki 0))])
 (.cond (.t 25) (.seq (.reg [Ko 26 (.mv (.t 2)), Ko 27 (.mv (.t 7)), Ko 28 (.ia 7 (.t 26) (.t 27)), Ko 29 (.fa 1 (.t 28)), Ko 30 (.ldn 5 (.t 29)), Kn (.st 5 (.t 6) (.t 30))])
 .ret) .skip)))
 (.seq (.seq (.reg [Ko 31 (.ldn 5 (.t 4)), Ko 32 (.call 27 [.t 31]), Ko 33 (.un .not (.t 32))])
 (.cond (.t 33) (.seq (.reg [Ko 34 (.ld (.t 3)), Ko 35 (.call 40 [.t 34])])
 (.seq (.reg [Ko 36 (.ld (.t 3)), Ko 37 (.nck (.t 36)), Ko 38 (.fa 3 (.t 37)), Ko 39 (.ld (.t 38)), Ko 40 (.fa 4 (.t 4)), Kn (.st 1 (.t 40) (.t 39))])
 (.seq (.seq (.reg [Ko 41 (.fa 0 (.t 4)), Ko 42 (.ld (.t 41)), Ko 43 (.bin .eql (.t 42) (Ki 5))])
 (.cond (.t 43) (.regd [Kd 44 (.ld (.t 3)) 0, Kd 45 (.nck (.t 44)) 1, Kd 46 (.fa 2 (.t 45)) 3, Kd 47 (.ld (.t 46)) 7, Kd 48 (.ld (.t 3)) 0, Kd 49 (.nck (.t 48)) 16, Kd 50 (.fa 1 (.t 49)) 48, Kd 51 (.ld (.t 50)) 112, Kd 52 (.mfn 42 [] [.t 4]) 0, Kd 53 (.call 41 [.t 51, .t 52]) 496, Kd 54 (.bin .add (.t 47) (.t 53)) 1023, Kd 55 (.fa 1 (.t 4)) 2047, Kf (.st 1 (.t 55) (.t 54)) 4095]) .skip))
 (.seq (.reg [Ko 56 (.ldn 5 (.t 4)), Kn (.st 5 (.t 6) (.t 56))])
 .ret)))) .skip))
 (.seq (.reg [Ko 58 (.ldn 5 (.t 4)), Ko 59 (.call 29 [.t 58]), Ko 57 (.mv (.t 59)), Ko 60 (.ex (.t 57) 0), Ko 61 (.ex (.t 57) 1), Ko 9 (.alloc 25 [(.int .i64 (.ofNat 0)), (.int .i64 (.ofNat 0)), (.str []), .nils, (.int .i64 (.ofNat 0))]), Ko 8 (.mv (.t 60)), Kn (.st 5 (.t 9) (.t 61))])
 (.seq (.reg [Ko 63 (.mv (.t 8)), Ko 64 (.call 30 [(.t 63), (.c (.fn 36 [] []))]), Ko 62 (.mv (.t 64)), Ko 65 (.ex (.t 62) 0), Ko 66 (.ex (.t 62) 1), Ko 10 (.mv (.t 65)), Ko 11 (.mv (.t 66))])
 (.seq (.reg [Ko 12 (.alloc 23 [.nils])])
 (.seq (.seq (.reg [Ko 67 (.mv (.t 10)), Ko 68 (.len .v (.t 67)), Ko 69 (.mv (Ki 0))])
 (.block 0 (.loop (.seq (.reg [Ko 70 (.bin .lss (.t 69) (.t 68))])
 (.seq (.cond (.t 70) .skip (.exit 0))
 (.seq (.block 1 (.seq (.reg [Ko 71 (.ia 6 (.t 67) (.t 69)), Ko 72 (.ldn 6 (.t 71)), Ko 14 (.alloc 79 [(.int .i64 (.ofNat 0)), (.int .i64 (.ofNat 0)), (.str []), .nils, (.int .i64 (.ofNat 0)), (.int .i64 (.ofNat 0))]), Kn (.st 6 (.t 14) (.t 72))])
 (.seq (.reg [Ko 73 (.ld (.t 3)), Ko 74 (.ldn 6 (.t 14)), Ko 75 (.mv (.t 2)), Ko 76 (.mfn 44 [] [.t 4, .t 3, .t 12]), Ko 77 (.call 43 [.t 73, .t 74, .t 75, .t 76])])
 (.seq (.reg [Ko 78 (.ld (.t 3)), Ko 79 (.nck (.t 78)), Ko 80 (.fa 5 (.t 79)), Ko 81 (.ld (.t 80)), Ko 82 (.bin .neq (.t 81) (Ki 0))])
 (.cond (.t 82) (.seq (.reg [Ko 83 (.build [(.int .i64 (.ofNat 0)), (.int .i64 (.ofNat 0)), (.str []), .nils, (.int .i64 (.ofNat 0))] []), Kn (.st 5 (.t 6) (.t 83))])
 .ret) .skip)))))
 (.reg [Ko 84 (.bin .add (.t 69) (Ki 1)), Ko 69 (.mv (.t 84))])))))))
 (.seq (.seq (.reg [Ko 85 (.fa 0 (.t 4)), Ko 86 (.ld (.t 85)), Ko 87 (.bin .eql (.t 86) (Ki 7))])
 (.cond (.t 87) (.seq (.reg [Ko 88 (.ld (.t 3)), Ko 89 (.call 40 [.t 88])])
 (.seq (.regd [Kd 90 (.ld (.t 12)) 0, Kd 91 (.ld (.t 3)) 0, Kd 92 (.nck (.t 91)) 2, Kd 93 (.fa 3 (.t 92)) 6, Kd 94 (.ld (.t 93)) 14, Kd 95 (.build [(.int .i64 (.ofNat 0)), (.int .i64 (.ofNat 0)), (.str []), .nils, (.int .i64 (.ofNat 0))] [(0, 1, (Ki 7)), (3, 1, (.t 90)), (4, 1, (.t 94))]) 31, Kf (.st 5 (.t 6) (.t 95)) 63])
 .ret)) .skip))
 (.seq (.reg [Ko 96 (.ld (.t 3)), Ko 97 (.ldn 5 (.t 9)), Ko 98 (.mv (.t 2)), Ko 99 (.call 17 [.t 96, .t 97, .t 98]), Ko 15 (.alloc 25 [(.int .i64 (.ofNat 0)), (.int .i64 (.ofNat 0)), (.str []), .nils, (.int .i64 (.ofNat 0))]), Kn (.st 5 (.t 15) (.t 99))])
 (.seq (.seq (.reg [Ko 100 (.ld (.t 12)), Ko 101 (.call 45 [.t 100])])
 (.block 2 (.rf (.t 101) [102, 103] (.reg [Ko 17 (.alloc 25 [(.int .i64 (.ofNat 0)), (.int .i64 (.ofNat 0)), (.str []), .nils, (.int .i64 (.ofNat 0))]), Kn (.st 5 (.t 17) (.t 103))]) (.block 3 (.regd [Kd 104 (.ldn 5 (.t 17)) 0, Kd 105 (.ldn 5 (.t 15)) 0, Kd 106 (.bsl 25 [(.int .i64 (.ofNat 0)), (.int .i64 (.ofNat 0)), (.str []), .nils, (.int .i64 (.ofNat 0)), (.int .i64 (.ofNat 0)), (.int .i64 (.ofNat 0)), (.str []), .nils, (.int .i64 (.ofNat 0))] 2 [(0, 5, (.t 104)), (5, 5, (.t 105))]) 3, Kd 107 (.ld (.t 3)) 0, Kd 108 (.nck (.t 107)) 8, Kd 109 (.fa 3 (.t 108)) 24, Kd 110 (.ld (.t 109)) 56, Kd 111 (.build [(.int .i64 (.ofNat 0)), (.int .i64 (.ofNat 0)), (.str []), .nils, (.int .i64 (.ofNat 0))] [(0, 1, (Ki 6)), (3, 1, (.t 106)), (4, 1, (.t 110))]) 127, Kf (.st 5 (.t 15) (.t 111)) 255])))))
 (.seq (.reg [Ko 112 (.ldn 5 (.t 15)), Kn (.st 5 (.t 6) (.t 112))])
 .ret)))))))))))⟩
def f18 : IFunc := ⟨27, [.t 2, .cn 3 5], (.seq (.reg [Ko 1 (.box 25 (.t 0)), Ko 2 (.mv (.c .nils)), Ko 3 (.alloc 25 [(.int .i64 (.ofNat 0)), (.int .i64 (.ofNat 0)), (.str []), .nils, (.int .i64 (.ofNat 0))])])
 (.seq (.reg [Ko 4 (.mv (.c .nils))])
 (.seq (.block 0 (.loop (.seq (.seq (.reg [Ko 5 (.fa 0 (.t 1)), Ko 6 (.ld (.t 5)), Ko 7 (.bin .eql (.t 6) (Ki 6)), Ko 8 (.mv (.t 7)), Kg 9 (.fa 3 (.t 1)) 8 true, Kg 10 (.ld (.t 9)) 8 true, Kg 11 (.len .v (.t 10)) 8 true, Kg 12 (.bin .eql (.t 11) (Ki 2)) 8 true, Ko 13 (.pick (.t 8) (.t 12) (.c (.bool false)))])
 (.cond (.t 13) .skip (.exit 0)))
 (.block 1 (.seq (.reg [Ko 14 (.mv (.t 4)), Ko 15 (.fa 3 (.t 1)), Ko 16 (.ld (.t 15)), Ko 17 (.ia 5 (.t 16) (Ki 0)), Ko 18 (.ldn 5 (.t 17)), Ko 19 (.bsl 25 [(.int .i64 (.ofNat 0)), (.int .i64 (.ofNat 0)), (.str []), .nils, (.int .i64 (.ofNat 0))] 1 [(0, 5, (.t 18))]), Ko 20 (.app 25 5 64 (.t 14) (.t 19)), Ko 4 (.mv (.t 20))])
 (.reg [Ko 21 (.fa 3 (.t 1)), Ko 22 (.ld (.t 21)), Ko 23 (.ia 5 (.t 22) (Ki 1)), Ko 24 (.ldn 5 (.t 23)), Kn (.st 5 (.t 1) (.t 24))]))))))
 (.seq (.regd [Kd 25 (.mv (.t 4)) 0, Kd 26 (.ldn 5 (.t 1)) 0, Kd 2 (.mv (.t 25)) 1, Kf (.st 5 (.t 3) (.t 26)) 7])
 .ret))))⟩
def f19 : IFunc := ⟨34, [.t 2, .t 3], (.seq (.reg [Ko 2 (.mv (.c .nils)), Ko 3 (.mv (Ki 0))])
 (.seq (.reg [Ko 10 (.mv (.t 0)), Ko 11 (.csb 5 (.t 10)), Ko 12 (.call 46 [.t 11]), Ko 9 (.mv (.t 12)), Ko 13 (.ex (.t 9) 0), Ko 14 (.ex (.t 9) 1), Ko 15 (.ex (.t 9) 2), Ko 4 (.mv (.t 13)), Ko 5 (.mv (.t 14)), Ko 6 (.mv (.t 15))])
 (.seq (.seq (.reg [Ko 16 (.mv (.t 5)), Ko 17 (.bin .neq (.t 16) (Ki 0))])
 (.cond (.t 17) (.seq (.reg [Ko 18 (.mv (.t 5)), Ko 2 (.mv (.c .nils)), Ko 3 (.mv (.t 18))])
 .ret) .skip))
 (.seq (.reg [Ko 7 (.mv (.c .nils))])
 (.seq (.seq (.reg [Ko 8 (.mv (Ki 0))])
 (.block 0 (.loop (.seq (.seq (.reg [Ko 19 (.mv (.t 8)), Ko 20 (.mv (.t 4)), Ko 21 (.len .v (.t 20)), Ko 22 (.bin .lss (.t 19) (.t 21))])
 (.cond (.t 22) .skip (.exit 0)))
 (.seq (.block 1 (.reg [Ko 25 (.mv (.t 7)), Ko 26 (.mv (.t 4)), Ko 27 (.mv (.t 8)), Ko 28 (.ia 2 (.t 26) (.t 27)), Ko 29 (.fa 0 (.t 28)), Ko 30 (.ld (.t 29)), Ko 31 (.bsl 3 [.int .i64 (.ofNat 0)] 1 [(0, 1, (.t 30))]), Ko 32 (.app 3 1 8 (.t 25) (.t 31)), Ko 7 (.mv (.t 32))]))
 (.reg [Ko 23 (.mv (.t 8)), Ko 24 (.bin .add (.t 23) (Ki 1)), Ko 8 (.mv (.t 24))]))))))
 (.seq (.reg [Ko 33 (.mv (.t 7)), Ko 2 (.mv (.t 33)), Ko 3 (.mv (Ki 0))])
 .ret))))))⟩
def f20 : IFunc := ⟨40, [.t 2], (.seq (.reg [Ko 2 (.mv (.c (.bool false)))])
 (.seq (.seq (.reg [Ko 4 (.mv (.t 0)), Ko 5 (.bin .eql (.t 4) (.c (.str [48])))])
 (.cond (.t 5) (.seq (.reg [Ko 2 (.mv (.c (.bool true)))])
 .ret) .skip))
 (.seq (.seq (.reg [Ko 6 (.mv (.t 0)), Ko 7 (.len .s (.t 6)), Ko 8 (.bin .gtr (.t 7) (Ki 0)), Ko 9 (.mv (.t 8)), Kg 10 (.mv (.t 0)) 9 true, Kg 11 (.ixs (.t 10) (Ki 0)) 9 true, Kg 12 (.bin .eql (.t 11) (.c (.int .u8 (.ofNat 45)))) 9 true, Ko 13 (.pick (.t 9) (.t 12) (.c (.bool false)))])
 (.cond (.t 13) (.reg [Ko 14 (.mv (.t 0)), Ko 15 (.sls (.t 14) (some (Ki 1)) none), Ko 0 (.mv (.t 15))]) .skip))
 (.seq (.seq (.reg [Ko 16 (.mv (.t 0)), Ko 17 (.len .s (.t 16)), Ko 18 (.bin .eql (.t 17) (Ki 0)), Ko 19 (.mv (.t 18)), Kg 20 (.mv (.t 0)) 19 false, Kg 21 (.ixs (.t 20) (Ki 0)) 19 false, Kg 22 (.bin .eql (.t 21) (.c (.int .u8 (.ofNat 48)))) 19 false, Ko 23 (.pick (.t 19) (.c (.bool true)) (.t 22))])
 (.cond (.t 23) (.seq (.reg [Ko 2 (.mv (.c (.bool false)))])
 .ret) .skip))
 (.seq (.seq (.reg [Ko 3 (.mv (Ki 0))])
 (.block 0 (.loop (.seq (.seq (.reg [Ko 24 (.mv (.t 3)), Ko 25 (.mv (.t 0)), Ko 26 (.len .s (.t 25)), Ko 27 (.bin .lss (.t 24) (.t 26))])
 (.cond (.t 27) .skip (.exit 0)))
 (.seq (.block 1 (.seq (.reg [Ko 30 (.mv (.t 0)), Ko 31 (.mv (.t 3)), Ko 32 (.ixs (.t 30) (.t 31)), Ko 33 (.bin .lss (.t 32) (.c (.int .u8 (.ofNat 48)))), Ko 34 (.mv (.t 33)), Kg 35 (.mv (.t 0)) 34 false, Kg 36 (.mv (.t 3)) 34 false, Kg 37 (.ixs (.t 35) (.t 36)) 34 false, Kg 38 (.bin .gtr (.t 37) (.c (.int .u8 (.ofNat 57)))) 34 false, Ko 39 (.pick (.t 34) (.c (.bool true)) (.t 38))])
 (.cond (.t 39) (.seq (.reg [Ko 2 (.mv (.c (.bool false)))])
 .ret) .skip)))
 (.reg [Ko 28 (.mv (.t 3)), Ko 29 (.bin .add (.t 28) (Ki 1)), Ko 3 (.mv (.t 29))]))))))
 (.seq (.reg [Ko 2 (.mv (.c (.bool true)))])
 .ret))))))⟩
def f21 : IFunc := ⟨17, [.t 2], (.seq (.reg [Ko 2 (.mv (.c (.bool false)))])
 (.seq (.reg [Ko 3 (.mv (.t 0)), Ko 4 (.bin .geq (.t 3) (Ki 0)), Ko 5 (.mv (.t 4)), Kg 6 (.mv (.t 0)) 5 true, Kg 7 (.bin .leq (.t 6) (Ki 1114111)) 5 true, Ko 8 (.pick (.t 5) (.t 7) (.c (.bool false))), Ko 9 (.mv (.t 8)), Kg 10 (.mv (.t 0)) 9 true, Kg 11 (.bin .lss (.t 10) (Ki 55296)) 9 true, Kg 12 (.mv (.t 11)) 9 true, Kg 13 (.mv (.t 0)) 12 false, Kg 14 (.bin .gtr (.t 13) (Ki 57343)) 12 false, Kg 15 (.pick (.t 12) (.c (.bool true)) (.t 14)) 9 true, Ko 16 (.pick (.t 9) (.t 15) (.c (.bool false))), Ko 2 (.mv (.t 16))])
 .ret))⟩
def f22 : IFunc := ⟨23, [.cn 2 5], (Kr [Ko 2 (.alloc 25 [Kv 0, Kv 0, (.str []), .nils, Kv 0])]
 (Kr [Km 6 0, Ko 7 (.csb 5 6), Ko 8 (.call 47 [7]), Km 5 8, Ko 9 (.ex 5 0), Ko 10 (.ex 5 1), Ko 4 (.alloc 97 [Kv 0, Kv 0]), Km 3 9, Kn (.st 2 4 10)]
 (.seq (Kr [Ko 11 (.fa 0 4), Ko 12 (.ld 11), Ko 13 (.bin .neq 12 (Ki 0)), Km 14 13, Kg 15 (.mv 3) 14 false, Kg 16 (.len .v 15) 14 false, Kg 17 (.bin .neq 16 (Ki 1)) 14 false, Ko 18 (.pick 14 KT 17)]
 (.cond 18 (Kr [Ko 19 (.build [Kv 0, Kv 0, (.str []), .nils, Kv 0] [(0, 1, (.c (.int .i64 (.negSucc 0))))]), Kn (.st 5 2 19)]
 .ret) .skip))
 (Kr [Km 20 3, Ko 21 (.ia 5 20 (Ki 0)), Ko 22 (.ldn 5 21), Kn (.st 5 2 22)]
 .ret))))⟩
def f23 : IFunc := ⟨19, [.t 4], (Kr [Ko 2 (.box 25 0), Ko 4 (.mv (.c (.str [])))]
 (.seq (Kr [Ko 6 (.ldn 5 2), Ko 7 (.call 48 [6]), Ko 8 (.un .not 7)]
 (.cond 8 (Kr [Ko 4 (.mv (.c (.str [])))]
 .ret) .skip))
 (Kr [Km 9 1, Ko 10 (.build [.nilp, .nils, .bool false] [(2, 1, 9)]), Ko 11 (.box 105 10), Km 5 11]
 (Kr [Km 12 5, Ko 13 (.ldn 5 2), Ko 14 (.call 49 [12, 13])]
 (Kr [Km 15 5, Ko 16 (.nck 15), Ko 17 (.fa 0 16), Ko 18 (.call 50 [17]), Km 4 18]
 .ret)))))⟩
def f24 : IFunc := ⟨24, [.t 4], (.seq (.reg [Ko 2 (.box 46 (.t 0)), Ko 3 (.box 25 (.t 1)), Ko 4 (.mv (.c (.bool false)))])
 (.seq (.reg [Ko 5 (.fa 0 (.t 3)), Ko 6 (.ld (.t 5)), Ko 7 (.bin .eql (.t 6) (Ki 5)), Ko 8 (.mv (.t 7)), Kg 9 (.ldn 1 (.t 2)) 8 true, Kg 10 (.ldn 5 (.t 3)) 8 true, Kg 11 (.call 26 [.t 9, .t 10]) 8 true, Kg 12 (.un .not (.t 11)) 8 true, Ko 13 (.pick (.t 8) (.t 12) (.c (.bool false))), Ko 14 (.mv (.t 13)), Kg 15 (.fa 2 (.t 3)) 14 true, Kg 16 (.ld (.t 15)) 14 true, Kg 17 (.bin .neq (.t 16) (.c (.str [95]))) 14 true, Ko 18 (.pick (.t 14) (.t 17) (.c (.bool false))), Ko 19 (.mv (.t 18)), Kg 20 (.fa 2 (.t 3)) 19 true, Kg 21 (.ld (.t 20)) 19 true, Kg 22 (.bin .neq (.t 21) (.c (.str [46, 46, 46]))) 19 true, Ko 23 (.pick (.t 19) (.t 22) (.c (.bool false))), Ko 4 (.mv (.t 23))])
 .ret))⟩
def f25 : IFunc := ⟨13, [.t 4], (.seq (.reg [Ko 2 (.box 46 (.t 0)), Ko 3 (.box 25 (.t 1)), Ko 4 (.mv (.c (.bool false)))])
 (.seq (.reg [Ko 5 (.ldn 5 (.t 3)), Ko 6 (.call 36 [.t 5]), Ko 7 (.mv (.t 6)), Kg 8 (.ldn 1 (.t 2)) 7 true, Kg 9 (.ldn 5 (.t 3)) 7 true, Kg 10 (.call 26 [.t 8, .t 9]) 7 true, Kg 11 (.un .not (.t 10)) 7 true, Ko 12 (.pick (.t 7) (.t 11) (.c (.bool false))), Ko 4 (.mv (.t 12))])
 .ret))⟩
def f26 : IFunc := ⟨10, [.t 4], (.seq (.reg [Ko 2 (.box 46 (.t 0)), Ko 3 (.box 25 (.t 1)), Ko 4 (.mv (.c (.bool false)))])
 (.seq (.reg [Ko 5 (.fa 0 (.t 2)), Ko 6 (.ld (.t 5)), Ko 7 (.fa 2 (.t 3)), Ko 8 (.ld (.t 7)), Ko 9 (.call 51 [.t 6, .t 8]), Ko 4 (.mv (.t 9))])
 .ret))⟩
def f27 : IFunc := ⟨11, [.t 2], (.seq (.reg [Ko 1 (.box 25 (.t 0)), Ko 2 (.mv (.c (.bool false)))])
 (.seq (.reg [Ko 3 (.fa 0 (.t 1)), Ko 4 (.ld (.t 3)), Ko 5 (.bin .eql (.t 4) (Ki 6)), Ko 6 (.mv (.t 5)), Kg 7 (.fa 0 (.t 1)) 6 false, Kg 8 (.ld (.t 7)) 6 false, Kg 9 (.bin .eql (.t 8) (Ki 7)) 6 false, Ko 10 (.pick (.t 6) (.c (.bool true)) (.t 9)), Ko 2 (.mv (.t 10))])
 .ret))⟩
def f28 : IFunc := ⟨55, [.t 4], (.seq (.reg [Ko 2 (.box 25 (.t 0)), Ko 3 (.box 25 (.t 1)), Ko 4 (.mv (.c (.bool false)))])
 (.seq (.block 0 (.loop (.seq (.seq (.reg [Ko 5 (.ldn 5 (.t 2)), Ko 6 (.call 52 [.t 5]), Ko 7 (.mv (.t 6)), Kg 8 (.ldn 5 (.t 3)) 7 true, Kg 9 (.call 52 [.t 8]) 7 true, Ko 10 (.pick (.t 7) (.t 9) (.c (.bool false)))])
 (.cond (.t 10) .skip (.exit 0)))
 (.block 1 (.seq (.seq (.regd [Kd 11 (.fa 3 (.t 2)) 0, Kd 12 (.ld (.t 11)) 1, Kd 13 (.ia 5 (.t 12) (Ki 0)) 3, Kd 14 (.ldn 5 (.t 13)) 7, Kd 15 (.fa 3 (.t 3)) 0, Kd 16 (.ld (.t 15)) 16, Kd 17 (.ia 5 (.t 16) (Ki 0)) 48, Kd 18 (.ldn 5 (.t 17)) 112, Kd 19 (.call 28 [.t 14, .t 18]) 255, Kd 20 (.un .not (.t 19)) 511])
 (.cond (.t 20) (.seq (.reg [Ko 4 (.mv (.c (.bool false)))])
 .ret) .skip))
 (.regd [Kd 21 (.fa 3 (.t 2)) 0, Kd 22 (.ld (.t 21)) 1, Kd 23 (.ia 5 (.t 22) (Ki 1)) 3, Kd 24 (.ldn 5 (.t 23)) 7, Kd 25 (.fa 3 (.t 3)) 0, Kd 26 (.ld (.t 25)) 16, Kd 27 (.ia 5 (.t 26) (Ki 1)) 48, Kd 28 (.ldn 5 (.t 27)) 112, Kf (.st 5 (.t 2) (.t 24)) 15, Kf (.st 5 (.t 3) (.t 28)) 511]))))))
 (.seq (.reg [Ko 29 (.fa 0 (.t 2)), Ko 30 (.ld (.t 29)), Ko 31 (.fa 0 (.t 3)), Ko 32 (.ld (.t 31)), Ko 33 (.bin .eql (.t 30) (.t 32)), Ko 34 (.mv (.t 33)), Kg 35 (.fa 1 (.t 2)) 34 true, Kg 36 (.ld (.t 35)) 34 true, Kg 37 (.fa 1 (.t 3)) 34 true, Kg 38 (.ld (.t 37)) 34 true, Kg 39 (.bin .eql (.t 36) (.t 38)) 34 true, Ko 40 (.pick (.t 34) (.t 39) (.c (.bool false))), Ko 41 (.mv (.t 40)), Kg 42 (.fa 2 (.t 2)) 41 true, Kg 43 (.ld (.t 42)) 41 true, Kg 44 (.fa 2 (.t 3)) 41 true, Kg 45 (.ld (.t 44)) 41 true, Kg 46 (.bin .eql (.t 43) (.t 45)) 41 true, Ko 47 (.pick (.t 41) (.t 46) (.c (.bool false))), Ko 48 (.mv (.t 47)), Kg 49 (.fa 3 (.t 2)) 48 true, Kg 50 (.ld (.t 49)) 48 true, Kg 51 (.fa 3 (.t 3)) 48 true, Kg 52 (.ld (.t 51)) 48 true, Kg 53 (.call 53 [(.t 50), (.t 52), (.c (.fn 28 [] []))]) 48 true, Ko 54 (.pick (.t 48) (.t 53) (.c (.bool false))), Ko 4 (.mv (.t 54))])
 .ret)))⟩
def f29 : IFunc := ⟨14, [.t 2, .cn 3 5], (.seq (.reg [Ko 1 (.box 25 (.t 0)), Ko 2 (.mv (.c .nils)), Ko 3 (.alloc 25 [(.int .i64 (.ofNat 0)), (.int .i64 (.ofNat 0)), (.str []), .nils, (.int .i64 (.ofNat 0))])])
 (.seq (.seq (.reg [Ko 4 (.fa 0 (.t 1)), Ko 5 (.ld (.t 4)), Ko 6 (.bin .eql (.t 5) (Ki 7))])
 (.cond (.t 6) (.seq (.reg [Ko 7 (.fa 3 (.t 1)), Ko 8 (.ld (.t 7)), Ko 9 (.build [(.int .i64 (.ofNat 0)), (.int .i64 (.ofNat 0)), (.str []), .nils, (.int .i64 (.ofNat 0))] []), Ko 2 (.mv (.t 8)), Kn (.st 5 (.t 3) (.t 9))])
 .ret) .skip))
 (.seq (.reg [Ko 10 (.ldn 5 (.t 1)), Ko 11 (.call 32 [.t 10]), Ko 12 (.ex (.t 11) 0), Ko 13 (.ex (.t 11) 1), Ko 2 (.mv (.t 12)), Kn (.st 5 (.t 3) (.t 13))])
 .ret)))⟩
def f30 : IFunc := ⟨41, [.t 4, .t 5], (.seq (.reg [Ko 4 (.mv (.c .nils)), Ko 5 (.mv (.c (.bool false)))])
 (.seq (.reg [Ko 5 (.mv (.c (.bool true)))])
 (.seq (.seq (.reg [Ko 8 (.mv (.t 0)), Ko 9 (.len .v (.t 8)), Ko 10 (.mv (Ki 0))])
 (.block 0 (.loop (.seq (.reg [Ko 11 (.bin .lss (.t 10) (.t 9))])
 (.seq (.cond (.t 11) .skip (.exit 0))
 (.seq (.block 1 (.seq (.reg [Ko 12 (.ia 5 (.t 8) (.t 10)), Ko 13 (.ldn 5 (.t 12)), Ko 7 (.alloc 25 [(.int .i64 (.ofNat 0)), (.int .i64 (.ofNat 0)), (.str []), .nils, (.int .i64 (.ofNat 0))]), Kn (.st 5 (.t 7) (.t 13))])
 (.block 2 (.seq (.reg [Ko 25 (.mv (.t 1)), Ko 26 (.ldn 5 (.t 7)), Ko 27 (.cv (.t 25) [.t 26]), Ko 28 (.un .not (.t 27)), Ko 24 (.mv (.t 28))])
 (.cond (.t 24) (.reg [Ko 29 (.mv (.t 4)), Ko 30 (.ldn 5 (.t 7)), Ko 31 (.build [(.int .i64 (.ofNat 0)), (.int .i64 (.ofNat 0)), (.str []), .nils, (.int .i64 (.ofNat 0)), (.int .i64 (.ofNat 0))] [(0, 5, (.t 30))]), Ko 32 (.bsl 79 [(.int .i64 (.ofNat 0)), (.int .i64 (.ofNat 0)), (.str []), .nils, (.int .i64 (.ofNat 0)), (.int .i64 (.ofNat 0))] 1 [(0, 6, (.t 31))]), Ko 33 (.app 79 6 72 (.t 29) (.t 32)), Ko 4 (.mv (.t 33))]) (.seq (.reg [Ko 35 (.mv (.t 4)), Ko 36 (.len .v (.t 35)), Ko 37 (.bin .eql (.t 36) (Ki 0)), Ko 34 (.mv (.t 37))])
 (.cond (.t 34) (.reg [Ko 5 (.mv (.c (.bool false)))]) (.reg [Ko 14 (.mv (.t 4)), Ko 15 (.mv (.t 4)), Ko 16 (.len .v (.t 15)), Ko 17 (.bin .sub (.t 16) (Ki 1)), Ko 18 (.ia 6 (.t 14) (.t 17)), Ko 19 (.fa 5 (.t 18)), Ko 20 (.ld (.t 19)), Ko 21 (.bin .add (.t 20) (Ki 1)), Ko 22 (.ia 6 (.t 14) (.t 17)), Ko 23 (.fa 5 (.t 22)), Kn (.st 1 (.t 23) (.t 21))]))))))))
 (.reg [Ko 38 (.bin .add (.t 10) (Ki 1)), Ko 10 (.mv (.t 38))])))))))
 (.seq (.reg [Ko 39 (.mv (.t 4)), Ko 40 (.mv (.t 5)), Ko 4 (.mv (.t 39)), Ko 5 (.mv (.t 40))])
 .ret))))⟩
def f31 : IFunc := ⟨26, [.t 2, .t 3], (.seq (.reg [Ko 2 (.mv (Ki 0)), Ko 3 (.mv (.c (.bool false)))])
 (.seq (.reg [Ko 2 (.mv (.c (.int .i64 (.negSucc 0))))])
 (.seq (.seq (.reg [Ko 6 (.mv (.t 0)), Ko 7 (.len .v (.t 6)), Ko 8 (.mv (Ki 0))])
 (.block 0 (.loop (.seq (.reg [Ko 9 (.bin .lss (.t 8) (.t 7))])
 (.seq (.cond (.t 9) .skip (.exit 0))
 (.seq (.block 1 (.seq (.reg [Ko 10 (.mv (.t 8)), Ko 11 (.ia 6 (.t 6) (.t 8)), Ko 12 (.ldn 6 (.t 11)), Ko 5 (.alloc 79 [(.int .i64 (.ofNat 0)), (.int .i64 (.ofNat 0)), (.str []), .nils, (.int .i64 (.ofNat 0)), (.int .i64 (.ofNat 0))]), Ko 4 (.mv (.t 10)), Kn (.st 6 (.t 5) (.t 12))])
 (.seq (.seq (.reg [Ko 13 (.fa 5 (.t 5)), Ko 14 (.ld (.t 13)), Ko 15 (.bin .eql (.t 14) (Ki 0))])
 (.cond (.t 15) (.exit 1) .skip))
 (.seq (.seq (.reg [Ko 16 (.mv (.t 2)), Ko 17 (.bin .geq (.t 16) (Ki 0)), Ko 18 (.mv (.t 17)), Kg 19 (.fa 5 (.t 5)) 18 false, Kg 20 (.ld (.t 19)) 18 false, Kg 21 (.bin .gtr (.t 20) (Ki 1)) 18 false, Ko 22 (.pick (.t 18) (.c (.bool true)) (.t 21))])
 (.cond (.t 22) (.seq (.reg [Ko 2 (.mv (.c (.int .i64 (.negSucc 0)))), Ko 3 (.mv (.c (.bool false)))])
 .ret) .skip))
 (.reg [Ko 23 (.mv (.t 4)), Ko 2 (.mv (.t 23))])))))
 (.reg [Ko 24 (.bin .add (.t 8) (Ki 1)), Ko 8 (.mv (.t 24))])))))))
 (.seq (.reg [Ko 25 (.mv (.t 2)), Ko 2 (.mv (.t 25)), Ko 3 (.mv (.c (.bool true)))])
 .ret))))⟩
def f32 : IFunc := ⟨19, [.t 2, .cn 3 5], (.seq (.reg [Ko 1 (.box 25 (.t 0)), Ko 2 (.mv (.c .nils)), Ko 3 (.alloc 25 [(.int .i64 (.ofNat 0)), (.int .i64 (.ofNat 0)), (.str []), .nils, (.int .i64 (.ofNat 0))])])
 (.seq (.block 0 (.loop (.seq (.seq (.reg [Ko 4 (.ldn 5 (.t 1)), Ko 5 (.call 52 [.t 4])])
 (.cond (.t 5) .skip (.exit 0)))
 (.block 1 (.seq (.reg [Ko 6 (.mv (.t 2)), Ko 7 (.fa 3 (.t 1)), Ko 8 (.ld (.t 7)), Ko 9 (.ia 5 (.t 8) (Ki 0)), Ko 10 (.ldn 5 (.t 9)), Ko 11 (.bsl 25 [(.int .i64 (.ofNat 0)), (.int .i64 (.ofNat 0)), (.str []), .nils, (.int .i64 (.ofNat 0))] 1 [(0, 5, (.t 10))]), Ko 12 (.app 25 5 64 (.t 6) (.t 11)), Ko 2 (.mv (.t 12))])
 (.reg [Ko 13 (.fa 3 (.t 1)), Ko 14 (.ld (.t 13)), Ko 15 (.ia 5 (.t 14) (Ki 1)), Ko 16 (.ldn 5 (.t 15)), Kn (.st 5 (.t 1) (.t 16))]))))))
 (.seq (.regd [Kd 17 (.mv (.t 2)) 0, Kd 18 (.ldn 5 (.t 1)) 0, Kd 2 (.mv (.t 17)) 1, Kf (.st 5 (.t 3) (.t 18)) 7])
 .ret)))⟩
def f33 : IFunc := ⟨14, [.cn 4 5], (.seq (.reg [Ko 2 (.box 25 (.t 0)), Ko 4 (.alloc 25 [(.int .i64 (.ofNat 0)), (.int .i64 (.ofNat 0)), (.str []), .nils, (.int .i64 (.ofNat 0))])])
 (.seq (.seq (.reg [Ko 5 (.mv (.t 1)), Ko 6 (.mv (Ki 0))])
 (.block 0 (.loop (.seq (.reg [Ko 7 (.bin .lss (.t 6) (.t 5))])
 (.seq (.cond (.t 7) .skip (.exit 0))
 (.seq (.block 1 (.reg [Ko 8 (.fa 3 (.t 2)), Ko 9 (.ld (.t 8)), Ko 10 (.ia 5 (.t 9) (Ki 1)), Ko 11 (.ldn 5 (.t 10)), Kn (.st 5 (.t 2) (.t 11))]))
 (.reg [Ko 12 (.bin .add (.t 6) (Ki 1)), Ko 6 (.mv (.t 12))])))))))
 (.seq (.reg [Ko 13 (.ldn 5 (.t 2)), Kn (.st 5 (.t 4) (.t 13))])
 .ret)))⟩
def f34 : IFunc := ⟨124, [.t 8, .t 9], (.seq (.reg [Ko 4 (.box 46 (.t 0)), Ko 8 (.mv (.c .nils)), Ko 9 (.mv (.c (.bool false)))])
 (.seq (.reg [Ko 23 (.mv (.t 3)), Ko 24 (.len .v (.t 23)), Ko 25 (.mv (.t 1)), Ko 26 (.len .v (.t 25)), Ko 27 (.bin .sub (.t 24) (.t 26)), Ko 10 (.mv (.t 27))])
 (.seq (.reg [Ko 11 (.mv (Ki 0))])
 (.seq (.seq (.reg [Ko 28 (.mv (.t 1)), Ko 29 (.len .v (.t 28)), Ko 30 (.mv (Ki 0))])
 (.block 0 (.loop (.seq (.reg [Ko 31 (.bin .lss (.t 30) (.t 29))])
 (.seq (.cond (.t 31) .skip (.exit 0))
 (.seq (.block 1 (.seq (.reg [Ko 32 (.mv (.t 30)), Ko 33 (.ia 6 (.t 28) (.t 30)), Ko 34 (.ldn 6 (.t 33)), Ko 13 (.alloc 79 [(.int .i64 (.ofNat 0)), (.int .i64 (.ofNat 0)), (.str []), .nils, (.int .i64 (.ofNat 0)), (.int .i64 (.ofNat 0))]), Ko 12 (.mv (.t 32)), Kn (.st 6 (.t 13) (.t 34))])
 (.seq (.seq (.reg [Ko 35 (.mv (.t 12)), Ko 36 (.mv (.t 2)), Ko 37 (.bin .neq (.t 35) (.t 36))])
 (.cond (.t 37) (.seq (.regd [Kd 39 (.ldn 1 (.t 4)) 0, Kd 40 (.fa 0 (.t 13)) 0, Kd 41 (.ldn 5 (.t 40)) 2, Kd 42 (.mv (.t 3)) 0, Kd 43 (.mv (.t 11)) 0, Kd 44 (.ia 5 (.t 42) (.t 43)) 24, Kd 45 (.ldn 5 (.t 44)) 56, Kd 46 (.call 13 [.t 39, .t 41, .t 45]) 127, Kd 38 (.mv (.t 46)) 255, Kd 47 (.ex (.t 38) 0) 511, Kd 48 (.ex (.t 38) 1) 511, Kd 14 (.mv (.t 47)) 1023, Kd 15 (.mv (.t 48)) 4095])
 (.seq (.seq (.reg [Ko 49 (.mv (.t 15)), Ko 50 (.un .not (.t 49))])
 (.cond (.t 50) (.seq (.reg [Ko 8 (.mv (.c .nils)), Ko 9 (.mv (.c (.bool false)))])
 .ret) .skip))
 (.seq (.reg [Ko 51 (.mv (.t 8)), Ko 52 (.mv (.t 14)), Ko 53 (.app 67 7 96 (.t 51) (.t 52)), Ko 54 (.mv (.t 11)), Ko 55 (.bin .add (.t 54) (Ki 1)), Ko 8 (.mv (.t 53)), Ko 11 (.mv (.t 55))])
 (.exit 1)))) .skip))
 (.seq (.reg [Ko 56 (.ldn 1 (.t 4)), Ko 57 (.fa 0 (.t 13)), Ko 58 (.ldn 5 (.t 57)), Ko 59 (.call 14 [.t 56, .t 58, Ki 0]), Ko 60 (.len .v (.t 59)), Ko 61 (.msl 67 7 96 [(.int .i64 (.ofNat 0)), (.int .i64 (.ofNat 0)), (.int .i64 (.ofNat 0)), (.str []), .nils, (.int .i64 (.ofNat 0)), .nils] (.t 60) (.t 60)), Ko 16 (.mv (.t 61))])
 (.seq (.seq (.reg [Ko 62 (.mv (.t 10)), Ko 63 (.bin .add (.t 62) (Ki 1)), Ko 64 (.mv (Ki 0))])
 (.block 2 (.loop (.seq (.reg [Ko 65 (.bin .lss (.t 64) (.t 63))])
 (.seq (.cond (.t 65) .skip (.exit 2))
 (.seq (.block 3 (.seq (.regd [Kd 67 (.ldn 1 (.t 4)) 0, Kd 68 (.fa 0 (.t 13)) 0, Kd 69 (.ldn 5 (.t 68)) 2, Kd 70 (.mv (.t 3)) 0, Kd 71 (.mv (.t 11)) 0, Kd 72 (.ia 5 (.t 70) (.t 71)) 24, Kd 73 (.ldn 5 (.t 72)) 56, Kd 74 (.call 13 [.t 67, .t 69, .t 73]) 127, Kd 66 (.mv (.t 74)) 255, Kd 75 (.ex (.t 66) 0) 511, Kd 76 (.ex (.t 66) 1) 511, Kd 17 (.mv (.t 75)) 1023, Kd 18 (.mv (.t 76)) 4095])
 (.seq (.seq (.reg [Ko 77 (.mv (.t 18)), Ko 78 (.un .not (.t 77))])
 (.cond (.t 78) (.seq (.reg [Ko 8 (.mv (.c .nils)), Ko 9 (.mv (.c (.bool false)))])
 .ret) .skip))
 (.seq (.seq (.reg [Ko 79 (.mv (.t 17)), Ko 80 (.len .v (.t 79)), Ko 81 (.mv (Ki 0))])
 (.block 4 (.loop (.seq (.reg [Ko 82 (.bin .lss (.t 81) (.t 80))])
 (.seq (.cond (.t 82) .skip (.exit 4))
 (.seq (.block 5 (.seq (.reg [Ko 83 (.mv (.t 81)), Ko 84 (.ia 7 (.t 79) (.t 81)), Ko 85 (.ldn 7 (.t 84)), Ko 20 (.alloc 67 [(.int .i64 (.ofNat 0)), (.int .i64 (.ofNat 0)), (.int .i64 (.ofNat 0)), (.str []), .nils, (.int .i64 (.ofNat 0)), .nils]), Ko 19 (.mv (.t 83)), Kn (.st 7 (.t 20) (.t 85))])
 (.regd [Kd 86 (.mv (.t 16)) 0, Kd 87 (.mv (.t 19)) 0, Kd 88 (.ia 7 (.t 86) (.t 87)) 3, Kd 89 (.fa 6 (.t 88)) 7, Kd 90 (.ld (.t 89)) 15, Kd 91 (.ldn 7 (.t 20)) 0, Kd 92 (.len .v (.t 90)) 31, Kd 93 (.bsl 67 [(.int .i64 (.ofNat 0)), (.int .i64 (.ofNat 0)), (.int .i64 (.ofNat 0)), (.str []), .nils, (.int .i64 (.ofNat 0)), .nils] 1 [(0, 7, (.c (.agg [(.int .i64 (.ofNat 0)), (.int .i64 (.ofNat 0)), (.int .i64 (.ofNat 0)), (.str []), .nils, (.int .i64 (.ofNat 0)), .nils])))]) 0, Kd 94 (.app 67 7 96 (.t 90) (.t 93)) 255, Kd 95 (.ia 7 (.t 94) (.t 92)) 511, Kf (.st 7 (.t 95) (.t 91)) 1023, Kd 96 (.ia 7 (.t 86) (.t 87)) 511, Kd 97 (.fa 6 (.t 96)) 2559, Kf (.st 1 (.t 97) (.t 94)) 6655])))
 (.reg [Ko 98 (.bin .add (.t 81) (Ki 1)), Ko 81 (.mv (.t 98))])))))))
 (.reg [Ko 99 (.mv (.t 11)), Ko 100 (.bin .add (.t 99) (Ki 1)), Ko 11 (.mv (.t 100))])))))
 (.reg [Ko 101 (.bin .add (.t 64) (Ki 1)), Ko 64 (.mv (.t 101))])))))))
 (.seq (.seq (.reg [Ko 102 (.ldn 1 (.t 4)), Ko 103 (.fa 0 (.t 13)), Ko 104 (.ldn 5 (.t 103)), Ko 105 (.call 14 [.t 102, .t 104, Ki 1]), Ko 106 (.len .v (.t 105)), Ko 107 (.mv (Ki 0))])
 (.block 6 (.loop (.seq (.reg [Ko 108 (.bin .lss (.t 107) (.t 106))])
 (.seq (.cond (.t 108) .skip (.exit 6))
 (.seq (.block 7 (.seq (.reg [Ko 109 (.mv (.t 107)), Ko 110 (.ia 3 (.t 105) (.t 107)), Ko 111 (.ldn 3 (.t 110)), Ko 22 (.alloc 77 [(.str []), (.int .i64 (.ofNat 0)), (.int .i64 (.ofNat 0))]), Ko 21 (.mv (.t 109)), Kn (.st 3 (.t 22) (.t 111))])
 (.reg [Ko 112 (.mv (.t 16)), Ko 113 (.mv (.t 21)), Ko 114 (.fa 2 (.t 22)), Ko 115 (.ld (.t 114)), Ko 116 (.ia 7 (.t 112) (.t 113)), Ko 117 (.fa 0 (.t 116)), Kn (.st 1 (.t 117) (.t 115))])))
 (.reg [Ko 118 (.bin .add (.t 107) (Ki 1)), Ko 107 (.mv (.t 118))])))))))
 (.reg [Ko 119 (.mv (.t 8)), Ko 120 (.mv (.t 16)), Ko 121 (.app 67 7 96 (.t 119) (.t 120)), Ko 8 (.mv (.t 121))])))))))
 (.reg [Ko 122 (.bin .add (.t 30) (Ki 1)), Ko 30 (.mv (.t 122))])))))))
 (.seq (.reg [Ko 123 (.mv (.t 8)), Ko 8 (.mv (.t 123)), Ko 9 (.mv (.c (.bool true)))])
 .ret)))))⟩
def f35 : IFunc := ⟨11, [.t 4], (.seq (.reg [Ko 3 (.box 25 (.t 1)), Ko 4 (.mv (Ki 0))])
 (.seq (.seq (.reg [Ko 5 (.fa 0 (.t 3)), Ko 6 (.ld (.t 5)), Ko 7 (.bin .neq (.t 6) (Ki 5))])
 (.cond (.t 7) (.seq (.reg [Ko 4 (.mv (.c (.int .i64 (.negSucc 0))))])
 .ret) .skip))
 (.seq (.reg [Ko 8 (.mv (.t 0)), Ko 9 (.mfn 55 [] [.t 3]), Ko 10 (.call 54 [.t 8, .t 9]), Ko 4 (.mv (.t 10))])
 .ret)))⟩
def f36 : IFunc := ⟨11, [.t 2], (.seq (.reg [Ko 1 (.box 25 (.t 0)), Ko 2 (.mv (.c (.bool false)))])
 (.seq (.reg [Ko 3 (.fa 0 (.t 1)), Ko 4 (.ld (.t 3)), Ko 5 (.bin .eql (.t 4) (Ki 5)), Ko 6 (.mv (.t 5)), Kg 7 (.fa 2 (.t 1)) 6 true, Kg 8 (.ld (.t 7)) 6 true, Kg 9 (.bin .eql (.t 8) (.c (.str [46, 46, 46]))) 6 true, Ko 10 (.pick (.t 6) (.t 9) (.c (.bool false))), Ko 2 (.mv (.t 10))])
 .ret))⟩
def f37 : IFunc := ⟨9, [.t 4], (.seq (.reg [Ko 4 (.mv (.c (.bool false)))])
 (.seq (.reg [Ko 5 (.mv (.t 0)), Ko 6 (.mv (.t 1)), Ko 7 (.call 41 [.t 5, .t 6]), Ko 8 (.bin .geq (.t 7) (Ki 0)), Ko 4 (.mv (.t 8))])
 .ret))⟩
def f38 : IFunc := ⟨9, [.t 3], (.seq (.reg [Ko 2 (.box 25 (.t 0)), Ko 3 (.mv (.c (.bool false)))])
 (.seq (.regd [Kd 4 (.ldn 5 (.t 2)) 0, Kd 5 (.call 39 [.t 4]) 1, Kd 6 (.ldn 5 (.t 1)) 0, Kd 7 (.call 39 [.t 6]) 7, Kd 8 (.eqk (.flat [.s, .i]) false (.t 5) (.t 7)) 15, Kd 3 (.mv (.t 8)) 31])
 .ret))⟩
def f39 : IFunc := ⟨8, [.cn 2 2], (.seq (.reg [Ko 1 (.box 25 (.t 0)), Ko 2 (.alloc 83 [(.str []), (.int .i64 (.ofNat 0))])])
 (.seq (.reg [Ko 3 (.fa 2 (.t 1)), Ko 4 (.ld (.t 3)), Ko 5 (.fa 1 (.t 1)), Ko 6 (.ld (.t 5)), Ko 7 (.build [(.str []), (.int .i64 (.ofNat 0))] [(0, 1, (.t 4)), (1, 1, (.t 6))]), Kn (.st 2 (.t 2) (.t 7))])
 .ret))⟩
def f40 : IFunc := ⟨24, [], (.seq (.reg [Ko 2 (.mv (.t 0)), Ko 3 (.nck (.t 2)), Ko 4 (.fa 4 (.t 3)), Ko 5 (.ld (.t 4)), Ko 6 (.bin .add (.t 5) (Ki 1)), Ko 7 (.nck (.t 2)), Ko 8 (.fa 4 (.t 7)), Kn (.st 1 (.t 8) (.t 6))])
 (.seq (.reg [Ko 9 (.mv (.t 0)), Ko 10 (.nck (.t 9)), Ko 11 (.fa 4 (.t 10)), Ko 12 (.ld (.t 11)), Ko 13 (.bin .gtr (.t 12) (Ki 1048576)), Ko 14 (.mv (.t 13)), Kg 15 (.mv (.t 0)) 14 true, Kg 16 (.nck (.t 15)) 14 true, Kg 17 (.fa 5 (.t 16)) 14 true, Kg 18 (.ld (.t 17)) 14 true, Kg 19 (.bin .eql (.t 18) (Ki 0)) 14 true, Ko 20 (.pick (.t 14) (.t 19) (.c (.bool false)))])
 (.cond (.t 20) (.reg [Ko 21 (.mv (.t 0)), Ko 22 (.nck (.t 21)), Ko 23 (.fa 5 (.t 22)), Kn (.st 1 (.t 23) (Ki 3))]) .skip)))⟩
def f41 : IFunc := ⟨19, [.t 4], (.seq (.reg [Ko 4 (.mv (Ki 0))])
 (.seq (.seq (.reg [Ko 6 (.mv (.t 0)), Ko 7 (.len .v (.t 6)), Ko 8 (.mv (Ki 0))])
 (.block 0 (.loop (.seq (.reg [Ko 9 (.bin .lss (.t 8) (.t 7))])
 (.seq (.cond (.t 9) .skip (.exit 0))
 (.seq (.block 1 (.seq (.reg [Ko 10 (.mv (.t 8)), Ko 5 (.mv (.t 10))])
 (.seq (.reg [Ko 11 (.mv (.t 1)), Ko 12 (.mv (.t 0)), Ko 13 (.mv (.t 5)), Ko 14 (.ia 5 (.t 12) (.t 13)), Ko 15 (.ldn 5 (.t 14)), Ko 16 (.cv (.t 11) [.t 15])])
 (.cond (.t 16) (.seq (.reg [Ko 17 (.mv (.t 5)), Ko 4 (.mv (.t 17))])
 .ret) .skip))))
 (.reg [Ko 18 (.bin .add (.t 8) (Ki 1)), Ko 8 (.mv (.t 18))])))))))
 (.seq (.reg [Ko 4 (.mv (.c (.int .i64 (.negSucc 0))))])
 .ret)))⟩
def f42 : IFunc := ⟨9, [.t 3], (.seq (.reg [Ko 2 (.box 25 (.t 0)), Ko 3 (.mv (.c (.bool false)))])
 (.seq (.regd [Kd 4 (.ldn 5 (.t 2)) 0, Kd 5 (.call 39 [.t 4]) 1, Kd 6 (.ldn 5 (.t 1)) 0, Kd 7 (.call 39 [.t 6]) 7, Kd 8 (.eqk (.flat [.s, .i]) false (.t 5) (.t 7)) 15, Kd 3 (.mv (.t 8)) 31])
 .ret))⟩
def f43 : IFunc := ⟨105, [], (.seq (.reg [Ko 5 (.box 79 (.t 1))])
 (.seq (.seq (.reg [Ko 16 (.fa 5 (.t 5)), Ko 17 (.ld (.t 16)), Ko 18 (.bin .eql (.t 17) (Ki 0))])
 (.cond (.t 18) (.seq (.reg [Ko 19 (.mv (.t 3)), Ko 20 (.mv (.t 0)), Ko 21 (.fa 0 (.t 5)), Ko 22 (.ldn 5 (.t 21)), Ko 23 (.mv (.t 2)), Ko 24 (.call 17 [.t 20, .t 22, .t 23]), Ko 25 (.cv (.t 19) [.t 24])])
 .ret) .skip))
 (.seq (.reg [Ko 26 (.mv (.t 0)), Ko 27 (.fa 0 (.t 5)), Ko 28 (.ldn 5 (.t 27)), Ko 29 (.call 56 [.t 26, .t 28]), Ko 8 (.mv (.t 29))])
 (.seq (.reg [Ko 30 (.mv (.t 2)), Ko 31 (.mv (.t 8)), Ko 32 (.ia 1 (.t 31) (Ki 0)), Ko 33 (.ld (.t 32)), Ko 34 (.ia 7 (.t 30) (.t 33)), Ko 35 (.fa 6 (.t 34)), Ko 36 (.ld (.t 35)), Ko 37 (.len .v (.t 36)), Ko 9 (.mv (.t 37))])
 (.seq (.seq (.reg [Ko 38 (.mv (.t 8)), Ko 39 (.len .v (.t 38)), Ko 40 (.mv (Ki 0))])
 (.block 0 (.loop (.seq (.reg [Ko 41 (.bin .lss (.t 40) (.t 39))])
 (.seq (.cond (.t 41) .skip (.exit 0))
 (.seq (.block 1 (.seq (.reg [Ko 42 (.ia 1 (.t 38) (.t 40)), Ko 43 (.ld (.t 42)), Ko 11 (.mv (.t 43))])
 (.seq (.reg [Ko 44 (.mv (.t 2)), Ko 45 (.mv (.t 11)), Ko 46 (.ia 7 (.t 44) (.t 45)), Ko 47 (.fa 6 (.t 46)), Ko 48 (.ld (.t 47)), Ko 49 (.len .v (.t 48)), Ko 50 (.mv (.t 9)), Ko 51 (.bin .neq (.t 49) (.t 50)), Ko 52 (.mv (.t 51)), Kg 53 (.mv (.t 0)) 52 true, Kg 54 (.nck (.t 53)) 52 true, Kg 55 (.fa 5 (.t 54)) 52 true, Kg 56 (.ld (.t 55)) 52 true, Kg 57 (.bin .eql (.t 56) (Ki 0)) 52 true, Ko 58 (.pick (.t 52) (.t 57) (.c (.bool false)))])
 (.cond (.t 58) (.reg [Ko 59 (.mv (.t 0)), Ko 60 (.nck (.t 59)), Ko 61 (.fa 5 (.t 60)), Kn (.st 1 (.t 61) (Ki 7))]) .skip))))
 (.reg [Ko 62 (.bin .add (.t 40) (Ki 1)), Ko 40 (.mv (.t 62))])))))))
 (.seq (.reg [Ko 12 (.mv (Ki 0))])
 (.block 2 (.loop (.seq (.seq (.reg [Ko 63 (.mv (.t 12)), Ko 64 (.mv (.t 9)), Ko 65 (.bin .lss (.t 63) (.t 64)), Ko 66 (.mv (.t 65)), Kg 67 (.mv (.t 0)) 66 true, Kg 68 (.nck (.t 67)) 66 true, Kg 69 (.fa 5 (.t 68)) 66 true, Kg 70 (.ld (.t 69)) 66 true, Kg 71 (.bin .eql (.t 70) (Ki 0)) 66 true, Ko 72 (.pick (.t 66) (.t 71) (.c (.bool false)))])
 (.cond (.t 72) .skip (.exit 2)))
 (.seq (.block 3 (.seq (.reg [Ko 75 (.mv (.t 2)), Ko 76 (.call 57 [.t 75]), Ko 13 (.mv (.t 76))])
 (.seq (.seq (.reg [Ko 77 (.mv (.t 8)), Ko 78 (.len .v (.t 77)), Ko 79 (.mv (Ki 0))])
 (.block 4 (.loop (.seq (.reg [Ko 80 (.bin .lss (.t 79) (.t 78))])
 (.seq (.cond (.t 80) .skip (.exit 4))
 (.seq (.block 5 (.seq (.reg [Ko 81 (.ia 1 (.t 77) (.t 79)), Ko 82 (.ld (.t 81)), Ko 15 (.mv (.t 82))])
 (.reg [Ko 83 (.mv (.t 13)), Ko 84 (.mv (.t 15)), Ko 85 (.mv (.t 2)), Ko 86 (.mv (.t 15)), Ko 87 (.ia 7 (.t 85) (.t 86)), Ko 88 (.fa 6 (.t 87)), Ko 89 (.ld (.t 88)), Ko 90 (.mv (.t 12)), Ko 91 (.ia 7 (.t 89) (.t 90)), Ko 92 (.ldn 7 (.t 91)), Ko 93 (.ia 7 (.t 83) (.t 84)), Kn (.st 7 (.t 93) (.t 92))])))
 (.reg [Ko 94 (.bin .add (.t 79) (Ki 1)), Ko 79 (.mv (.t 94))])))))))
 (.reg [Ko 95 (.mv (.t 0)), Ko 96 (.fa 0 (.t 5)), Ko 97 (.ldn 5 (.t 96)), Ko 98 (.fa 5 (.t 5)), Ko 99 (.ld (.t 98)), Ko 100 (.bin .sub (.t 99) (Ki 1)), Ko 101 (.build [(.int .i64 (.ofNat 0)), (.int .i64 (.ofNat 0)), (.str []), .nils, (.int .i64 (.ofNat 0)), (.int .i64 (.ofNat 0))] [(0, 5, (.t 97)), (5, 1, (.t 100))]), Ko 102 (.mv (.t 13)), Ko 103 (.mv (.t 3)), Ko 104 (.call 43 [.t 95, .t 101, .t 102, .t 103])]))))
 (.reg [Ko 73 (.mv (.t 12)), Ko 74 (.bin .add (.t 73) (Ki 1)), Ko 12 (.mv (.t 74))])))))))))))⟩
def f44 : IFunc := ⟨16, [], (.seq (.reg [Ko 4 (.box 25 (.t 0))])
 (.seq (.seq (.reg [Ko 5 (.fa 0 (.t 1)), Ko 6 (.ld (.t 5)), Ko 7 (.bin .eql (.t 6) (Ki 6))])
 (.cond (.t 7) (.reg [Ko 8 (.ld (.t 2)), Ko 9 (.call 40 [.t 8])]) .skip))
 (.regd [Kd 10 (.ld (.t 3)) 0, Kd 11 (.ldn 5 (.t 4)) 0, Kd 12 (.len .v (.t 10)) 1, Kd 13 (.bsl 25 [(.int .i64 (.ofNat 0)), (.int .i64 (.ofNat 0)), (.str []), .nils, (.int .i64 (.ofNat 0))] 1 [(0, 5, (.c (.agg [(.int .i64 (.ofNat 0)), (.int .i64 (.ofNat 0)), (.str []), .nils, (.int .i64 (.ofNat 0))])))]) 0, Kd 14 (.app 25 5 64 (.t 10) (.t 13)) 15, Kd 15 (.ia 5 (.t 14) (.t 12)) 31, Kf (.st 5 (.t 15) (.t 11)) 63, Kf (.st 1 (.t 3) (.t 14)) 31])))⟩
def f45 : IFunc := ⟨4, [.t 2], (.seq (.reg [Ko 1 (.box 23 (.t 0)), Ko 2 (.mv (.c .nilf))])
 (.seq (.reg [Ko 3 (.mfn 58 [] [.t 1]), Ko 2 (.mv (.t 3))])
 .ret))⟩
def f46 : IFunc := ⟨34, [.t 2, .t 3, .t 4], (.seq (.reg [Ko 2 (.mv (.c .nils)), Ko 3 (.mv (Ki 0)), Ko 4 (.mv (Ki 0))])
 (.seq (.reg [Ko 5 (.mv (.c .nils))])
 (.seq (.reg [Ko 6 (.mv (Ki 0))])
 (.seq (.block 0 (.loop (.seq (.seq (.reg [Ko 10 (.mv (.t 6)), Ko 11 (.mv (.t 0)), Ko 12 (.len .v (.t 11)), Ko 13 (.bin .lss (.t 10) (.t 12))])
 (.cond (.t 13) .skip (.exit 0)))
 (.block 1 (.seq (.reg [Ko 15 (.mv (.t 0)), Ko 16 (.mv (.t 6)), Ko 17 (.call 59 [.t 15, .t 16]), Ko 14 (.mv (.t 17)), Ko 18 (.ex (.t 14) 0), Ko 19 (.ex (.t 14) 1), Ko 20 (.ex (.t 14) 2), Ko 7 (.mv (.t 18)), Ko 8 (.mv (.t 19)), Ko 9 (.mv (.t 20))])
 (.seq (.seq (.reg [Ko 21 (.mv (.t 9)), Ko 22 (.bin .neq (.t 21) (Ki 0))])
 (.cond (.t 22) (.seq (.reg [Ko 23 (.mv (.t 6)), Ko 2 (.mv (.c .nils)), Ko 3 (.mv (Ki 4)), Ko 4 (.mv (.t 23))])
 .ret) .skip))
 (.seq (.reg [Ko 24 (.mv (.t 5)), Ko 25 (.mv (.t 7)), Ko 26 (.mv (.t 6)), Ko 27 (.build [.int .i64 (.ofNat 0), .int .i64 (.ofNat 0)] [(0, 1, (.t 25)), (1, 1, (.t 26))]), Ko 28 (.bsl 95 [.int .i64 (.ofNat 0), .int .i64 (.ofNat 0)] 1 [(0, 2, (.t 27))]), Ko 29 (.app 95 2 16 (.t 24) (.t 28)), Ko 5 (.mv (.t 29))])
 (.reg [Ko 30 (.mv (.t 6)), Ko 31 (.mv (.t 8)), Ko 32 (.bin .add (.t 30) (.t 31)), Ko 6 (.mv (.t 32))]))))))))
 (.seq (.reg [Ko 33 (.mv (.t 5)), Ko 2 (.mv (.t 33)), Ko 3 (.mv (Ki 0)), Ko 4 (.mv (Ki 0))])
 .ret)))))⟩
def f47 : IFunc := ⟨46, [.t 2, .cn 3 2], (Kr [Km 2 (.c .nils), Ko 3 (.alloc 97 [Kv 0, Kv 0])]
 (Kr [Km 10 0, Ko 11 (.call 60 [10]), Km 9 11, Ko 12 (.ex 9 0), Ko 13 (.ex 9 1), Ko 5 (.alloc 97 [Kv 0, Kv 0]), Km 4 12, Kn (.st 2 5 13)]
 (.seq (Kr [Ko 14 (.fa 0 5), Ko 15 (.ld 14), Ko 16 (.bin .neq 15 (Ki 0))]
 (.cond 16 (.seq (.regd [Kd 17 (.ldn 2 5) 0, Kd 2 (.mv (.c .nils)) 0, Kf (.st 2 3 17) 3])
 .ret) .skip))
 (Kr [Km 18 4, Ko 19 (.build [.nils, Kv 0, Kv 0, Kv 0] [(0, 1, 18)]), Ko 20 (.box 121 19), Km 6 20]
 (Kr [Km 7 (.c .nils)]
 (.seq (.block 0 (.loop (.seq (Kr [Km 21 6, Ko 22 (.nck 21), Ko 23 (.fa 1 22), Ko 24 (.ld 23), Km 25 4, Ko 26 (.len .v 25), Ko 27 (.bin .lss 24 26)]
 (.cond 27 .skip (.exit 0)))
 (.block 1 (Kr [Km 28 6, Ko 29 (.call 61 [28, Ki 0, Ki 0]), Ko 8 (.alloc 25 [Kv 0, Kv 0, (.str []), .nils, Kv 0]), Kn (.st 5 8 29)]
 (.seq (Kr [Km 30 6, Ko 31 (.nck 30), Ko 32 (.fa 2 31), Ko 33 (.fa 0 32), Ko 34 (.ld 33), Ko 35 (.bin .neq 34 (Ki 0))]
 (.cond 35 (.seq (.regd [Kd 36 (.mv 6) 0, Kd 37 (.nck 36) 1, Kd 38 (.fa 2 37) 3, Kd 39 (.ldn 2 38) 7, Kd 2 (.mv (.c .nils)) 0, Kf (.st 2 3 39) 31])
 .ret) .skip))
 (.reg [Km 40 7, Ko 41 (.ldn 5 8), Ko 42 (.bsl 25 [Kv 0, Kv 0, (.str []), .nils, Kv 0] 1 [(0, 5, 41)]), Ko 43 (.app 25 5 64 40 42), Km 7 43])))))))
 (Kr [Km 44 7, Ko 45 (.build [Kv 0, Kv 0] []), Km 2 44, Kn (.st 2 3 45)]
 .ret)))))))⟩
def f48 : IFunc := ⟨30, [.t 2], (.seq (.reg [Ko 1 (.box 25 (.t 0)), Ko 2 (.mv (.c (.bool false)))])
 (.seq (.block 0 (.loop (.seq (.seq (.reg [Ko 3 (.ldn 5 (.t 1)), Ko 4 (.call 52 [.t 3])])
 (.cond (.t 4) .skip (.exit 0)))
 (.block 1 (.seq (.seq (.reg [Ko 5 (.fa 3 (.t 1)), Ko 6 (.ld (.t 5)), Ko 7 (.ia 5 (.t 6) (Ki 0)), Ko 8 (.ldn 5 (.t 7)), Ko 9 (.call 48 [.t 8]), Ko 10 (.un .not (.t 9))])
 (.cond (.t 10) (.seq (.reg [Ko 2 (.mv (.c (.bool false)))])
 .ret) .skip))
 (.reg [Ko 11 (.fa 3 (.t 1)), Ko 12 (.ld (.t 11)), Ko 13 (.ia 5 (.t 12) (Ki 1)), Ko 14 (.ldn 5 (.t 13)), Kn (.st 5 (.t 1) (.t 14))]))))))
 (.seq (.seq (.reg [Ko 15 (.fa 0 (.t 1)), Ko 16 (.ld (.t 15)), Ko 17 (.bin .eql (.t 16) (Ki 7))])
 (.cond (.t 17) (.seq (.reg [Ko 18 (.fa 3 (.t 1)), Ko 19 (.ld (.t 18)), Ko 20 (.call 37 [(.t 19), (.c (.fn 62 [] []))]), Ko 21 (.un .not (.t 20)), Ko 2 (.mv (.t 21))])
 .ret) .skip))
 (.seq (.reg [Ko 22 (.fa 3 (.t 1)), Ko 23 (.ld (.t 22)), Ko 24 (.len .v (.t 23)), Ko 25 (.bin .eql (.t 24) (Ki 0)), Ko 26 (.mv (.t 25)), Kg 27 (.ldn 5 (.t 1)) 26 true, Kg 28 (.call 63 [.t 27]) 26 true, Ko 29 (.pick (.t 26) (.t 28) (.c (.bool false))), Ko 2 (.mv (.t 29))])
 .ret))))⟩
def f49 : IFunc := ⟨106, [], (Kr [Ko 3 (.box 25 1)]
 (Kr [Ko 4 (.fa 0 3), Ko 5 (.ld 4)]
 (.block 0 (Kr [Ko 10 (.bin .eql 5 (Ki 0)), Km 9 10]
 (.cond 9 (.reg [Km 11 0, Ko 12 (.nck 11), Ko 13 (.fa 0 12), Ko 14 (.call 64 [13, (.c (.str [40, 41]))])]) (Kr [Ko 16 (.bin .eql 5 (Ki 1)), Km 15 16]
 (.cond 15 (.regd [Kd 17 (.mv 0) 0, Kd 18 (.nck 17) 1, Kd 19 (.fa 0 18) 3, Kd 20 (.fa 1 3) 0, Kd 21 (.ld 20) 8, Kd 22 (.fa 1 3) 0, Kd 23 (.ld 22) 32, Kd 24 (.bin .add 23 (Ki 1)) 96, Kd 25 (.sls (.c (.str [102, 116])) (some 21) (some 24)) 248, Kd 26 (.bin .add (.c (.str [35])) 25) 504, Kd 27 (.call 64 [19, 26]) 1023]) (.seq (Kr [Ko 29 (.bin .eql 5 (Ki 2)), Km 28 29]
 (.cond 28 .skip (.reg [Ko 30 (.bin .eql 5 (Ki 5)), Km 28 30])))
 (.cond 28 (.regd [Kd 31 (.mv 0) 0, Kd 32 (.nck 31) 1, Kd 33 (.fa 0 32) 3, Kd 34 (.fa 2 3) 0, Kd 35 (.ld 34) 8, Kd 36 (.call 64 [33, 35]) 31]) (Kr [Ko 38 (.bin .eql 5 (Ki 3)), Km 37 38]
 (.cond 37 (.seq (Kr [Km 39 0, Ko 40 (.nck 39), Ko 41 (.fa 2 40), Ko 42 (.ld 41), Ko 43 (.un .not 42)]
 (.cond 43 (.seq (.regd [Kd 44 (.mv 0) 0, Kd 45 (.nck 44) 1, Kd 46 (.fa 0 45) 3, Kd 47 (.fa 1 3) 0, Kd 48 (.ld 47) 8, Kd 49 (.call 65 [48]) 24, Kd 50 (.bin .add (.c (.str [35, 92])) 49) 56, Kd 51 (.call 64 [46, 50]) 127])
 .ret) .skip))
 (.regd [Kd 52 (.mv 0) 0, Kd 53 (.nck 52) 1, Kd 54 (.fa 0 53) 3, Kd 55 (.fa 1 3) 0, Kd 56 (.ld 55) 8, Kd 57 (.ci .i32 56) 24, Kd 58 (.call 66 [54, 57]) 63])) (Kr [Ko 60 (.bin .eql 5 (Ki 4)), Km 59 60]
 (.cond 59 (.reg [Km 61 0, Ko 62 (.fa 2 3), Ko 63 (.ld 62), Ko 64 (.call 67 [61, 63])]) (Kr [Ko 66 (.bin .eql 5 (Ki 7)), Km 65 66]
 (.cond 65 (Kr [Km 67 0, Ko 68 (.nck 67), Ko 69 (.fa 0 68), Ko 70 (.call 64 [69, (.c (.str [35, 40]))])]
 (Kr [Km 71 0, Ko 72 (.fa 3 3), Ko 73 (.ld 72), Ko 74 (.call 68 [71, 73])]
 (.reg [Km 75 0, Ko 76 (.nck 75), Ko 77 (.fa 0 76), Ko 78 (.call 69 [77, .c (.int .u8 (.ofNat 41))])]))) (Kr [Ko 80 (.bin .eql 5 (Ki 8)), Km 79 80]
 (.cond 79 (Kr [Km 81 0, Ko 82 (.nck 81), Ko 83 (.fa 0 82), Ko 84 (.call 64 [83, (.c (.str [35, 117, 56, 40]))])]
 (Kr [Km 85 0, Ko 86 (.fa 2 3), Ko 87 (.ld 86), Ko 88 (.call 70 [87]), Ko 89 (.call 68 [85, 88])]
 (.reg [Km 90 0, Ko 91 (.nck 90), Ko 92 (.fa 0 91), Ko 93 (.call 69 [92, .c (.int .u8 (.ofNat 41))])]))) (Kr [Ko 95 (.bin .eql 5 (Ki 9)), Km 94 95]
 (.cond 94 (.reg [Km 96 0, Ko 97 (.nck 96), Ko 98 (.fa 0 97), Ko 99 (.call 64 [98, (.c (.str [35, 33, 101, 111, 102]))])]) (Kr [Ko 101 (.bin .eql 5 (Ki 10)), Km 100 101]
 (.cond 100 (.reg [Km 102 0, Ko 103 (.nck 102), Ko 104 (.fa 0 103), Ko 105 (.call 64 [104, (.c (.str [35, 33, 110, 111, 110, 101]))])]) (.reg [Km 6 0, Ko 7 (.ldn 5 3), Ko 8 (.call 71 [6, 7])]))))))))))))))))))))))⟩
def f50 : IFunc := ⟨14, [.t 2], (Kr [Ko 2 (.mv (.c (.str [])))]
 (.seq (.regd [Kd 3 (.mv 0) 0, Kd 4 (.nck 3) 1, Kd 5 (.fa 1 4) 3, Kd 6 (.ld 5) 7, Kd 7 (.usd 6) 15, Kd 8 (.mv 0) 0, Kd 9 (.nck 8) 32, Kd 10 (.fa 1 9) 96, Kd 11 (.ld 10) 224, Kd 12 (.len .v 11) 480, Kd 13 (.ust 5 7 12) 1023, Kd 2 (.mv 13) 2047])
 .ret))⟩
def f51 : IFunc := ⟨9, [.t 4], (.seq (.reg [Ko 4 (.mv (.c (.bool false)))])
 (.seq (.reg [Ko 5 (.mv (.t 0)), Ko 6 (.mv (.t 1)), Ko 7 (.call 72 [.t 5, .t 6]), Ko 8 (.bin .geq (.t 7) (Ki 0)), Ko 4 (.mv (.t 8))])
 .ret))⟩
def f52 : IFunc := ⟨12, [.t 2], (.seq (.reg [Ko 1 (.box 25 (.t 0)), Ko 2 (.mv (.c (.bool false)))])
 (.seq (.reg [Ko 3 (.fa 0 (.t 1)), Ko 4 (.ld (.t 3)), Ko 5 (.bin .eql (.t 4) (Ki 6)), Ko 6 (.mv (.t 5)), Kg 7 (.fa 3 (.t 1)) 6 true, Kg 8 (.ld (.t 7)) 6 true, Kg 9 (.len .v (.t 8)) 6 true, Kg 10 (.bin .eql (.t 9) (Ki 2)) 6 true, Ko 11 (.pick (.t 6) (.t 10) (.c (.bool false))), Ko 2 (.mv (.t 11))])
 .ret))⟩
def f53 : IFunc := ⟨32, [.t 6], (.seq (.reg [Ko 6 (.mv (.c (.bool false)))])
 (.seq (.seq (.reg [Ko 10 (.mv (.t 0)), Ko 11 (.len .v (.t 10)), Ko 12 (.mv (.t 1)), Ko 13 (.len .v (.t 12)), Ko 14 (.bin .neq (.t 11) (.t 13))])
 (.cond (.t 14) (.seq (.reg [Ko 6 (.mv (.c (.bool false)))])
 .ret) .skip))
 (.seq (.seq (.reg [Ko 15 (.mv (.t 0)), Ko 16 (.len .v (.t 15)), Ko 17 (.mv (Ki 0))])
 (.block 0 (.loop (.seq (.reg [Ko 18 (.bin .lss (.t 17) (.t 16))])
 (.seq (.cond (.t 18) .skip (.exit 0))
 (.seq (.block 1 (.seq (.reg [Ko 19 (.mv (.t 17)), Ko 20 (.ia 5 (.t 15) (.t 17)), Ko 21 (.ldn 5 (.t 20)), Ko 8 (.alloc 25 [(.int .i64 (.ofNat 0)), (.int .i64 (.ofNat 0)), (.str []), .nils, (.int .i64 (.ofNat 0))]), Ko 7 (.mv (.t 19)), Kn (.st 5 (.t 8) (.t 21))])
 (.seq (.reg [Ko 22 (.mv (.t 1)), Ko 23 (.mv (.t 7)), Ko 24 (.ia 5 (.t 22) (.t 23)), Ko 25 (.ldn 5 (.t 24)), Ko 9 (.alloc 25 [(.int .i64 (.ofNat 0)), (.int .i64 (.ofNat 0)), (.str []), .nils, (.int .i64 (.ofNat 0))]), Kn (.st 5 (.t 9) (.t 25))])
 (.seq (.reg [Ko 26 (.mv (.t 2)), Ko 27 (.ldn 5 (.t 8)), Ko 28 (.ldn 5 (.t 9)), Ko 29 (.cv (.t 26) [.t 27, .t 28]), Ko 30 (.un .not (.t 29))])
 (.cond (.t 30) (.seq (.reg [Ko 6 (.mv (.c (.bool false)))])
 .ret) .skip)))))
 (.reg [Ko 31 (.bin .add (.t 17) (Ki 1)), Ko 17 (.mv (.t 31))])))))))
 (.seq (.reg [Ko 6 (.mv (.c (.bool true)))])
 .ret))))⟩
def f54 : IFunc := ⟨19, [.t 4], (.seq (.reg [Ko 4 (.mv (Ki 0))])
 (.seq (.seq (.reg [Ko 6 (.mv (.t 0)), Ko 7 (.len .v (.t 6)), Ko 8 (.mv (Ki 0))])
 (.block 0 (.loop (.seq (.reg [Ko 9 (.bin .lss (.t 8) (.t 7))])
 (.seq (.cond (.t 9) .skip (.exit 0))
 (.seq (.block 1 (.seq (.reg [Ko 10 (.mv (.t 8)), Ko 5 (.mv (.t 10))])
 (.seq (.reg [Ko 11 (.mv (.t 1)), Ko 12 (.mv (.t 0)), Ko 13 (.mv (.t 5)), Ko 14 (.ia 3 (.t 12) (.t 13)), Ko 15 (.ldn 3 (.t 14)), Ko 16 (.cv (.t 11) [.t 15])])
 (.cond (.t 16) (.seq (.reg [Ko 17 (.mv (.t 5)), Ko 4 (.mv (.t 17))])
 .ret) .skip))))
 (.reg [Ko 18 (.bin .add (.t 8) (Ki 1)), Ko 8 (.mv (.t 18))])))))))
 (.seq (.reg [Ko 4 (.mv (.c (.int .i64 (.negSucc 0))))])
 .ret)))⟩
def f55 : IFunc := ⟨12, [.t 3], (.seq (.reg [Ko 2 (.box 77 (.t 0)), Ko 3 (.mv (.c (.bool false)))])
 (.seq (.regd [Kd 4 (.fa 0 (.t 2)) 0, Kd 5 (.ld (.t 4)) 1, Kd 6 (.fa 1 (.t 2)) 0, Kd 7 (.ld (.t 6)) 4, Kd 8 (.build [(.str []), (.int .i64 (.ofNat 0))] [(0, 1, (.t 5)), (1, 1, (.t 7))]) 15, Kd 9 (.ldn 5 (.t 1)) 0, Kd 10 (.call 39 [.t 9]) 32, Kd 11 (.eqk (.flat [.s, .i]) false (.t 8) (.t 10)) 127, Kd 3 (.mv (.t 11)) 255])
 .ret))⟩
def f56 : IFunc := ⟨57, [.t 4], (.seq (.reg [Ko 3 (.box 25 (.t 1)), Ko 4 (.mv (.c .nils))])
 (.seq (.seq (.regd [Kd 10 (.mv (.t 0)) 0, Kd 11 (.nck (.t 10)) 1, Kd 12 (.fa 0 (.t 11)) 3, Kd 13 (.ld (.t 12)) 7, Kd 14 (.ldn 5 (.t 3)) 0, Kd 15 (.call 35 [.t 13, .t 14]) 31, Kd 5 (.mv (.t 15)) 63])
 (.seq (.reg [Ko 16 (.mv (.t 5)), Ko 17 (.bin .geq (.t 16) (Ki 0))])
 (.cond (.t 17) (.seq (.seq (.reg [Ko 18 (.mv (.t 0)), Ko 19 (.nck (.t 18)), Ko 20 (.fa 0 (.t 19)), Ko 21 (.ld (.t 20)), Ko 22 (.mv (.t 5)), Ko 23 (.ia 3 (.t 21) (.t 22)), Ko 24 (.fa 2 (.t 23)), Ko 25 (.ld (.t 24)), Ko 26 (.bin .gtr (.t 25) (Ki 0))])
 (.cond (.t 26) (.reg [Ko 27 (.mv (.t 4)), Ko 28 (.mv (.t 5)), Ko 29 (.bsl 3 [.int .i64 (.ofNat 0)] 1 [(0, 1, (.t 28))]), Ko 30 (.app 3 1 8 (.t 27) (.t 29)), Ko 4 (.mv (.t 30))]) .skip))
 (.seq (.reg [Ko 31 (.mv (.t 4)), Ko 4 (.mv (.t 31))])
 .ret)) .skip)))
 (.seq (.seq (.reg [Ko 32 (.ldn 5 (.t 3)), Ko 33 (.call 27 [.t 32])])
 (.cond (.t 33) (.seq (.reg [Ko 35 (.ldn 5 (.t 3)), Ko 36 (.call 29 [.t 35]), Ko 34 (.mv (.t 36)), Ko 37 (.ex (.t 34) 0), Ko 38 (.ex (.t 34) 1), Ko 7 (.alloc 25 [(.int .i64 (.ofNat 0)), (.int .i64 (.ofNat 0)), (.str []), .nils, (.int .i64 (.ofNat 0))]), Ko 6 (.mv (.t 37)), Kn (.st 5 (.t 7) (.t 38))])
 (.seq (.seq (.reg [Ko 39 (.mv (.t 6)), Ko 40 (.len .v (.t 39)), Ko 41 (.mv (Ki 0))])
 (.block 0 (.loop (.seq (.reg [Ko 42 (.bin .lss (.t 41) (.t 40))])
 (.seq (.cond (.t 42) .skip (.exit 0))
 (.seq (.block 1 (.seq (.reg [Ko 43 (.ia 5 (.t 39) (.t 41)), Ko 44 (.ldn 5 (.t 43)), Ko 9 (.alloc 25 [(.int .i64 (.ofNat 0)), (.int .i64 (.ofNat 0)), (.str []), .nils, (.int .i64 (.ofNat 0))]), Kn (.st 5 (.t 9) (.t 44))])
 (.reg [Ko 45 (.mv (.t 4)), Ko 46 (.mv (.t 0)), Ko 47 (.ldn 5 (.t 9)), Ko 48 (.call 56 [.t 46, .t 47]), Ko 49 (.app 3 1 8 (.t 45) (.t 48)), Ko 4 (.mv (.t 49))])))
 (.reg [Ko 50 (.bin .add (.t 41) (Ki 1)), Ko 41 (.mv (.t 50))])))))))
 (.reg [Ko 51 (.mv (.t 4)), Ko 52 (.mv (.t 0)), Ko 53 (.ldn 5 (.t 7)), Ko 54 (.call 56 [.t 52, .t 53]), Ko 55 (.app 3 1 8 (.t 51) (.t 54)), Ko 4 (.mv (.t 55))]))) .skip))
 (.seq (.reg [Ko 56 (.mv (.t 4)), Ko 4 (.mv (.t 56))])
 .ret))))⟩
def f57 : IFunc := ⟨8, [.t 2], (.seq (.reg [Ko 2 (.mv (.c .nils))])
 (.seq (.seq (.reg [Ko 3 (.mv (.t 0)), Ko 4 (.eqk .slice false (.t 3) (.c .nils))])
 (.cond (.t 4) (.seq (.reg [Ko 2 (.mv (.c .nils))])
 .ret) .skip))
 (.seq (.reg [Ko 5 (.bsl 67 [] 0 []), Ko 6 (.mv (.t 0)), Ko 7 (.app 67 7 96 (.t 5) (.t 6)), Ko 2 (.mv (.t 7))])
 .ret)))⟩
def f58 : IFunc := ⟨19, [], (.seq (.reg [Ko 4 (.ld (.t 1)), Ko 5 (.len .v (.t 4)), Ko 6 (.bin .sub (.t 5) (Ki 1)), Ko 3 (.mv (.t 6))])
 (.block 0 (.loop (.seq (.seq (.reg [Ko 7 (.mv (.t 3)), Ko 8 (.bin .geq (.t 7) (Ki 0))])
 (.cond (.t 8) .skip (.exit 0)))
 (.seq (.block 1 (.seq (.reg [Ko 11 (.mv (.t 0)), Ko 12 (.mv (.t 3)), Ko 13 (.ld (.t 1)), Ko 14 (.mv (.t 3)), Ko 15 (.ia 5 (.t 13) (.t 14)), Ko 16 (.ldn 5 (.t 15)), Ko 17 (.cv (.t 11) [.t 12, .t 16]), Ko 18 (.un .not (.t 17))])
 (.cond (.t 18) .ret .skip)))
 (.reg [Ko 9 (.mv (.t 3)), Ko 10 (.bin .sub (.t 9) (Ki 1)), Ko 3 (.mv (.t 10))]))))))⟩
def f59 : IFunc := ⟨53, [.t 4, .t 5, .t 6], (.seq (.reg [Ko 4 (.mv (Ki 0)), Ko 5 (.mv (Ki 0)), Ko 6 (.mv (Ki 0))])
 (.seq (.seq (.reg [Ko 9 (.mv (.t 1)), Ko 10 (.bin .lss (.t 9) (Ki 0)), Ko 11 (.mv (.t 10)), Kg 12 (.mv (.t 1)) 11 false, Kg 13 (.mv (.t 0)) 11 false, Kg 14 (.len .v (.t 13)) 11 false, Kg 15 (.bin .geq (.t 12) (.t 14)) 11 false, Ko 16 (.pick (.t 11) (.c (.bool true)) (.t 15))])
 (.cond (.t 16) (.seq (.reg [Ko 4 (.mv (Ki 0)), Ko 5 (.mv (Ki 0)), Ko 6 (.mv (Ki 2))])
 .ret) .skip))
 (.seq (.seq (.reg [Ko 7 (.mv (Ki 1))])
 (.block 0 (.loop (.seq (.seq (.reg [Ko 17 (.mv (.t 7)), Ko 18 (.bin .leq (.t 17) (Ki 4)), Ko 19 (.mv (.t 18)), Kg 20 (.mv (.t 1)) 19 true, Kg 21 (.mv (.t 7)) 19 true, Kg 22 (.bin .add (.t 20) (.t 21)) 19 true, Kg 23 (.mv (.t 0)) 19 true, Kg 24 (.len .v (.t 23)) 19 true, Kg 25 (.bin .leq (.t 22) (.t 24)) 19 true, Ko 26 (.pick (.t 19) (.t 25) (.c (.bool false)))])
 (.cond (.t 26) .skip (.exit 0)))
 (.seq (.block 1 (.seq (.reg [Ko 29 (.mv (.t 0)), Ko 30 (.mv (.t 1)), Ko 31 (.mv (.t 1)), Ko 32 (.mv (.t 7)), Ko 33 (.bin .add (.t 31) (.t 32)), Ko 34 (.slv 1 (.t 29) (some (.t 30)) (some (.t 33)) none), Ko 35 (.call 73 [.t 34]), Ko 8 (.mv (.t 35))])
 (.seq (.regd [Kd 36 (.mv (.t 8)) 0, Kd 37 (.call 21 [.t 36]) 1, Kd 38 (.mv (.t 37)) 3, Ke 39 (.mv (.t 8)) 38 true 7, Ke 40 (.call 74 [.t 39]) 38 true 15, Ke 41 (.cbs (.t 40)) 38 true 31, Ke 42 (.mv (.t 0)) 38 true 7, Ke 43 (.mv (.t 1)) 38 true 7, Ke 44 (.mv (.t 1)) 38 true 7, Ke 45 (.mv (.t 7)) 38 true 7, Ke 46 (.bin .add (.t 44) (.t 45)) 38 true 775, Ke 47 (.slv 1 (.t 42) (some (.t 43)) (some (.t 46)) none) 38 true 1991, Ke 48 (.cbs (.t 47)) 38 true 4039, Ke 49 (.bin .eql (.t 41) (.t 48)) 38 true 8191, Kd 50 (.pick (.t 38) (.t 49) (.c (.bool false))) 16383])
 (.cond (.t 50) (.seq (.reg [Ko 51 (.mv (.t 8)), Ko 52 (.mv (.t 7)), Ko 4 (.mv (.t 51)), Ko 5 (.mv (.t 52)), Ko 6 (.mv (Ki 0))])
 .ret) .skip))))
 (.reg [Ko 27 (.mv (.t 7)), Ko 28 (.bin .add (.t 27) (Ki 1)), Ko 7 (.mv (.t 28))]))))))
 (.seq (.reg [Ko 4 (.mv (Ki 0)), Ko 5 (.mv (Ki 0)), Ko 6 (.mv (Ki 4))])
 .ret))))⟩
def f60 : IFunc := ⟨35, [.t 2, .cn 3 2], (Kr [Km 2 (.c .nils), Ko 3 (.alloc 97 [Kv 0, Kv 0])]
 (.seq (Kr [Km 7 0, Ko 8 (.len .v 7), Ko 9 (.bin .gtr 8 (Ki 16777216))]
 (.cond 9 (Kr [Ko 10 (.build [Kv 0, Kv 0] [(0, 1, (Ki 3))]), Km 2 (.c .nils), Kn (.st 2 3 10)]
 .ret) .skip))
 (Kr [Km 11 0, Ko 12 (.build [.nils, Kv 0] [(0, 1, 11)]), Ko 13 (.box 139 12), Km 4 13]
 (.seq (.block 0 (.loop (.seq (Kr [Km 14 4, Ko 15 (.call 75 [14]), Ko 16 (.un .not 15)]
 (.cond 16 .skip (.exit 0)))
 (.block 1 (Kr [Km 18 4, Ko 19 (.call 76 [18]), Km 17 19, Ko 20 (.ex 17 0), Ko 21 (.ex 17 1), Ko 5 (.alloc 141 [Kv 0, Kv 0, Kv 0, Kv 0, (.str []), .nils, Kv 0]), Ko 6 (.alloc 97 [Kv 0, Kv 0]), Kn (.st 7 5 20), Kn (.st 2 6 21)]
 (.seq (Kr [Ko 22 (.fa 0 6), Ko 23 (.ld 22), Ko 24 (.bin .neq 23 (Ki 0))]
 (.cond 24 (.seq (.regd [Kd 25 (.ldn 2 6) 0, Kd 2 (.mv (.c .nils)) 0, Kf (.st 2 3 25) 3])
 .ret) .skip))
 (Kr [Ko 26 (.fa 0 5), Ko 27 (.ld 26), Ko 28 (.bin .neq 27 (Ki 0))]
 (.cond 28 (.reg [Km 29 2, Ko 30 (.ldn 7 5), Ko 31 (.bsl 141 [Kv 0, Kv 0, Kv 0, Kv 0, (.str []), .nils, Kv 0] 1 [(0, 7, 30)]), Ko 32 (.app 141 7 80 29 31), Km 2 32]) .skip))))))))
 (Kr [Km 33 2, Ko 34 (.call 77 []), Km 2 33, Kn (.st 2 3 34)]
 .ret)))))⟩
def f61 : IFunc := ⟨96, [.cn 6 5], (Kr [Ko 6 (.alloc 25 [Kv 0, Kv 0, (.str []), .nils, Kv 0])]
 (Kr [Km 15 0, Ko 16 (.call 78 [15]), Km 14 16, Ko 17 (.ex 14 0), Ko 18 (.ex 14 1), Ko 7 (.alloc 141 [Kv 0, Kv 0, Kv 0, Kv 0, (.str []), .nils, Kv 0]), Kn (.st 7 7 17), Km 8 18]
 (.seq (Kr [Km 19 8, Ko 20 (.un .not 19)]
 (.cond 20 (Kr [Km 21 0, Km 22 2, Ko 23 (.call 79 [21, Ki 7, 22]), Kn (.st 5 6 23)]
 .ret) .skip))
 (Kr [Km 24 0, Ko 25 (.nck 24), Ko 26 (.fa 1 25), Ko 27 (.ld 26), Ko 28 (.bin .add 27 (Ki 1)), Ko 29 (.nck 24), Ko 30 (.fa 1 29), Kn (.st 1 30 28)]
 (.seq (Kr [Ko 31 (.fa 0 7), Ko 32 (.ld 31)]
 (.block 0 (Kr [Ko 34 (.bin .eql 32 (Ki 7)), Km 33 34]
 (.cond 33 (Kr [Ko 35 (.fa 2 7), Ko 36 (.ldn 5 35), Kn (.st 5 6 36)]
 .ret) (.seq (Kr [Ko 38 (.bin .eql 32 (Ki 2)), Km 37 38]
 (.cond 37 .skip (.reg [Ko 39 (.bin .eql 32 (Ki 6)), Km 37 39])))
 (.cond 37 (Kr [Km 40 0, Ko 41 (.fa 1 7), Ko 42 (.ld 41), Ko 43 (.call 79 [40, Ki 7, 42]), Kn (.st 5 6 43)]
 .ret) .skip))))))
 (.seq (Kr [Km 44 1, Ko 45 (.bin .geq 44 (Ki 200))]
 (.cond 45 (Kr [Km 46 0, Ko 47 (.fa 1 7), Ko 48 (.ld 47), Ko 49 (.call 79 [46, Ki 5, 48]), Kn (.st 5 6 49)]
 .ret) .skip))
 (.seq (Kr [Ko 50 (.fa 0 7), Ko 51 (.ld 50)]
 (.block 1 (Kr [Ko 53 (.bin .eql 51 (Ki 3)), Km 52 53]
 (.cond 52 (Kr [Km 54 0, Km 55 1, Ko 56 (.bin .add 55 (Ki 1)), Ko 57 (.fa 1 7), Ko 58 (.ld 57), Ko 59 (.call 61 [54, 56, 58]), Ko 9 (.alloc 25 [Kv 0, Kv 0, (.str []), .nils, Kv 0]), Kn (.st 5 9 59)]
 (Kr [Ko 60 (.fa 4 9), Ko 61 (.ld 60), Ko 62 (.build [Kv 0, Kv 0, (.str []), .nils, Kv 0] [(4, 1, 61)]), Ko 10 (.alloc 25 [Kv 0, Kv 0, (.str []), .nils, Kv 0]), Kn (.st 5 10 62)]
 (Kr [Ko 63 (.fa 1 7), Ko 64 (.ld 63), Ko 65 (.build [Kv 0, Kv 0, (.str []), .nils, Kv 0] [(0, 1, (Ki 5)), (2, 1, (.c (.str [113, 117, 111, 116, 101]))), (4, 1, 64)]), Ko 11 (.alloc 25 [Kv 0, Kv 0, (.str []), .nils, Kv 0]), Kn (.st 5 11 65)]
 (Kr [Ko 66 (.ldn 5 11), Ko 67 (.ldn 5 9), Ko 68 (.bsl 25 [Kv 0, Kv 0, (.str []), .nils, Kv 0, Kv 0, Kv 0, (.str []), .nils, Kv 0] 2 [(0, 5, 66), (5, 5, 67)]), Ko 69 (.ldn 5 10), Ko 70 (.call 80 [68, 69]), Kn (.st 5 6 70)]
 .ret)))) (Kr [Ko 72 (.bin .eql 51 (Ki 1)), Km 71 72]
 (.cond 71 (Kr [Km 73 0, Km 74 1, Ko 75 (.fa 1 7), Ko 76 (.ld 75), Ko 77 (.call 81 [73, 74, 76]), Kn (.st 5 6 77)]
 .ret) (Kr [Ko 79 (.bin .eql 51 (Ki 4)), Km 78 79]
 (.cond 78 (Kr [Km 81 0, Km 82 1, Ko 83 (.fa 1 7), Ko 84 (.ld 83), Ko 85 (.call 82 [81, 82, 84, .c (.bool false)]), Km 80 85, Ko 86 (.ex 80 0), Ko 87 (.ex 80 1), Ko 13 (.alloc 141 [Kv 0, Kv 0, Kv 0, Kv 0, (.str []), .nils, Kv 0]), Km 12 86, Kn (.st 7 13 87)]
 (Kr [Km 88 12, Ko 89 (.fa 1 7), Ko 90 (.ld 89), Ko 91 (.build [Kv 0, Kv 0, (.str []), .nils, Kv 0] [(0, 1, (Ki 7)), (3, 1, 88), (4, 1, 90)]), Kn (.st 5 6 91)]
 .ret)) .skip))))))))
 (Kr [Km 92 0, Ko 93 (.fa 1 7), Ko 94 (.ld 93), Ko 95 (.call 83 [92, 94]), Kn (.st 5 6 95)]
 .ret))))))))⟩
def f62 : IFunc := ⟨6, [.t 2], (.seq (.reg [Ko 1 (.box 25 (.t 0)), Ko 2 (.mv (.c (.bool false)))])
 (.seq (.reg [Ko 3 (.ldn 5 (.t 1)), Ko 4 (.call 48 [.t 3]), Ko 5 (.un .not (.t 4)), Ko 2 (.mv (.t 5))])
 .ret))⟩
def f63 : IFunc := ⟨53, [.t 2], (.seq (.reg [Ko 1 (.box 25 (.t 0)), Ko 2 (.mv (.c (.bool false)))])
 (.seq (.seq (.reg [Ko 5 (.fa 0 (.t 1)), Ko 6 (.ld (.t 5))])
 (.block 0 (.seq (.seq (.reg [Ko 8 (.bin .eql (.t 6) (Ki 0)), Ko 7 (.mv (.t 8))])
 (.cond (.t 7) .skip (.seq (.reg [Ko 9 (.bin .eql (.t 6) (Ki 8)), Ko 7 (.mv (.t 9))])
 (.cond (.t 7) .skip (.seq (.reg [Ko 10 (.bin .eql (.t 6) (Ki 9)), Ko 7 (.mv (.t 10))])
 (.cond (.t 7) .skip (.reg [Ko 11 (.bin .eql (.t 6) (Ki 10)), Ko 7 (.mv (.t 11))])))))))
 (.cond (.t 7) (.seq (.reg [Ko 2 (.mv (.c (.bool true)))])
 .ret) (.seq (.reg [Ko 13 (.bin .eql (.t 6) (Ki 1)), Ko 12 (.mv (.t 13))])
 (.cond (.t 12) (.seq (.reg [Ko 14 (.fa 1 (.t 1)), Ko 15 (.ld (.t 14)), Ko 16 (.bin .eql (.t 15) (Ki 0)), Ko 17 (.mv (.t 16)), Kg 18 (.fa 1 (.t 1)) 17 false, Kg 19 (.ld (.t 18)) 17 false, Kg 20 (.bin .eql (.t 19) (Ki 1)) 17 false, Ko 21 (.pick (.t 17) (.c (.bool true)) (.t 20)), Ko 2 (.mv (.t 21))])
 .ret) (.seq (.reg [Ko 23 (.bin .eql (.t 6) (Ki 2)), Ko 22 (.mv (.t 23))])
 (.cond (.t 22) (.seq (.reg [Ko 24 (.fa 2 (.t 1)), Ko 25 (.ld (.t 24)), Ko 26 (.call 84 [.t 25]), Ko 2 (.mv (.t 26))])
 .ret) (.seq (.reg [Ko 28 (.bin .eql (.t 6) (Ki 3)), Ko 27 (.mv (.t 28))])
 (.cond (.t 27) (.seq (.reg [Ko 29 (.fa 1 (.t 1)), Ko 30 (.ld (.t 29)), Ko 31 (.call 85 [.t 30]), Ko 2 (.mv (.t 31))])
 .ret) (.seq (.seq (.reg [Ko 33 (.bin .eql (.t 6) (Ki 4)), Ko 32 (.mv (.t 33))])
 (.cond (.t 32) .skip (.reg [Ko 34 (.bin .eql (.t 6) (Ki 5)), Ko 32 (.mv (.t 34))])))
 (.cond (.t 32) (.seq (.reg [Ko 36 (.fa 2 (.t 1)), Ko 37 (.ld (.t 36)), Ko 38 (.call 86 [.t 37]), Ko 35 (.mv (.t 38)), Ko 39 (.ex (.t 35) 0), Ko 40 (.ex (.t 35) 1), Ko 3 (.mv (.t 39)), Ko 4 (.mv (.t 40))])
 (.seq (.reg [Ko 41 (.mv (.t 4)), Ko 42 (.bin .eql (.t 41) (Ki 0)), Ko 43 (.mv (.t 42)), Kg 44 (.fa 0 (.t 1)) 43 true, Kg 45 (.ld (.t 44)) 43 true, Kg 46 (.bin .eql (.t 45) (Ki 4)) 43 true, Kg 47 (.mv (.t 46)) 43 true, Kg 48 (.fa 2 (.t 1)) 47 false, Kg 49 (.ld (.t 48)) 47 false, Kg 50 (.bin .neq (.t 49) (.c (.str []))) 47 false, Kg 51 (.pick (.t 47) (.c (.bool true)) (.t 50)) 43 true, Ko 52 (.pick (.t 43) (.t 51) (.c (.bool false))), Ko 2 (.mv (.t 52))])
 .ret)) .skip))))))))))))
 (.seq (.reg [Ko 2 (.mv (.c (.bool false)))])
 .ret)))⟩
def f64 : IFunc := ⟨19, [.t 4, .t 5], (Kr [Km 4 (Ki 0), Km 5 (.c .nili)]
 (Kr [Km 6 0, Ko 7 (.call 87 [6])]
 (Kr [Km 8 0, Km 9 0, Ko 10 (.nck 9), Ko 11 (.fa 1 10), Ko 12 (.ld 11), Km 13 1, Ko 14 (.app 5 1 1 12 13), Ko 15 (.nck 8), Ko 16 (.fa 1 15), Kn (.st 1 16 14)]
 (Kr [Km 17 1, Ko 18 (.len .s 17), Km 4 18, Km 5 (.c .nili)]
 .ret))))⟩
def f68 : IFunc := ⟨23, [], (Kr [Km 6 1, Ko 7 (.len .v 6), Km 8 (Ki 0)]
 (.block 0 (.loop (Kr [Ko 9 (.bin .lss 8 7)]
 (.seq (.cond 9 .skip (.exit 0))
 (.seq (.block 1 (Kr [Km 10 8, Ko 11 (.ia 5 6 8), Ko 12 (.ldn 5 11), Ko 5 (.alloc 25 [Kv 0, Kv 0, (.str []), .nils, Kv 0]), Km 4 10, Kn (.st 5 5 12)]
 (.seq (Kr [Km 13 4, Ko 14 (.bin .gtr 13 (Ki 0))]
 (.cond 14 (.reg [Km 15 0, Ko 16 (.nck 15), Ko 17 (.fa 0 16), Ko 18 (.call 69 [17, .c (.int .u8 (.ofNat 32))])]) .skip))
 (.reg [Km 19 0, Ko 20 (.ldn 5 5), Ko 21 (.call 49 [19, 20])]))))
 (.reg [Ko 22 (.bin .add 8 (Ki 1)), Km 8 22])))))))⟩
def f69 : IFunc := ⟨17, [.t 4], (Kr [Km 4 (.c .nili)]
 (Kr [Km 5 0, Ko 6 (.call 87 [5])]
 (Kr [Km 7 0, Km 8 0, Ko 9 (.nck 8), Ko 10 (.fa 1 9), Ko 11 (.ld 10), Km 12 1, Ko 13 (.bsl 5 [Kw 0] 1 [(0, 1, 12)]), Ko 14 (.app 5 1 1 11 13), Ko 15 (.nck 7), Ko 16 (.fa 1 15), Kn (.st 1 16 14)]
 (Kr [Km 4 (.c .nili)]
 .ret))))⟩
def f71 : IFunc := ⟨32, [], (Kr [Ko 3 (.box 25 1)]
 (Kr [Ko 7 (.ldn 5 3), Ko 8 (.call 32 [7]), Km 6 8, Ko 9 (.ex 6 0), Ko 10 (.ex 6 1), Ko 5 (.alloc 25 [Kv 0, Kv 0, (.str []), .nils, Kv 0]), Km 4 9, Kn (.st 5 5 10)]
 (Kr [Km 11 0, Ko 12 (.nck 11), Ko 13 (.fa 0 12), Ko 14 (.call 69 [13, .c (.int .u8 (.ofNat 40))])]
 (Kr [Km 15 0, Km 16 4, Ko 17 (.call 68 [15, 16])]
 (.seq (Kr [Ko 18 (.fa 0 5), Ko 19 (.ld 18), Ko 20 (.bin .neq 19 (Ki 0))]
 (.cond 20 (Kr [Km 21 0, Ko 22 (.nck 21), Ko 23 (.fa 0 22), Ko 24 (.call 64 [23, (.c (.str [32, 46, 32]))])]
 (.reg [Km 25 0, Ko 26 (.ldn 5 5), Ko 27 (.call 49 [25, 26])])) .skip))
 (.reg [Km 28 0, Ko 29 (.nck 28), Ko 30 (.fa 0 29), Ko 31 (.call 69 [30, .c (.int .u8 (.ofNat 41))])]))))))⟩
def f72 : IFunc := ⟨19, [.t 4], (.seq (.reg [Ko 4 (.mv (Ki 0))])
 (.seq (.seq (.reg [Ko 6 (.mv (.t 0)), Ko 7 (.len .v (.t 6)), Ko 8 (.mv (Ki 0))])
 (.block 0 (.loop (.seq (.reg [Ko 9 (.bin .lss (.t 8) (.t 7))])
 (.seq (.cond (.t 9) .skip (.exit 0))
 (.seq (.block 1 (.seq (.reg [Ko 10 (.mv (.t 8)), Ko 5 (.mv (.t 10))])
 (.seq (.reg [Ko 11 (.mv (.t 1)), Ko 12 (.mv (.t 0)), Ko 13 (.mv (.t 5)), Ko 14 (.ia 1 (.t 12) (.t 13)), Ko 15 (.ld (.t 14)), Ko 16 (.bin .eql (.t 11) (.t 15))])
 (.cond (.t 16) (.seq (.reg [Ko 17 (.mv (.t 5)), Ko 4 (.mv (.t 17))])
 .ret) .skip))))
 (.reg [Ko 18 (.bin .add (.t 8) (Ki 1)), Ko 8 (.mv (.t 18))])))))))
 (.seq (.reg [Ko 4 (.mv (.c (.int .i64 (.negSucc 0))))])
 .ret)))⟩
def f73 : IFunc := ⟨42, [.t 2], (.seq (.reg [Ko 2 (.mv (Ki 0))])
 (.seq (.reg [Ko 6 (.mv (.t 0)), Ko 7 (.ia 1 (.t 6) (Ki 0)), Ko 8 (.ld (.t 7)), Ko 9 (.ci .i64 (.t 8)), Ko 3 (.mv (.t 9))])
 (.seq (.reg [Ko 10 (.mv (.t 3)), Ko 4 (.mv (.t 10))])
 (.seq (.seq (.reg [Ko 11 (.mv (.t 0)), Ko 12 (.len .v (.t 11)), Ko 13 (.bin .eql (.t 12) (Ki 2))])
 (.cond (.t 13) (.reg [Ko 14 (.mv (.t 3)), Ko 15 (.bin .rem (.t 14) (Ki 32)), Ko 4 (.mv (.t 15))]) .skip))
 (.seq (.seq (.reg [Ko 16 (.mv (.t 0)), Ko 17 (.len .v (.t 16)), Ko 18 (.bin .eql (.t 17) (Ki 3))])
 (.cond (.t 18) (.reg [Ko 19 (.mv (.t 3)), Ko 20 (.bin .rem (.t 19) (Ki 16)), Ko 4 (.mv (.t 20))]) .skip))
 (.seq (.seq (.reg [Ko 21 (.mv (.t 0)), Ko 22 (.len .v (.t 21)), Ko 23 (.bin .eql (.t 22) (Ki 4))])
 (.cond (.t 23) (.reg [Ko 24 (.mv (.t 3)), Ko 25 (.bin .rem (.t 24) (Ki 8)), Ko 4 (.mv (.t 25))]) .skip))
 (.seq (.seq (.reg [Ko 5 (.mv (Ki 1))])
 (.block 0 (.loop (.seq (.seq (.reg [Ko 26 (.mv (.t 5)), Ko 27 (.mv (.t 0)), Ko 28 (.len .v (.t 27)), Ko 29 (.bin .lss (.t 26) (.t 28))])
 (.cond (.t 29) .skip (.exit 0)))
 (.seq (.block 1 (.reg [Ko 32 (.mv (.t 4)), Ko 33 (.bin .mul (Ki 64) (.t 32)), Ko 34 (.mv (.t 0)), Ko 35 (.mv (.t 5)), Ko 36 (.ia 1 (.t 34) (.t 35)), Ko 37 (.ld (.t 36)), Ko 38 (.ci .i64 (.t 37)), Ko 39 (.bin .rem (.t 38) (Ki 64)), Ko 40 (.bin .add (.t 33) (.t 39)), Ko 4 (.mv (.t 40))]))
 (.reg [Ko 30 (.mv (.t 5)), Ko 31 (.bin .add (.t 30) (Ki 1)), Ko 5 (.mv (.t 31))]))))))
 (.seq (.reg [Ko 41 (.mv (.t 4)), Ko 2 (.mv (.t 41))])
 .ret))))))))⟩
def f74 : IFunc := ⟨54, [.t 2], (.seq (.reg [Ko 2 (.mv (.c .nils))])
 (.seq (.seq (.reg [Ko 3 (.mv (.t 0)), Ko 4 (.bin .lss (.t 3) (Ki 128))])
 (.cond (.t 4) (.seq (.reg [Ko 5 (.mv (.t 0)), Ko 6 (.ci .u8 (.t 5)), Ko 7 (.bsl 5 [.int .u8 (.ofNat 0)] 1 [(0, 1, (.t 6))]), Ko 2 (.mv (.t 7))])
 .ret) .skip))
 (.seq (.seq (.reg [Ko 8 (.mv (.t 0)), Ko 9 (.bin .lss (.t 8) (Ki 2048))])
 (.cond (.t 9) (.seq (.reg [Ko 10 (.mv (.t 0)), Ko 11 (.bin .quo (.t 10) (Ki 64)), Ko 12 (.bin .add (Ki 192) (.t 11)), Ko 13 (.ci .u8 (.t 12)), Ko 14 (.mv (.t 0)), Ko 15 (.bin .rem (.t 14) (Ki 64)), Ko 16 (.bin .add (Ki 128) (.t 15)), Ko 17 (.ci .u8 (.t 16)), Ko 18 (.bsl 5 [.int .u8 (.ofNat 0), .int .u8 (.ofNat 0)] 2 [(0, 1, (.t 13)), (1, 1, (.t 17))]), Ko 2 (.mv (.t 18))])
 .ret) .skip))
 (.seq (.seq (.reg [Ko 19 (.mv (.t 0)), Ko 20 (.bin .lss (.t 19) (Ki 65536))])
 (.cond (.t 20) (.seq (.reg [Ko 21 (.mv (.t 0)), Ko 22 (.bin .quo (.t 21) (Ki 4096)), Ko 23 (.bin .add (Ki 224) (.t 22)), Ko 24 (.ci .u8 (.t 23)), Ko 25 (.mv (.t 0)), Ko 26 (.bin .quo (.t 25) (Ki 64)), Ko 27 (.bin .rem (.t 26) (Ki 64)), Ko 28 (.bin .add (Ki 128) (.t 27)), Ko 29 (.ci .u8 (.t 28)), Ko 30 (.mv (.t 0)), Ko 31 (.bin .rem (.t 30) (Ki 64)), Ko 32 (.bin .add (Ki 128) (.t 31)), Ko 33 (.ci .u8 (.t 32)), Ko 34 (.bsl 5 [.int .u8 (.ofNat 0), .int .u8 (.ofNat 0), .int .u8 (.ofNat 0)] 3 [(0, 1, (.t 24)), (1, 1, (.t 29)), (2, 1, (.t 33))]), Ko 2 (.mv (.t 34))])
 .ret) .skip))
 (.seq (.reg [Ko 35 (.mv (.t 0)), Ko 36 (.bin .quo (.t 35) (Ki 262144)), Ko 37 (.bin .add (Ki 240) (.t 36)), Ko 38 (.ci .u8 (.t 37)), Ko 39 (.mv (.t 0)), Ko 40 (.bin .quo (.t 39) (Ki 4096)), Ko 41 (.bin .rem (.t 40) (Ki 64)), Ko 42 (.bin .add (Ki 128) (.t 41)), Ko 43 (.ci .u8 (.t 42)), Ko 44 (.mv (.t 0)), Ko 45 (.bin .quo (.t 44) (Ki 64)), Ko 46 (.bin .rem (.t 45) (Ki 64)), Ko 47 (.bin .add (Ki 128) (.t 46)), Ko 48 (.ci .u8 (.t 47)), Ko 49 (.mv (.t 0)), Ko 50 (.bin .rem (.t 49) (Ki 64)), Ko 51 (.bin .add (Ki 128) (.t 50)), Ko 52 (.ci .u8 (.t 51)), Ko 53 (.bsl 5 [.int .u8 (.ofNat 0), .int .u8 (.ofNat 0), .int .u8 (.ofNat 0), .int .u8 (.ofNat 0)] 4 [(0, 1, (.t 38)), (1, 1, (.t 43)), (2, 1, (.t 48)), (3, 1, (.t 52))]), Ko 2 (.mv (.t 53))])
 .ret)))))⟩
def f75 : IFunc := ⟨13, [.t 2], (Kr [Km 2 KF]
 (.seq (.regd [Kd 3 (.mv 0) 0, Kd 4 (.nck 3) 1, Kd 5 (.fa 1 4) 3, Kd 6 (.ld 5) 7, Kd 7 (.mv 0) 0, Kd 8 (.nck 7) 16, Kd 9 (.fa 0 8) 48, Kd 10 (.ld 9) 112, Kd 11 (.len .v 10) 240, Kd 12 (.bin .geq 6 11) 511, Kd 2 (.mv 12) 1023])
 .ret))⟩
def f76 : IFunc := ⟨126, [.cn 2 7, .cn 3 2], (Kr [Ko 2 (.alloc 141 [Kv 0, Kv 0, Kv 0, Kv 0, (.str []), .nils, Kv 0]), Ko 3 (.alloc 97 [Kv 0, Kv 0])]
 (.seq (.regd [Kd 8 (.mv 0) 0, Kd 9 (.nck 8) 1, Kd 10 (.fa 1 9) 3, Kd 11 (.ld 10) 7, Kd 12 (.mv 0) 0, Kd 13 (.nck 12) 16, Kd 14 (.fa 0 13) 48, Kd 15 (.ld 14) 112, Kd 16 (.mv 0) 0, Kd 17 (.nck 16) 256, Kd 18 (.fa 1 17) 768, Kd 19 (.ld 18) 1792, Kd 20 (.ia 1 15 19) 4080, Kd 21 (.ld 20) 8176, Kd 4 (.mv 11) 15, Kd 5 (.mv 21) 32767])
 (Kr [Km 6 KF]
 (.seq (.block 0 (Kr [Km 25 5, Ko 26 (.call 92 [25]), Km 24 26]
 (.cond 24 (.reg [Km 27 0, Ko 28 (.nck 27), Ko 29 (.fa 1 28), Ko 30 (.ld 29), Ko 31 (.bin .add 30 (Ki 1)), Ko 32 (.nck 27), Ko 33 (.fa 1 32), Kn (.st 1 33 31)]) (Kr [Km 35 5, Ko 36 (.bin .eql 35 (Kj 59)), Km 34 36]
 (.cond 34 (.reg [Km 37 0, Ko 38 (.call 93 [37]), Kn (.st 2 3 38)]) (Kr [Km 40 0, Ko 41 (.call 94 [40, (.c (.str [35, 124]))]), Km 39 41]
 (.cond 39 (.reg [Km 42 0, Ko 43 (.call 95 [42]), Kn (.st 2 3 43)]) (.seq (Kr [Km 45 5, Ko 46 (.bin .eql 45 (Kj 40)), Km 44 46]
 (.cond 44 .skip (Kr [Km 47 5, Ko 48 (.bin .eql 47 (Kj 41)), Km 44 48]
 (.cond 44 .skip (.reg [Km 49 5, Ko 50 (.bin .eql 49 (Kj 39)), Km 44 50])))))
 (.cond 44 (Kr [Km 51 0, Ko 52 (.nck 51), Ko 53 (.fa 1 52), Ko 54 (.ld 53), Ko 55 (.bin .add 54 (Ki 1)), Ko 56 (.nck 51), Ko 57 (.fa 1 56), Kn (.st 1 57 55)]
 (.reg [Km 58 5, Ko 59 (.call 96 [(.c (.str [40, 41, 39])), 58]), Ko 60 (.bin .add (Ki 1) 59), Km 61 4, Ko 62 (.build [Kv 0, Kv 0, Kv 0, Kv 0, (.str []), .nils, Kv 0] [(0, 1, 60), (1, 1, 61)]), Kn (.st 7 2 62)])) (Kr [Km 64 5, Ko 65 (.bin .eql 64 (Kj 34)), Km 63 65]
 (.cond 63 (Kr [Ko 7 (.mv (.c (.str [])))]
 (Kr [Km 67 0, Ko 68 (.call 97 [67]), Km 66 68, Ko 69 (.ex 66 0), Ko 70 (.ex 66 1), Km 7 69, Kn (.st 2 3 70)]
 (.reg [Km 71 4, Km 72 7, Km 73 4, Ko 74 (.build [Kv 0, Kv 0, (.str []), .nils, Kv 0] [(0, 1, (Ki 4)), (2, 1, 72), (4, 1, 73)]), Ko 75 (.build [Kv 0, Kv 0, Kv 0, Kv 0, (.str []), .nils, Kv 0] [(0, 1, (Ki 7)), (1, 1, 71), (2, 5, 74)]), Kn (.st 7 2 75)]))) (Kr [Km 77 5, Ko 78 (.bin .eql 77 (Kj 35)), Km 76 78]
 (.cond 76 (Kr [Km 80 0, Ko 81 (.call 98 [80]), Km 79 81, Ko 82 (.ex 79 0), Ko 83 (.ex 79 1), Kn (.st 7 2 82), Kn (.st 2 3 83)]
 (.reg [Ko 84 (.fa 0 2), Ko 85 (.ld 84), Ko 86 (.bin .eql 85 (Ki 7)), Km 6 86])) (Kr [Km 88 5, Ko 89 (.call 99 [88]), Km 87 89]
 (.cond 87 (Kr [Km 90 0, Ko 91 (.call 101 [90]), Km 92 4, Ko 93 (.call 100 [91, 92]), Kn (.st 7 2 93)]
 (.reg [Km 6 KT])) (.reg [Km 22 4, Ko 23 (.call 102 [22]), Kn (.st 2 3 23)]))))))))))))))))
 (.seq (.seq (.regd [Kd 94 (.fa 0 3) 0, Kd 95 (.ld 94) 1, Kd 96 (.bin .eql 95 (Ki 0)) 3, Kd 97 (.mv 96) 7, Ke 98 (.mv 6) 97 true 15, Kd 99 (.pick 97 98 KF) 31, Kd 100 (.mv 99) 63, Ke 101 (.mv 0) 100 true 127, Ke 102 (.call 75 [101]) 100 true 255, Ke 103 (.un .not 102) 100 true 511, Kd 104 (.pick 100 103 KF) 1023, Kd 105 (.mv 104) 2047, Ke 106 (.mv 0) 105 true 4095, Ke 107 (.nck 106) 105 true 8191, Ke 108 (.fa 0 107) 105 true 16383, Ke 109 (.ld 108) 105 true 32767, Ke 110 (.mv 0) 105 true 4095, Ke 111 (.nck 110) 105 true 69631, Ke 112 (.fa 1 111) 105 true 200703, Ke 113 (.ld 112) 105 true 462847, Ke 114 (.ia 1 109 113) 105 true 1048575, Ke 115 (.ld 114) 105 true 2097151, Ke 116 (.call 103 [115]) 105 true 4194303, Ke 117 (.un .not 116) 105 true 8388607, Kd 118 (.pick 105 117 KF) 16777215])
 (.cond 118 (.reg [Km 119 0, Ko 120 (.nck 119), Ko 121 (.fa 1 120), Ko 122 (.ld 121), Ko 123 (.call 102 [122]), Kn (.st 2 3 123)]) .skip))
 (.seq (.regd [Kd 124 (.ldn 7 2) 0, Kd 125 (.ldn 2 3) 0, Kf (.st 7 2 124) 1, Kf (.st 2 3 125) 7])
 .ret))))))⟩
def f77 : IFunc := ⟨2, [.cn 0 2], (Kr [Ko 0 (.alloc 97 [Kv 0, Kv 0])]
 (Kr [Ko 1 (.build [Kv 0, Kv 0] []), Kn (.st 2 0 1)]
 .ret))⟩
def f78 : IFunc := ⟨25, [.cn 2 7, .t 3], (Kr [Ko 2 (.alloc 141 [Kv 0, Kv 0, Kv 0, Kv 0, (.str []), .nils, Kv 0]), Km 3 KF]
 (.seq (.seq (.regd [Kd 4 (.mv 0) 0, Kd 5 (.nck 4) 1, Kd 6 (.fa 1 5) 3, Kd 7 (.ld 6) 7, Kd 8 (.mv 0) 0, Kd 9 (.nck 8) 16, Kd 10 (.fa 0 9) 48, Kd 11 (.ld 10) 112, Kd 12 (.len .v 11) 240, Kd 13 (.bin .eql 7 12) 511])
 (.cond 13 (Kr [Ko 14 (.build [Kv 0, Kv 0, Kv 0, Kv 0, (.str []), .nils, Kv 0] []), Kn (.st 7 2 14), Km 3 KF]
 .ret) .skip))
 (.seq (.regd [Kd 15 (.mv 0) 0, Kd 16 (.nck 15) 1, Kd 17 (.fa 0 16) 3, Kd 18 (.ld 17) 7, Kd 19 (.mv 0) 0, Kd 20 (.nck 19) 16, Kd 21 (.fa 1 20) 48, Kd 22 (.ld 21) 112, Kd 23 (.ia 7 18 22) 255, Kd 24 (.ldn 7 23) 511, Kf (.st 7 2 24) 1023, Kd 3 (.mv KT) 2047])
 .ret)))⟩
def f80 : IFunc := ⟨18, [.cn 4 5], (Kr [Ko 3 (.box 25 1), Ko 4 (.alloc 25 [Kv 0, Kv 0, (.str []), .nils, Kv 0])]
 (.seq (Kr [Km 7 0, Ko 8 (.call 45 [7])]
 (.block 0 (.rf 8 [9, 10] (.reg [Ko 6 (.alloc 25 [Kv 0, Kv 0, (.str []), .nils, Kv 0]), Kn (.st 5 6 10)]) (.block 1 (.reg [Ko 11 (.ldn 5 6), Ko 12 (.ldn 5 3), Ko 13 (.bsl 25 [Kv 0, Kv 0, (.str []), .nils, Kv 0, Kv 0, Kv 0, (.str []), .nils, Kv 0] 2 [(0, 5, 11), (5, 5, 12)]), Ko 14 (.fa 4 6), Ko 15 (.ld 14), Ko 16 (.build [Kv 0, Kv 0, (.str []), .nils, Kv 0] [(0, 1, (Ki 6)), (3, 1, 13), (4, 1, 15)]), Kn (.st 5 3 16)])))))
 (Kr [Ko 17 (.ldn 5 3), Kn (.st 5 4 17)]
 .ret)))⟩
def f81 : IFunc := ⟨63, [.cn 6 5], (Kr [Ko 6 (.alloc 25 [Kv 0, Kv 0, (.str []), .nils, Kv 0])]
 (Kr [Km 14 0, Km 15 1, Km 16 2, Ko 17 (.call 82 [14, 15, 16, .c (.bool true)]), Km 13 17, Ko 18 (.ex 13 0), Ko 19 (.ex 13 1), Ko 8 (.alloc 141 [Kv 0, Kv 0, Kv 0, Kv 0, (.str []), .nils, Kv 0]), Km 7 18, Kn (.st 7 8 19)]
 (Kr [Ko 20 (.fa 1 8), Ko 21 (.ld 20), Ko 22 (.build [Kv 0, Kv 0, (.str []), .nils, Kv 0] [(4, 1, 21)]), Ko 9 (.alloc 25 [Kv 0, Kv 0, (.str []), .nils, Kv 0]), Kn (.st 5 9 22)]
 (.seq (Kr [Ko 23 (.fa 0 8), Ko 24 (.ld 23), Ko 25 (.bin .eql 24 (Ki 6))]
 (.cond 25 (Kr [Km 26 0, Km 27 1, Ko 28 (.bin .add 27 (Ki 1)), Km 29 2, Ko 30 (.call 61 [26, 28, 29]), Kn (.st 5 9 30)]
 (Kr [Km 32 0, Ko 33 (.call 78 [32]), Km 31 33, Ko 34 (.ex 31 0), Ko 35 (.ex 31 1), Ko 10 (.alloc 141 [Kv 0, Kv 0, Kv 0, Kv 0, (.str []), .nils, Kv 0]), Kn (.st 7 10 34), Km 11 35]
 (.seq (.block 0 (Kr [Km 37 11, Ko 38 (.un .not 37), Km 36 38]
 (.cond 36 (Kr [Km 39 0, Km 40 2, Ko 41 (.call 79 [39, Ki 7, 40]), Kn (.st 5 6 41)]
 .ret) (Kr [Ko 43 (.fa 0 10), Ko 44 (.ld 43), Ko 45 (.bin .neq 44 (Ki 2)), Km 42 45]
 (.cond 42 (Kr [Km 46 0, Ko 47 (.fa 1 10), Ko 48 (.ld 47), Ko 49 (.call 79 [46, Ki 7, 48]), Kn (.st 5 6 49)]
 .ret) .skip)))))
 (.reg [Km 50 0, Ko 51 (.nck 50), Ko 52 (.fa 1 51), Ko 53 (.ld 52), Ko 54 (.bin .add 53 (Ki 1)), Ko 55 (.nck 50), Ko 56 (.fa 1 55), Kn (.st 1 56 54)])))) .skip))
 (Kr [Km 57 7, Ko 58 (.ldn 5 9), Ko 59 (.call 80 [57, 58]), Ko 12 (.alloc 25 [Kv 0, Kv 0, (.str []), .nils, Kv 0]), Kn (.st 5 12 59)]
 (Kr [Km 60 2, Ko 61 (.fa 4 12), Kn (.st 1 61 60)]
 (Kr [Ko 62 (.ldn 5 12), Kn (.st 5 6 62)]
 .ret)))))))⟩
def f82 : IFunc := ⟨62, [.t 8, .cn 9 7], (Kr [Km 8 (.c .nils), Ko 9 (.alloc 141 [Kv 0, Kv 0, Kv 0, Kv 0, (.str []), .nils, Kv 0])]
 (Kr [Km 10 (.c .nils)]
 (.seq (.block 0 (.loop (.seq (Kr [Km 13 0, Ko 14 (.nck 13), Ko 15 (.fa 2 14), Ko 16 (.fa 0 15), Ko 17 (.ld 16), Ko 18 (.bin .eql 17 (Ki 0))]
 (.cond 18 .skip (.exit 0)))
 (.block 1 (Kr [Km 20 0, Ko 21 (.call 78 [20]), Km 19 21, Ko 22 (.ex 19 0), Ko 23 (.ex 19 1), Ko 11 (.alloc 141 [Kv 0, Kv 0, Kv 0, Kv 0, (.str []), .nils, Kv 0]), Kn (.st 7 11 22), Km 12 23]
 (.seq (Kr [Km 24 12, Km 25 24, Kg 26 (.fa 0 11) 25 true, Kg 27 (.ld 26) 25 true, Kg 28 (.bin .eql 27 (Ki 2)) 25 true, Kg 29 (.mv 28) 25 true, Kg 30 (.fa 0 11) 29 false, Kg 31 (.ld 30) 29 false, Kg 32 (.bin .eql 31 (Ki 6)) 29 false, Kg 33 (.mv 32) 29 false, Kg 34 (.mv 10) 33 true, Kg 35 (.len .v 34) 33 true, Kg 36 (.bin .gtr 35 (Ki 0)) 33 true, Kg 37 (.pick 33 36 KF) 29 false, Kg 38 (.mv 37) 29 false, Kg 39 (.mv 3) 38 true, Kg 40 (.pick 38 39 KF) 29 false, Kg 41 (.pick 29 KT 40) 25 true, Ko 42 (.pick 25 41 KF)]
 (.cond 42 (Kr [Km 43 0, Ko 44 (.nck 43), Ko 45 (.fa 1 44), Ko 46 (.ld 45), Ko 47 (.bin .add 46 (Ki 1)), Ko 48 (.nck 43), Ko 49 (.fa 1 48), Kn (.st 1 49 47)]
 (.seq (.regd [Kd 50 (.mv 10) 0, Kd 51 (.ldn 7 11) 0, Kd 8 (.mv 50) 1, Kf (.st 7 9 51) 7])
 .ret)) .skip))
 (.reg [Km 52 10, Km 53 0, Km 54 1, Ko 55 (.bin .add 54 (Ki 1)), Km 56 2, Ko 57 (.call 61 [53, 55, 56]), Ko 58 (.bsl 25 [Kv 0, Kv 0, (.str []), .nils, Kv 0] 1 [(0, 5, 57)]), Ko 59 (.app 25 5 64 52 58), Km 10 59])))))))
 (Kr [Km 60 10, Ko 61 (.build [Kv 0, Kv 0, Kv 0, Kv 0, (.str []), .nils, Kv 0] []), Km 8 60, Kn (.st 7 9 61)]
 .ret))))⟩
def f84 : IFunc := ⟨20, [.t 2], (.seq (.reg [Ko 2 (.mv (.c (.bool false)))])
 (.seq (.reg [Ko 4 (.mv (.t 0)), Ko 5 (.call 105 [(.t 4), (.c (.str [45]))]), Ko 3 (.mv (.t 5))])
 (.seq (.seq (.reg [Ko 6 (.mv (.t 3)), Ko 7 (.bin .eql (.t 6) (.c (.str []))), Ko 8 (.mv (.t 7)), Kg 9 (.mv (.t 3)) 8 false, Kg 10 (.ixs (.t 9) (Ki 0)) 8 false, Kg 11 (.bin .eql (.t 10) (.c (.int .u8 (.ofNat 48)))) 8 false, Kg 12 (.mv (.t 11)) 8 false, Kg 13 (.mv (.t 0)) 12 true, Kg 14 (.bin .neq (.t 13) (.c (.str [48]))) 12 true, Kg 15 (.pick (.t 12) (.t 14) (.c (.bool false))) 8 false, Ko 16 (.pick (.t 8) (.c (.bool true)) (.t 15))])
 (.cond (.t 16) (.seq (.reg [Ko 2 (.mv (.c (.bool false)))])
 .ret) .skip))
 (.seq (.reg [Ko 17 (.mv (.t 3)), Ko 18 (.call 106 [(.t 17), (.c (.fn 107 [] []))]), Ko 19 (.un .not (.t 18)), Ko 2 (.mv (.t 19))])
 .ret))))⟩
def f85 : IFunc := ⟨14, [.t 2], (.seq (.reg [Ko 2 (.mv (.c (.bool false)))])
 (.seq (.reg [Ko 3 (.mv (.t 0)), Ko 4 (.bin .geq (.t 3) (Ki 0)), Ko 5 (.mv (.t 4)), Kg 6 (.mv (.t 0)) 5 true, Kg 7 (.bin .leq (.t 6) (Ki 1114111)) 5 true, Ko 8 (.pick (.t 5) (.t 7) (.c (.bool false))), Ko 9 (.mv (.t 8)), Kg 10 (.mv (.t 0)) 9 true, Kg 11 (.ci .i32 (.t 10)) 9 true, Kg 12 (.call 108 [.t 11]) 9 true, Ko 13 (.pick (.t 9) (.t 12) (.c (.bool false))), Ko 2 (.mv (.t 13))])
 .ret))⟩
def f86 : IFunc := ⟨33, [.t 2, .t 3], (.seq (.reg [Ko 2 (.mv (.c .nils)), Ko 3 (.mv (Ki 0))])
 (.seq (.reg [Ko 10 (.mv (.t 0)), Ko 11 (.csb 5 (.t 10)), Ko 12 (.call 109 [.t 11]), Ko 9 (.mv (.t 12)), Ko 13 (.ex (.t 9) 0), Ko 14 (.ex (.t 9) 1), Ko 5 (.alloc 97 [.int .i64 (.ofNat 0), .int .i64 (.ofNat 0)]), Ko 4 (.mv (.t 13)), Kn (.st 2 (.t 5) (.t 14))])
 (.seq (.seq (.reg [Ko 15 (.fa 0 (.t 5)), Ko 16 (.ld (.t 15)), Ko 17 (.bin .neq (.t 16) (Ki 0))])
 (.cond (.t 17) (.seq (.regd [Kd 18 (.fa 0 (.t 5)) 0, Kd 19 (.ld (.t 18)) 1, Kd 2 (.mv (.c .nils)) 0, Kd 3 (.mv (.t 19)) 7])
 .ret) .skip))
 (.seq (.reg [Ko 6 (.mv (.c .nils))])
 (.seq (.seq (.reg [Ko 20 (.mv (.t 4)), Ko 21 (.len .v (.t 20)), Ko 22 (.mv (Ki 0))])
 (.block 0 (.loop (.seq (.reg [Ko 23 (.bin .lss (.t 22) (.t 21))])
 (.seq (.cond (.t 23) .skip (.exit 0))
 (.seq (.block 1 (.seq (.reg [Ko 24 (.ia 2 (.t 20) (.t 22)), Ko 25 (.ldn 2 (.t 24)), Ko 8 (.alloc 169 [.int .i64 (.ofNat 0), .int .i64 (.ofNat 0)]), Kn (.st 2 (.t 8) (.t 25))])
 (.reg [Ko 26 (.mv (.t 6)), Ko 27 (.fa 0 (.t 8)), Ko 28 (.ld (.t 27)), Ko 29 (.bsl 3 [.int .i64 (.ofNat 0)] 1 [(0, 1, (.t 28))]), Ko 30 (.app 3 1 8 (.t 26) (.t 29)), Ko 6 (.mv (.t 30))])))
 (.reg [Ko 31 (.bin .add (.t 22) (Ki 1)), Ko 22 (.mv (.t 31))])))))))
 (.seq (.reg [Ko 32 (.mv (.t 6)), Ko 2 (.mv (.t 32)), Ko 3 (.mv (Ki 0))])
 .ret))))))⟩
def f87 : IFunc := ⟨20, [], (Kr [Km 2 0, Ko 3 (.nck 2), Ko 4 (.fa 0 3), Ko 5 (.ld 4), Ko 6 (.eqk .ptr false 5 (.c .nilp))]
 (.cond 6 (.reg [Km 7 0, Km 8 0, Ko 9 (.cup 8), Ko 10 (.nes 9), Ko 11 (.cpu [(102, 2), (103, 2), (104, 3), (105, 3)] 10), Ko 12 (.nck 7), Ko 13 (.fa 0 12), Kn (.st 1 13 11)]) (Kr [Km 14 0, Ko 15 (.nck 14), Ko 16 (.fa 0 15), Ko 17 (.ld 16), Km 18 0, Ko 19 (.eqk .ptr true 17 18)]
 (.cond 19 .stk .skip))))⟩
def f92 : IFunc := ⟨17, [.t 2], (Kr [Km 2 KF]
 (Kr [Km 3 0, Ko 4 (.bin .eql 3 (Kj 32)), Km 5 4, Kg 6 (.mv 0) 5 false, Kg 7 (.bin .geq 6 (Kj 9)) 5 false, Kg 8 (.mv 7) 5 false, Kg 9 (.mv 0) 8 true, Kg 10 (.bin .leq 9 (Kj 13)) 8 true, Kg 11 (.pick 8 10 KF) 5 false, Kg 12 (.mv 11) 5 false, Kg 13 (.mv 0) 12 true, Kg 14 (.bin .neq 13 (Kj 11)) 12 true, Kg 15 (.pick 12 14 KF) 5 false, Ko 16 (.pick 5 KT 15), Km 2 16]
 .ret))⟩
def f94 : IFunc := ⟨39, [.t 4], (Kr [Km 4 KF]
 (.seq (.regd [Kd 5 (.mv 0) 0, Kd 6 (.nck 5) 1, Kd 7 (.fa 1 6) 3, Kd 8 (.ld 7) 7, Kd 9 (.mv 1) 0, Kd 10 (.len .s 9) 16, Kd 11 (.bin .add 8 10) 63, Kd 12 (.mv 0) 0, Kd 13 (.nck 12) 128, Kd 14 (.fa 0 13) 384, Kd 15 (.ld 14) 896, Kd 16 (.len .v 15) 1920, Kd 17 (.bin .leq 11 16) 4095, Kd 18 (.mv 17) 8191, Ke 19 (.mv 0) 18 true 16383, Ke 20 (.nck 19) 18 true 32767, Ke 21 (.fa 0 20) 18 true 65535, Ke 22 (.ld 21) 18 true 131071, Ke 23 (.mv 0) 18 true 16383, Ke 24 (.nck 23) 18 true 278527, Ke 25 (.fa 1 24) 18 true 802815, Ke 26 (.ld 25) 18 true 1851391, Ke 27 (.mv 0) 18 true 16383, Ke 28 (.nck 27) 18 true 4210687, Ke 29 (.fa 1 28) 18 true 12599295, Ke 30 (.ld 29) 18 true 29376511, Ke 31 (.mv 1) 18 true 16383, Ke 32 (.len .s 31) 18 true 67125247, Ke 33 (.bin .add 30 32) 18 true 264257535, Ke 34 (.slv 1 22 (some 26) (some 33) none) 18 true 536870911, Ke 35 (.cbs 34) 18 true 1073741823, Ke 36 (.mv 1) 18 true 16383, Ke 37 (.bin .eql 35 36) 18 true 4294967295, Kd 38 (.pick 18 37 KF) 8589934591, Kd 4 (.mv 38) 17179869183])
 .ret))⟩
def f96 : IFunc := ⟨8, [.t 4], (Kr [Km 4 (Ki 0)]
 (Kr [Km 5 0, Km 6 1, Ko 7 (.call 115 [5, 6]), Km 4 7]
 .ret))⟩
def f99 : IFunc := ⟨26, [.t 2], (Kr [Km 2 KF]
 (Kr [Km 3 0, Ko 4 (.bin .geq 3 (Kj 97)), Km 5 4, Kg 6 (.mv 0) 5 true, Kg 7 (.bin .leq 6 (Kj 122)) 5 true, Ko 8 (.pick 5 7 KF), Km 9 8, Kg 10 (.mv 0) 9 false, Kg 11 (.bin .geq 10 (Kj 65)) 9 false, Kg 12 (.mv 11) 9 false, Kg 13 (.mv 0) 12 true, Kg 14 (.bin .leq 13 (Kj 90)) 12 true, Kg 15 (.pick 12 14 KF) 9 false, Ko 16 (.pick 9 KT 15), Km 17 16, Kg 18 (.mv 0) 17 false, Kg 19 (.call 119 [18]) 17 false, Ko 20 (.pick 17 KT 19), Km 21 20, Kg 22 (.mv 0) 21 false, Kg 23 (.call 96 [(.c (.str [33, 36, 37, 38, 42, 47, 58, 60, 61, 62, 63, 94, 95, 126, 43, 45, 46, 64])), 22]) 21 false, Kg 24 (.bin .geq 23 (Ki 0)) 21 false, Ko 25 (.pick 21 KT 24), Km 2 25]
 .ret))⟩
def f100 : IFunc := ⟨27, [.cn 4 7], (Kr [Ko 4 (.alloc 141 [Kv 0, Kv 0, Kv 0, Kv 0, (.str []), .nils, Kv 0])]
 (.seq (Kr [Km 8 0, Ko 9 (.bin .eql 8 (.c (.str [46])))]
 (.cond 9 (Kr [Km 10 1, Ko 11 (.build [Kv 0, Kv 0, Kv 0, Kv 0, (.str []), .nils, Kv 0] [(0, 1, (Ki 6)), (1, 1, 10)]), Kn (.st 7 4 11)]
 .ret) .skip))
 (Kr [Km 12 0, Km 13 1, Ko 14 (.build [Kv 0, Kv 0, (.str []), .nils, Kv 0] [(0, 1, (Ki 5)), (2, 1, 12), (4, 1, 13)]), Ko 5 (.alloc 25 [Kv 0, Kv 0, (.str []), .nils, Kv 0]), Kn (.st 5 5 14)]
 (.seq (Kr [Km 16 0, Ko 17 (.call 120 [16]), Km 15 17, Ko 18 (.ex 15 0), Ko 19 (.ex 15 1), Km 6 18, Km 7 19]
 (Kr [Km 20 7]
 (.cond 20 (.reg [Km 21 6, Ko 22 (.fa 0 5), Kn (.st 1 22 (Ki 2)), Ko 23 (.fa 2 5), Kn (.st 1 23 21)]) .skip)))
 (Kr [Km 24 1, Ko 25 (.ldn 5 5), Ko 26 (.build [Kv 0, Kv 0, Kv 0, Kv 0, (.str []), .nils, Kv 0] [(0, 1, (Ki 7)), (1, 1, 24), (2, 5, 25)]), Kn (.st 7 4 26)]
 .ret)))))⟩
def f101 : IFunc := ⟨42, [.t 2], (Kr [Ko 2 (.mv (.c (.str [])))]
 (Kr [Km 4 0, Ko 5 (.nck 4), Ko 6 (.fa 1 5), Ko 7 (.ld 6), Km 3 7]
 (.seq (.block 0 (.loop (.seq (.seq (.regd [Kd 8 (.mv 0) 0, Kd 9 (.call 75 [8]) 1, Kd 10 (.un .not 9) 3, Kd 11 (.mv 10) 7, Ke 12 (.mv 0) 11 true 15, Ke 13 (.nck 12) 11 true 31, Ke 14 (.fa 0 13) 11 true 63, Ke 15 (.ld 14) 11 true 127, Ke 16 (.mv 0) 11 true 15, Ke 17 (.nck 16) 11 true 271, Ke 18 (.fa 1 17) 11 true 783, Ke 19 (.ld 18) 11 true 1807, Ke 20 (.ia 1 15 19) 11 true 4095, Ke 21 (.ld 20) 11 true 8191, Ke 22 (.call 99 [21]) 11 true 16383, Kd 23 (.pick 11 22 KF) 32767])
 (.cond 23 .skip (.exit 0)))
 (.block 1 (.reg [Km 24 0, Ko 25 (.nck 24), Ko 26 (.fa 1 25), Ko 27 (.ld 26), Ko 28 (.bin .add 27 (Ki 1)), Ko 29 (.nck 24), Ko 30 (.fa 1 29), Kn (.st 1 30 28)])))))
 (.seq (.regd [Kd 31 (.mv 0) 0, Kd 32 (.nck 31) 1, Kd 33 (.fa 0 32) 3, Kd 34 (.ld 33) 7, Kd 35 (.mv 3) 0, Kd 36 (.mv 0) 0, Kd 37 (.nck 36) 32, Kd 38 (.fa 1 37) 96, Kd 39 (.ld 38) 224, Kd 40 (.slv 1 34 (some 35) (some 39) none) 511, Kd 41 (.cbs 40) 1023, Kd 2 (.mv 41) 2047])
 .ret))))⟩
def f103 : IFunc := ⟨10, [.t 2], (Kr [Km 2 KF]
 (Kr [Km 3 0, Ko 4 (.call 92 [3]), Km 5 4, Kg 6 (.mv 0) 5 false, Kg 7 (.call 96 [(.c (.str [40, 41, 34, 59, 39])), 6]) 5 false, Kg 8 (.bin .geq 7 (Ki 0)) 5 false, Ko 9 (.pick 5 KT 8), Km 2 9]
 .ret))⟩
def f105 : IFunc := ⟨8, [.t 4], (.seq (.reg [Ko 4 (.mv (.c (.str [])))])
 (.seq (.reg [Ko 5 (.mv (.t 0)), Ko 6 (.mv (.t 1)), Ko 7 (.call 123 [.t 5, .t 6]), Ko 4 (.mv (.t 7))])
 .ret))⟩
def f106 : IFunc := ⟨9, [.t 4], (.seq (.reg [Ko 4 (.mv (.c (.bool false)))])
 (.seq (.reg [Ko 5 (.mv (.t 0)), Ko 6 (.mv (.t 1)), Ko 7 (.call 124 [.t 5, .t 6]), Ko 8 (.bin .geq (.t 7) (Ki 0)), Ko 4 (.mv (.t 8))])
 .ret))⟩
def f107 : IFunc := ⟨9, [.t 2], (.seq (.reg [Ko 2 (.mv (.c (.bool false)))])
 (.seq (.reg [Ko 3 (.mv (.t 0)), Ko 4 (.bin .lss (.t 3) (.c (.int .i32 (.ofNat 48)))), Ko 5 (.mv (.t 4)), Kg 6 (.mv (.t 0)) 5 false, Kg 7 (.bin .gtr (.t 6) (.c (.int .i32 (.ofNat 57)))) 5 false, Ko 8 (.pick (.t 5) (.c (.bool true)) (.t 7)), Ko 2 (.mv (.t 8))])
 .ret))⟩
def f108 : IFunc := ⟨17, [.t 2], (.seq (.reg [Ko 2 (.mv (.c (.bool false)))])
 (.seq (.block 0 (.seq (.reg [Ko 4 (.mv (.t 0)), Ko 5 (.bin .leq (.c (.int .i32 (.ofNat 0))) (.t 4)), Ko 6 (.mv (.t 5)), Kg 7 (.mv (.t 0)) 6 true, Kg 8 (.bin .lss (.t 7) (.c (.int .i32 (.ofNat 55296)))) 6 true, Ko 9 (.pick (.t 6) (.t 8) (.c (.bool false))), Ko 3 (.mv (.t 9))])
 (.cond (.t 3) (.seq (.reg [Ko 2 (.mv (.c (.bool true)))])
 .ret) (.seq (.reg [Ko 11 (.mv (.t 0)), Ko 12 (.bin .lss (.c (.int .i32 (.ofNat 57343))) (.t 11)), Ko 13 (.mv (.t 12)), Kg 14 (.mv (.t 0)) 13 true, Kg 15 (.bin .leq (.t 14) (.c (.int .i32 (.ofNat 1114111)))) 13 true, Ko 16 (.pick (.t 13) (.t 15) (.c (.bool false))), Ko 10 (.mv (.t 16))])
 (.cond (.t 10) (.seq (.reg [Ko 2 (.mv (.c (.bool true)))])
 .ret) .skip)))))
 (.seq (.reg [Ko 2 (.mv (.c (.bool false)))])
 .ret)))⟩
def f109 : IFunc := ⟨39, [.t 2, .cn 3 2], (.seq (.reg [Ko 2 (.mv (.c .nils)), Ko 3 (.alloc 97 [.int .i64 (.ofNat 0), .int .i64 (.ofNat 0)])])
 (.seq (.reg [Ko 4 (.mv (.c .nils))])
 (.seq (.seq (.reg [Ko 9 (.mv (.t 0)), Ko 10 (.cbs (.t 9)), Ko 11 (.rs (.t 10))])
 (.block 0 (.loop (.seq (.reg [Ko 12 (.ns (.t 11)), Ko 13 (.ex (.t 12) 0)])
 (.seq (.cond (.t 13) .skip (.exit 0))
 (.block 1 (.seq (.reg [Ko 14 (.ex (.t 12) 1), Ko 15 (.ex (.t 12) 2), Ko 5 (.mv (.t 14)), Ko 6 (.mv (.t 15))])
 (.seq (.seq (.reg [Ko 16 (.mv (.t 6)), Ko 17 (.bin .eql (.t 16) (.c (.int .i32 (.ofNat 65533))))])
 (.cond (.t 17) (.seq (.reg [Ko 19 (.mv (.t 0)), Ko 20 (.mv (.t 5)), Ko 21 (.slv 1 (.t 19) (some (.t 20)) none none), Ko 22 (.call 125 [.t 21]), Ko 18 (.mv (.t 22)), Ko 23 (.ex (.t 18) 0), Ko 24 (.ex (.t 18) 1), Ko 7 (.mv (.t 23)), Ko 8 (.mv (.t 24))])
 (.seq (.reg [Ko 25 (.mv (.t 6)), Ko 26 (.mv (.t 8)), Ko 27 (.call 126 [.t 25, .t 26])])
 (.cond (.t 27) (.seq (.reg [Ko 28 (.mv (.t 5)), Ko 29 (.build [.int .i64 (.ofNat 0), .int .i64 (.ofNat 0)] [(0, 1, (Ki 4)), (1, 1, (.t 28))]), Ko 2 (.mv (.c .nils)), Kn (.st 2 (.t 3) (.t 29))])
 .ret) .skip))) .skip))
 (.reg [Ko 30 (.mv (.t 4)), Ko 31 (.mv (.t 6)), Ko 32 (.ci .i64 (.t 31)), Ko 33 (.mv (.t 5)), Ko 34 (.build [.int .i64 (.ofNat 0), .int .i64 (.ofNat 0)] [(0, 1, (.t 32)), (1, 1, (.t 33))]), Ko 35 (.bsl 169 [.int .i64 (.ofNat 0), .int .i64 (.ofNat 0)] 1 [(0, 2, (.t 34))]), Ko 36 (.app 169 2 16 (.t 30) (.t 35)), Ko 4 (.mv (.t 36))])))))))))
 (.seq (.reg [Ko 37 (.mv (.t 4)), Ko 38 (.build [.int .i64 (.ofNat 0), .int .i64 (.ofNat 0)] []), Ko 2 (.mv (.t 37)), Kn (.st 2 (.t 3) (.t 38))])
 .ret))))⟩
def f115 : IFunc := ⟨8, [.t 4], (Kr [Km 4 (Ki 0)]
 (Kr [Km 5 0, Km 6 1, Ko 7 (.ibs 5 6), Km 4 7]
 .ret))⟩
def f119 : IFunc := ⟨9, [.t 2], (Kr [Km 2 KF]
 (Kr [Km 3 0, Ko 4 (.bin .geq 3 (Kj 48)), Km 5 4, Kg 6 (.mv 0) 5 true, Kg 7 (.bin .leq 6 (Kj 57)) 5 true, Ko 8 (.pick 5 7 KF), Km 2 8]
 .ret))⟩
def f120 : IFunc := ⟨35, [.t 2, .t 3], (Kr [Ko 2 (.mv (.c (.str []))), Km 3 KF]
 (Kr [Km 5 0, Km 4 5]
 (.seq (Kr [Km 6 0, Ko 7 (.ixs 6 (Ki 0)), Ko 8 (.bin .eql 7 (Kj 43)), Km 9 8, Kg 10 (.mv 0) 9 false, Kg 11 (.ixs 10 (Ki 0)) 9 false, Kg 12 (.bin .eql 11 (Kj 45)) 9 false, Ko 13 (.pick 9 KT 12)]
 (.cond 13 (.reg [Km 14 0, Ko 15 (.sls 14 (some (Ki 1)) none), Km 4 15]) .skip))
 (.seq (Kr [Km 16 4, Ko 17 (.bin .eql 16 (.c (.str []))), Km 18 17, Kg 19 (.mv 4) 18 false, Kg 20 (.call 134 [19, (.c (.str [48, 49, 50, 51, 52, 53, 54, 55, 56, 57]))]) 18 false, Kg 21 (.bin .neq 20 (.c (.str []))) 18 false, Ko 22 (.pick 18 KT 21)]
 (.cond 22 (Kr [Ko 2 (.mv (.c (.str []))), Km 3 KF]
 .ret) .skip))
 (Kr [Km 23 4, Ko 24 (.call 135 [23, (.c (.str [48]))]), Km 4 24]
 (.seq (.block 0 (Kr [Km 26 4, Ko 27 (.bin .eql 26 (.c (.str []))), Km 25 27]
 (.cond 25 (Kr [Ko 2 (.mv (.c (.str [48]))), Km 3 KT]
 .ret) (Kr [Km 29 0, Ko 30 (.ixs 29 (Ki 0)), Ko 31 (.bin .eql 30 (Kj 45)), Km 28 31]
 (.cond 28 (Kr [Km 32 4, Ko 33 (.bin .add (.c (.str [45])) 32), Km 2 33, Km 3 KT]
 .ret) .skip)))))
 (Kr [Km 34 4, Km 2 34, Km 3 KT]
 .ret)))))))⟩
def f123 : IFunc := ⟨13, [.t 4], (.seq (.reg [Ko 4 (.mv (.c (.str [])))])
 (.seq (.seq (.reg [Ko 5 (.mv (.t 0)), Ko 6 (.mv (.t 1)), Ko 7 (.call 141 [.t 5, .t 6])])
 (.cond (.t 7) (.seq (.reg [Ko 8 (.mv (.t 0)), Ko 9 (.mv (.t 1)), Ko 10 (.len .s (.t 9)), Ko 11 (.sls (.t 8) (some (.t 10)) none), Ko 4 (.mv (.t 11))])
 .ret) .skip))
 (.seq (.reg [Ko 12 (.mv (.t 0)), Ko 4 (.mv (.t 12))])
 .ret)))⟩
def f124 : IFunc := ⟨8, [.t 4], (.seq (.reg [Ko 4 (.mv (Ki 0))])
 (.seq (.reg [Ko 5 (.mv (.t 0)), Ko 6 (.mv (.t 1)), Ko 7 (.call 142 [.t 5, .t 6, .c (.bool true)]), Ko 4 (.mv (.t 7))])
 .ret))⟩
def f125 : IFunc := ⟨22, [.t 2, .t 3], (.seq (.reg [Ko 2 (.mv (.c (.int .i32 (.ofNat 0)))), Ko 3 (.mv (Ki 0))])
 (.seq (.seq (.reg [Ko 6 (.mv (.t 0)), Ko 7 (.len .v (.t 6)), Ko 8 (.mv (Ki 0))])
 (.block 0 (.loop (.seq (.reg [Ko 9 (.bin .lss (.t 8) (.t 7))])
 (.seq (.cond (.t 9) .skip (.exit 0))
 (.seq (.block 1 (.seq (.reg [Ko 10 (.ia 1 (.t 6) (.t 8)), Ko 11 (.ld (.t 10)), Ko 5 (.mv (.t 11))])
 (.seq (.seq (.reg [Ko 12 (.mv (.t 5)), Ko 13 (.bin .lss (.t 12) (.c (.int .u8 (.ofNat 128))))])
 (.cond (.t 13) (.seq (.reg [Ko 14 (.mv (.t 5)), Ko 15 (.ci .i32 (.t 14)), Ko 2 (.mv (.t 15)), Ko 3 (.mv (Ki 1))])
 .ret) .skip))
 (.exit 0))))
 (.reg [Ko 16 (.bin .add (.t 8) (Ki 1)), Ko 8 (.mv (.t 16))])))))))
 (.seq (.reg [Ko 18 (.mv (.t 0)), Ko 19 (.call 143 [.t 18]), Ko 17 (.mv (.t 19)), Ko 20 (.ex (.t 17) 0), Ko 21 (.ex (.t 17) 1), Ko 2 (.mv (.t 20)), Ko 3 (.mv (.t 21))])
 .ret)))⟩
def f126 : IFunc := ⟨11, [.t 4], (.seq (.reg [Ko 4 (.mv (.c (.bool false)))])
 (.seq (.reg [Ko 5 (.mv (.t 0)), Ko 6 (.bin .eql (.t 5) (.c (.int .i32 (.ofNat 65533)))), Ko 7 (.mv (.t 6)), Kg 8 (.mv (.t 1)) 7 true, Kg 9 (.bin .leq (.t 8) (Ki 1)) 7 true, Ko 10 (.pick (.t 7) (.t 9) (.c (.bool false))), Ko 4 (.mv (.t 10))])
 .ret))⟩
def f134 : IFunc := ⟨43, [.t 4], (Kr [Ko 4 (.mv (.c (.str [])))]
 (.seq (Kr [Km 7 0, Ko 8 (.bin .eql 7 (.c (.str []))), Km 9 8, Kg 10 (.mv 1) 9 false, Kg 11 (.bin .eql 10 (.c (.str []))) 9 false, Ko 12 (.pick 9 KT 11)]
 (.cond 12 (Kr [Km 13 0, Km 4 13]
 .ret) .skip))
 (.seq (Kr [Km 14 1, Ko 15 (.len .s 14), Ko 16 (.bin .eql 15 (Ki 1)), Km 17 16, Kg 18 (.mv 1) 17 true, Kg 19 (.ixs 18 (Ki 0)) 17 true, Kg 20 (.bin .lss 19 (Kj 128)) 17 true, Ko 21 (.pick 17 20 KF)]
 (.cond 21 (.seq (.regd [Kd 22 (.mv 0) 0, Kd 23 (.mv 1) 0, Kd 24 (.ixs 23 (Ki 0)) 2, Kd 25 (.call 150 [22, 24]) 7, Kd 26 (.mv 1) 0, Kd 27 (.ixs 26 (Ki 0)) 16, Kd 28 (.call 149 [25, 27]) 63, Kd 4 (.mv 28) 127])
 .ret) .skip))
 (.seq (Kr [Km 30 1, Ko 31 (.call 151 [30]), Km 29 31, Ko 32 (.ex 29 0), Ko 33 (.ex 29 1), Ko 5 (.alloc 211 [.bool false, .bool false, .bool false, .bool false, .bool false, .bool false, .bool false, .bool false, .bool false, .bool false, .bool false, .bool false, .bool false, .bool false, .bool false, .bool false, .bool false, .bool false, .bool false, .bool false, .bool false, .bool false, .bool false, .bool false, .bool false, .bool false, .bool false, .bool false, .bool false, .bool false, .bool false, .bool false, .bool false, .bool false, .bool false, .bool false, .bool false, .bool false, .bool false, .bool false, .bool false, .bool false, .bool false, .bool false, .bool false, .bool false, .bool false, .bool false, .bool false, .bool false, .bool false, .bool false, .bool false, .bool false, .bool false, .bool false, .bool false, .bool false, .bool false, .bool false, .bool false, .bool false, .bool false, .bool false, .bool false, .bool false, .bool false, .bool false, .bool false, .bool false, .bool false, .bool false, .bool false, .bool false, .bool false, .bool false, .bool false, .bool false, .bool false, .bool false, .bool false, .bool false, .bool false, .bool false, .bool false, .bool false, .bool false, .bool false, .bool false, .bool false, .bool false, .bool false, .bool false, .bool false, .bool false, .bool false, .bool false, .bool false, .bool false, .bool false, .bool false, .bool false, .bool false, .bool false, .bool false, .bool false, .bool false, .bool false, .bool false, .bool false, .bool false, .bool false, .bool false, .bool false, .bool false, .bool false, .bool false, .bool false, .bool false, .bool false, .bool false, .bool false, .bool false, .bool false, .bool false, .bool false, .bool false, .bool false, .bool false, .bool false, .bool false, .bool false, .bool false, .bool false, .bool false, .bool false, .bool false, .bool false, .bool false, .bool false, .bool false, .bool false, .bool false, .bool false, .bool false, .bool false, .bool false, .bool false, .bool false, .bool false, .bool false, .bool false, .bool false, .bool false, .bool false, .bool false, .bool false, .bool false, .bool false, .bool false, .bool false, .bool false, .bool false, .bool false, .bool false, .bool false, .bool false, .bool false, .bool false, .bool false, .bool false, .bool false, .bool false, .bool false, .bool false, .bool false, .bool false, .bool false, .bool false, .bool false, .bool false, .bool false, .bool false, .bool false, .bool false, .bool false, .bool false, .bool false, .bool false, .bool false, .bool false, .bool false, .bool false, .bool false, .bool false, .bool false, .bool false, .bool false, .bool false, .bool false, .bool false, .bool false, .bool false, .bool false, .bool false, .bool false, .bool false, .bool false, .bool false, .bool false, .bool false, .bool false, .bool false, .bool false, .bool false, .bool false, .bool false, .bool false, .bool false, .bool false, .bool false, .bool false, .bool false, .bool false, .bool false, .bool false, .bool false, .bool false, .bool false, .bool false, .bool false, .bool false, .bool false, .bool false, .bool false, .bool false, .bool false, .bool false, .bool false, .bool false, .bool false, .bool false, .bool false, .bool false, .bool false, .bool false, .bool false, .bool false, .bool false, .bool false, .bool false, .bool false, .bool false, .bool false, .bool false, .bool false]), Kn (.st 256 5 32), Km 6 33]
 (Kr [Km 34 6]
 (.cond 34 (Kr [Km 35 0, Ko 36 (.call 153 [35, 5]), Ko 37 (.call 152 [36, 5]), Km 4 37]
 .ret) .skip)))
 (Kr [Km 38 0, Km 39 1, Ko 40 (.call 155 [38, 39]), Km 41 1, Ko 42 (.call 154 [40, 41]), Km 4 42]
 .ret)))))⟩
def f135 : IFunc := ⟨37, [.t 4], (Kr [Ko 4 (.mv (.c (.str [])))]
 (.seq (Kr [Km 7 0, Ko 8 (.bin .eql 7 (.c (.str []))), Km 9 8, Kg 10 (.mv 1) 9 false, Kg 11 (.bin .eql 10 (.c (.str []))) 9 false, Ko 12 (.pick 9 KT 11)]
 (.cond 12 (Kr [Km 13 0, Km 4 13]
 .ret) .skip))
 (.seq (Kr [Km 14 1, Ko 15 (.len .s 14), Ko 16 (.bin .eql 15 (Ki 1)), Km 17 16, Kg 18 (.mv 1) 17 true, Kg 19 (.ixs 18 (Ki 0)) 17 true, Kg 20 (.bin .lss 19 (Kj 128)) 17 true, Ko 21 (.pick 17 20 KF)]
 (.cond 21 (Kr [Km 22 0, Km 23 1, Ko 24 (.ixs 23 (Ki 0)), Ko 25 (.call 149 [22, 24]), Km 4 25]
 .ret) .skip))
 (.seq (Kr [Km 27 1, Ko 28 (.call 151 [27]), Km 26 28, Ko 29 (.ex 26 0), Ko 30 (.ex 26 1), Ko 5 (.alloc 211 [.bool false, .bool false, .bool false, .bool false, .bool false, .bool false, .bool false, .bool false, .bool false, .bool false, .bool false, .bool false, .bool false, .bool false, .bool false, .bool false, .bool false, .bool false, .bool false, .bool false, .bool false, .bool false, .bool false, .bool false, .bool false, .bool false, .bool false, .bool false, .bool false, .bool false, .bool false, .bool false, .bool false, .bool false, .bool false, .bool false, .bool false, .bool false, .bool false, .bool false, .bool false, .bool false, .bool false, .bool false, .bool false, .bool false, .bool false, .bool false, .bool false, .bool false, .bool false, .bool false, .bool false, .bool false, .bool false, .bool false, .bool false, .bool false, .bool false, .bool false, .bool false, .bool false, .bool false, .bool false, .bool false, .bool false, .bool false, .bool false, .bool false, .bool false, .bool false, .bool false, .bool false, .bool false, .bool false, .bool false, .bool false, .bool false, .bool false, .bool false, .bool false, .bool false, .bool false, .bool false, .bool false, .bool false, .bool false, .bool false, .bool false, .bool false, .bool false, .bool false, .bool false, .bool false, .bool false, .bool false, .bool false, .bool false, .bool false, .bool false, .bool false, .bool false, .bool false, .bool false, .bool false, .bool false, .bool false, .bool false, .bool false, .bool false, .bool false, .bool false, .bool false, .bool false, .bool false, .bool false, .bool false, .bool false, .bool false, .bool false, .bool false, .bool false, .bool false, .bool false, .bool false, .bool false, .bool false, .bool false, .bool false, .bool false, .bool false, .bool false, .bool false, .bool false, .bool false, .bool false, .bool false, .bool false, .bool false, .bool false, .bool false, .bool false, .bool false, .bool false, .bool false, .bool false, .bool false, .bool false, .bool false, .bool false, .bool false, .bool false, .bool false, .bool false, .bool false, .bool false, .bool false, .bool false, .bool false, .bool false, .bool false, .bool false, .bool false, .bool false, .bool false, .bool false, .bool false, .bool false, .bool false, .bool false, .bool false, .bool false, .bool false, .bool false, .bool false, .bool false, .bool false, .bool false, .bool false, .bool false, .bool false, .bool false, .bool false, .bool false, .bool false, .bool false, .bool false, .bool false, .bool false, .bool false, .bool false, .bool false, .bool false, .bool false, .bool false, .bool false, .bool false, .bool false, .bool false, .bool false, .bool false, .bool false, .bool false, .bool false, .bool false, .bool false, .bool false, .bool false, .bool false, .bool false, .bool false, .bool false, .bool false, .bool false, .bool false, .bool false, .bool false, .bool false, .bool false, .bool false, .bool false, .bool false, .bool false, .bool false, .bool false, .bool false, .bool false, .bool false, .bool false, .bool false, .bool false, .bool false, .bool false, .bool false, .bool false, .bool false, .bool false, .bool false, .bool false, .bool false, .bool false, .bool false, .bool false, .bool false, .bool false, .bool false, .bool false, .bool false, .bool false, .bool false, .bool false, .bool false, .bool false, .bool false, .bool false, .bool false]), Kn (.st 256 5 29), Km 6 30]
 (Kr [Km 31 6]
 (.cond 31 (Kr [Km 32 0, Ko 33 (.call 152 [32, 5]), Km 4 33]
 .ret) .skip)))
 (Kr [Km 34 0, Km 35 1, Ko 36 (.call 154 [34, 35]), Km 4 36]
 .ret)))))⟩
def f141 : IFunc := ⟨18, [.t 4], (.seq (.reg [Ko 4 (.mv (.c (.bool false)))])
 (.seq (.reg [Ko 5 (.mv (.t 0)), Ko 6 (.len .s (.t 5)), Ko 7 (.mv (.t 1)), Ko 8 (.len .s (.t 7)), Ko 9 (.bin .geq (.t 6) (.t 8)), Ko 10 (.mv (.t 9)), Kg 11 (.mv (.t 0)) 10 true, Kg 12 (.mv (.t 1)) 10 true, Kg 13 (.len .s (.t 12)) 10 true, Kg 14 (.sls (.t 11) none (some (.t 13))) 10 true, Kg 15 (.mv (.t 1)) 10 true, Kg 16 (.bin .eql (.t 14) (.t 15)) 10 true, Ko 17 (.pick (.t 10) (.t 16) (.c (.bool false))), Ko 4 (.mv (.t 17))])
 .ret))⟩
def f142 : IFunc := ⟨21, [.t 6], (.seq (.reg [Ko 6 (.mv (Ki 0))])
 (.seq (.seq (.reg [Ko 9 (.mv (.t 0)), Ko 10 (.rs (.t 9))])
 (.block 0 (.loop (.seq (.reg [Ko 11 (.ns (.t 10)), Ko 12 (.ex (.t 11) 0)])
 (.seq (.cond (.t 12) .skip (.exit 0))
 (.block 1 (.seq (.reg [Ko 13 (.ex (.t 11) 1), Ko 14 (.ex (.t 11) 2), Ko 7 (.mv (.t 13)), Ko 8 (.mv (.t 14))])
 (.seq (.reg [Ko 15 (.mv (.t 1)), Ko 16 (.mv (.t 8)), Ko 17 (.cv (.t 15) [.t 16]), Ko 18 (.mv (.t 2)), Ko 19 (.eqk .bool false (.t 17) (.t 18))])
 (.cond (.t 19) (.seq (.reg [Ko 20 (.mv (.t 7)), Ko 6 (.mv (.t 20))])
 .ret) .skip)))))))))
 (.seq (.reg [Ko 6 (.mv (.c (.int .i64 (.negSucc 0))))])
 .ret)))⟩
def f143 : IFunc := ⟨122, [.t 2, .t 3], (.seq (.reg [Ko 2 (.mv (.c (.int .i32 (.ofNat 0)))), Ko 3 (.mv (Ki 0))])
 (.seq (.reg [Ko 13 (.mv (.t 0)), Ko 14 (.len .v (.t 13)), Ko 4 (.mv (.t 14))])
 (.seq (.seq (.reg [Ko 15 (.mv (.t 4)), Ko 16 (.bin .lss (.t 15) (Ki 1))])
 (.cond (.t 16) (.seq (.reg [Ko 2 (.mv (.c (.int .i32 (.ofNat 65533)))), Ko 3 (.mv (Ki 0))])
 .ret) .skip))
 (.seq (.reg [Ko 17 (.mv (.t 0)), Ko 18 (.ia 1 (.t 17) (Ki 0)), Ko 19 (.ld (.t 18)), Ko 5 (.mv (.t 19))])
 (.seq (.reg [Ko 20 (.mv (.t 5)), Ko 21 (.iaa 256 1 (.c (.gptr 4 0)) (.t 20)), Ko 22 (.ld (.t 21)), Ko 6 (.mv (.t 22))])
 (.seq (.seq (.reg [Ko 23 (.mv (.t 6)), Ko 24 (.bin .geq (.t 23) (.c (.int .u8 (.ofNat 240))))])
 (.cond (.t 24) (.seq (.reg [Ko 25 (.mv (.t 6)), Ko 26 (.ci .i32 (.t 25)), Ko 27 (.bin .shl (.t 26) (.c (.int .u64 (.ofNat 31)))), Ko 28 (.bin .shr (.t 27) (.c (.int .u64 (.ofNat 31)))), Ko 7 (.mv (.t 28))])
 (.seq (.reg [Ko 29 (.mv (.t 0)), Ko 30 (.ia 1 (.t 29) (Ki 0)), Ko 31 (.ld (.t 30)), Ko 32 (.ci .i32 (.t 31)), Ko 33 (.mv (.t 7)), Ko 34 (.bin .andNot (.t 32) (.t 33)), Ko 35 (.mv (.t 7)), Ko 36 (.bin .and (.c (.int .i32 (.ofNat 65533))) (.t 35)), Ko 37 (.bin .or (.t 34) (.t 36)), Ko 2 (.mv (.t 37)), Ko 3 (.mv (Ki 1))])
 .ret)) .skip))
 (.seq (.reg [Ko 38 (.mv (.t 6)), Ko 39 (.bin .and (.t 38) (.c (.int .u8 (.ofNat 7)))), Ko 40 (.ci .i64 (.t 39)), Ko 8 (.mv (.t 40))])
 (.seq (.reg [Ko 41 (.mv (.t 6)), Ko 42 (.bin .shr (.t 41) (.c (.int .u64 (.ofNat 4)))), Ko 43 (.iaa 16 2 (.c (.gptr 5 0)) (.t 42)), Ko 44 (.ldn 2 (.t 43)), Ko 9 (.alloc 224 [.int .u8 (.ofNat 0), .int .u8 (.ofNat 0)]), Kn (.st 2 (.t 9) (.t 44))])
 (.seq (.seq (.reg [Ko 45 (.mv (.t 4)), Ko 46 (.mv (.t 8)), Ko 47 (.bin .lss (.t 45) (.t 46))])
 (.cond (.t 47) (.seq (.reg [Ko 2 (.mv (.c (.int .i32 (.ofNat 65533)))), Ko 3 (.mv (Ki 1))])
 .ret) .skip))
 (.seq (.reg [Ko 48 (.mv (.t 0)), Ko 49 (.ia 1 (.t 48) (Ki 1)), Ko 50 (.ld (.t 49)), Ko 10 (.mv (.t 50))])
 (.seq (.seq (.reg [Ko 51 (.mv (.t 10)), Ko 52 (.fa 0 (.t 9)), Ko 53 (.ld (.t 52)), Ko 54 (.bin .lss (.t 51) (.t 53)), Ko 55 (.mv (.t 54)), Kg 56 (.fa 1 (.t 9)) 55 false, Kg 57 (.ld (.t 56)) 55 false, Kg 58 (.mv (.t 10)) 55 false, Kg 59 (.bin .lss (.t 57) (.t 58)) 55 false, Ko 60 (.pick (.t 55) (.c (.bool true)) (.t 59))])
 (.cond (.t 60) (.seq (.reg [Ko 2 (.mv (.c (.int .i32 (.ofNat 65533)))), Ko 3 (.mv (Ki 1))])
 .ret) .skip))
 (.seq (.seq (.reg [Ko 61 (.mv (.t 8)), Ko 62 (.bin .leq (.t 61) (Ki 2))])
 (.cond (.t 62) (.seq (.reg [Ko 63 (.mv (.t 5)), Ko 64 (.bin .and (.t 63) (.c (.int .u8 (.ofNat 31)))), Ko 65 (.ci .i32 (.t 64)), Ko 66 (.bin .shl (.t 65) (.c (.int .u64 (.ofNat 6)))), Ko 67 (.mv (.t 10)), Ko 68 (.bin .and (.t 67) (.c (.int .u8 (.ofNat 63)))), Ko 69 (.ci .i32 (.t 68)), Ko 70 (.bin .or (.t 66) (.t 69)), Ko 2 (.mv (.t 70)), Ko 3 (.mv (Ki 2))])
 .ret) .skip))
 (.seq (.reg [Ko 71 (.mv (.t 0)), Ko 72 (.ia 1 (.t 71) (Ki 2)), Ko 73 (.ld (.t 72)), Ko 11 (.mv (.t 73))])
 (.seq (.seq (.reg [Ko 74 (.mv (.t 11)), Ko 75 (.bin .lss (.t 74) (.c (.int .u8 (.ofNat 128)))), Ko 76 (.mv (.t 75)), Kg 77 (.mv (.t 11)) 76 false, Kg 78 (.bin .lss (.c (.int .u8 (.ofNat 191))) (.t 77)) 76 false, Ko 79 (.pick (.t 76) (.c (.bool true)) (.t 78))])
 (.cond (.t 79) (.seq (.reg [Ko 2 (.mv (.c (.int .i32 (.ofNat 65533)))), Ko 3 (.mv (Ki 1))])
 .ret) .skip))
 (.seq (.seq (.reg [Ko 80 (.mv (.t 8)), Ko 81 (.bin .leq (.t 80) (Ki 3))])
 (.cond (.t 81) (.seq (.reg [Ko 82 (.mv (.t 5)), Ko 83 (.bin .and (.t 82) (.c (.int .u8 (.ofNat 15)))), Ko 84 (.ci .i32 (.t 83)), Ko 85 (.bin .shl (.t 84) (.c (.int .u64 (.ofNat 12)))), Ko 86 (.mv (.t 10)), Ko 87 (.bin .and (.t 86) (.c (.int .u8 (.ofNat 63)))), Ko 88 (.ci .i32 (.t 87)), Ko 89 (.bin .shl (.t 88) (.c (.int .u64 (.ofNat 6)))), Ko 90 (.bin .or (.t 85) (.t 89)), Ko 91 (.mv (.t 11)), Ko 92 (.bin .and (.t 91) (.c (.int .u8 (.ofNat 63)))), Ko 93 (.ci .i32 (.t 92)), Ko 94 (.bin .or (.t 90) (.t 93)), Ko 2 (.mv (.t 94)), Ko 3 (.mv (Ki 3))])
 .ret) .skip))
 (.seq (.reg [Ko 95 (.mv (.t 0)), Ko 96 (.ia 1 (.t 95) (Ki 3)), Ko 97 (.ld (.t 96)), Ko 12 (.mv (.t 97))])
 (.seq (.seq (.reg [Ko 98 (.mv (.t 12)), Ko 99 (.bin .lss (.t 98) (.c (.int .u8 (.ofNat 128)))), Ko 100 (.mv (.t 99)), Kg 101 (.mv (.t 12)) 100 false, Kg 102 (.bin .lss (.c (.int .u8 (.ofNat 191))) (.t 101)) 100 false, Ko 103 (.pick (.t 100) (.c (.bool true)) (.t 102))])
 (.cond (.t 103) (.seq (.reg [Ko 2 (.mv (.c (.int .i32 (.ofNat 65533)))), Ko 3 (.mv (Ki 1))])
 .ret) .skip))
 (.seq (.reg [Ko 104 (.mv (.t 5)), Ko 105 (.bin .and (.t 104) (.c (.int .u8 (.ofNat 7)))), Ko 106 (.ci .i32 (.t 105)), Ko 107 (.bin .shl (.t 106) (.c (.int .u64 (.ofNat 18)))), Ko 108 (.mv (.t 10)), Ko 109 (.bin .and (.t 108) (.c (.int .u8 (.ofNat 63)))), Ko 110 (.ci .i32 (.t 109)), Ko 111 (.bin .shl (.t 110) (.c (.int .u64 (.ofNat 12)))), Ko 112 (.bin .or (.t 107) (.t 111)), Ko 113 (.mv (.t 11)), Ko 114 (.bin .and (.t 113) (.c (.int .u8 (.ofNat 63)))), Ko 115 (.ci .i32 (.t 114)), Ko 116 (.bin .shl (.t 115) (.c (.int .u64 (.ofNat 6)))), Ko 117 (.bin .or (.t 112) (.t 116)), Ko 118 (.mv (.t 12)), Ko 119 (.bin .and (.t 118) (.c (.int .u8 (.ofNat 63)))), Ko 120 (.ci .i32 (.t 119)), Ko 121 (.bin .or (.t 117) (.t 120)), Ko 2 (.mv (.t 121)), Ko 3 (.mv (Ki 4))])
 .ret))))))))))))))))))⟩
def f149 : IFunc := ⟨17, [.t 4], (Kr [Ko 4 (.mv (.c (.str [])))]
 (.seq (.block 0 (.loop (.seq (Kr [Km 5 0, Ko 6 (.len .s 5), Ko 7 (.bin .gtr 6 (Ki 0)), Km 8 7, Kg 9 (.mv 0) 8 true, Kg 10 (.ixs 9 (Ki 0)) 8 true, Kg 11 (.mv 1) 8 true, Kg 12 (.bin .eql 10 11) 8 true, Ko 13 (.pick 8 12 KF)]
 (.cond 13 .skip (.exit 0)))
 (.block 1 (.reg [Km 14 0, Ko 15 (.sls 14 (some (Ki 1)) none), Km 0 15])))))
 (Kr [Km 16 0, Km 4 16]
 .ret)))⟩
def f151 : IFunc := ⟨21, [.cn 2 256, .t 3], (Kr [Ko 2 (.alloc 211 [.bool false, .bool false, .bool false, .bool false, .bool false, .bool false, .bool false, .bool false, .bool false, .bool false, .bool false, .bool false, .bool false, .bool false, .bool false, .bool false, .bool false, .bool false, .bool false, .bool false, .bool false, .bool false, .bool false, .bool false, .bool false, .bool false, .bool false, .bool false, .bool false, .bool false, .bool false, .bool false, .bool false, .bool false, .bool false, .bool false, .bool false, .bool false, .bool false, .bool false, .bool false, .bool false, .bool false, .bool false, .bool false, .bool false, .bool false, .bool false, .bool false, .bool false, .bool false, .bool false, .bool false, .bool false, .bool false, .bool false, .bool false, .bool false, .bool false, .bool false, .bool false, .bool false, .bool false, .bool false, .bool false, .bool false, .bool false, .bool false, .bool false, .bool false, .bool false, .bool false, .bool false, .bool false, .bool false, .bool false, .bool false, .bool false, .bool false, .bool false, .bool false, .bool false, .bool false, .bool false, .bool false, .bool false, .bool false, .bool false, .bool false, .bool false, .bool false, .bool false, .bool false, .bool false, .bool false, .bool false, .bool false, .bool false, .bool false, .bool false, .bool false, .bool false, .bool false, .bool false, .bool false, .bool false, .bool false, .bool false, .bool false, .bool false, .bool false, .bool false, .bool false, .bool false, .bool false, .bool false, .bool false, .bool false, .bool false, .bool false, .bool false, .bool false, .bool false, .bool false, .bool false, .bool false, .bool false, .bool false, .bool false, .bool false, .bool false, .bool false, .bool false, .bool false, .bool false, .bool false, .bool false, .bool false, .bool false, .bool false, .bool false, .bool false, .bool false, .bool false, .bool false, .bool false, .bool false, .bool false, .bool false, .bool false, .bool false, .bool false, .bool false, .bool false, .bool false, .bool false, .bool false, .bool false, .bool false, .bool false, .bool false, .bool false, .bool false, .bool false, .bool false, .bool false, .bool false, .bool false, .bool false, .bool false, .bool false, .bool false, .bool false, .bool false, .bool false, .bool false, .bool false, .bool false, .bool false, .bool false, .bool false, .bool false, .bool false, .bool false, .bool false, .bool false, .bool false, .bool false, .bool false, .bool false, .bool false, .bool false, .bool false, .bool false, .bool false, .bool false, .bool false, .bool false, .bool false, .bool false, .bool false, .bool false, .bool false, .bool false, .bool false, .bool false, .bool false, .bool false, .bool false, .bool false, .bool false, .bool false, .bool false, .bool false, .bool false, .bool false, .bool false, .bool false, .bool false, .bool false, .bool false, .bool false, .bool false, .bool false, .bool false, .bool false, .bool false, .bool false, .bool false, .bool false, .bool false, .bool false, .bool false, .bool false, .bool false, .bool false, .bool false, .bool false, .bool false, .bool false, .bool false, .bool false, .bool false, .bool false, .bool false, .bool false, .bool false, .bool false, .bool false, .bool false, .bool false, .bool false, .bool false, .bool false, .bool false, .bool false]), Km 3 KF]
 (.seq (Kr [Km 4 (Ki 0)]
 (.block 0 (.loop (.seq (Kr [Km 6 4, Km 7 0, Ko 8 (.len .s 7), Ko 9 (.bin .lss 6 8)]
 (.cond 9 .skip (.exit 0)))
 (.seq (.block 1 (Kr [Km 12 0, Km 13 4, Ko 14 (.ixs 12 13), Km 5 14]
 (.seq (Kr [Km 15 5, Ko 16 (.bin .geq 15 (Kj 128))]
 (.cond 16 (Kr [Ko 17 (.ldn 256 2), Kn (.st 256 2 17), Km 3 KF]
 .ret) .skip))
 (.reg [Km 18 5, Ko 19 (.iaa 256 1 2 18), Kn (.st 1 19 KT)]))))
 (.reg [Km 10 4, Ko 11 (.bin .add 10 (Ki 1)), Km 4 11]))))))
 (Kr [Ko 20 (.ldn 256 2), Kn (.st 256 2 20), Km 3 KT]
 .ret)))⟩
def f152 : IFunc := ⟨16, [.t 4], (Kr [Ko 4 (.mv (.c (.str [])))]
 (.seq (.block 0 (.loop (.seq (Kr [Km 5 0, Ko 6 (.len .s 5), Ko 7 (.bin .gtr 6 (Ki 0))]
 (.cond 7 .skip (.exit 0)))
 (.block 1 (.seq (Kr [Km 8 1, Km 9 0, Ko 10 (.ixs 9 (Ki 0)), Ko 11 (.call 161 [8, 10]), Ko 12 (.un .not 11)]
 (.cond 12 (.exit 0) .skip))
 (.reg [Km 13 0, Ko 14 (.sls 13 (some (Ki 1)) none), Km 0 14]))))))
 (Kr [Km 15 0, Km 4 15]
 .ret)))⟩
def f153 : IFunc := ⟨22, [.t 4], (Kr [Ko 4 (.mv (.c (.str [])))]
 (.seq (.block 0 (.loop (.seq (Kr [Km 5 0, Ko 6 (.len .s 5), Ko 7 (.bin .gtr 6 (Ki 0))]
 (.cond 7 .skip (.exit 0)))
 (.block 1 (.seq (Kr [Km 8 1, Km 9 0, Km 10 0, Ko 11 (.len .s 10), Ko 12 (.bin .sub 11 (Ki 1)), Ko 13 (.ixs 9 12), Ko 14 (.call 161 [8, 13]), Ko 15 (.un .not 14)]
 (.cond 15 (.exit 0) .skip))
 (.reg [Km 16 0, Km 17 0, Ko 18 (.len .s 17), Ko 19 (.bin .sub 18 (Ki 1)), Ko 20 (.sls 16 none (some 19)), Km 0 20]))))))
 (Kr [Km 21 0, Km 4 21]
 .ret)))⟩
def f161 : IFunc := ⟨10, [.t 4], (Kr [Km 4 KF]
 (Kr [Km 5 0, Km 6 1, Ko 7 (.nck 5), Ko 8 (.iaa 256 1 7 6), Ko 9 (.ld 8), Km 4 9]
 .ret))⟩
abbrev nd (f : IFunc) (l r : Trie IFunc) : Trie IFunc := .node (some f) l r
abbrev nf (f : IFunc) : Trie IFunc := .node (some f) .leaf .leaf
abbrev nz (l r : Trie IFunc) : Trie IFunc := .node none l r
abbrev nl : Trie IFunc := .leaf
def tbl : Trie IFunc := (nz (nz (nd f3 (nd f7 (nd f15 (nd f31 (nf f63) nl) (nd f47 (nz (nf f143) nl) nl)) (nd f23 (nd f39 (nd f71 (nf f135) nl) (nf f103)) (nd f55 (nd f87 (nf f151) nl) (nf f119)))) (nd f11 (nd f19 (nd f35 nl (nf f99)) (nd f51 nl (nf f115))) (nd f27 (nd f43 (nf f75) (nf f107)) (nd f59 nl (nf f123))))) (nd f5 (nd f9 (nd f17 (nd f33 nl (nz (nf f161) nl)) (nd f49 (nf f81) nl)) (nd f25 (nd f41 (nf f73) (nf f105)) (nd f57 (nz (nf f153) nl) nl))) (nd f13 (nd f21 (nd f37 (nf f69) (nf f101)) (nd f53 (nd f85 (nf f149) nl) nl)) (nd f29 (nd f45 (nd f77 (nf f141) nl) (nf f109)) (nd f61 nl (nf f125)))))) (nz (nd f4 (nd f8 (nd f16 (nd f32 (nf f64) (nf f96)) (nd f48 (nf f80) nl)) (nd f24 (nd f40 (nf f72) nl) (nd f56 (nz (nf f152) nl) (nf f120)))) (nd f12 (nd f20 (nd f36 (nf f68) (nf f100)) (nd f52 (nf f84) nl)) (nd f28 (nd f44 (nf f76) (nf f108)) (nd f60 (nf f92) (nf f124))))) (nd f6 (nd f10 (nd f18 (nf f34) (nd f50 (nf f82) nl)) (nd f26 (nd f42 (nf f74) (nf f106)) (nf f58))) (nd f14 (nd f22 (nd f38 (nz (nf f134) nl) nl) (nd f54 (nf f86) nl)) (nd f30 (nd f46 (nd f78 (nf f142) nl) nl) (nd f62 (nf f94) (nf f126)))))))
def globs : List (List AV) := [kb .u64 [1, 10, 100, 1000, 10000, 100000, 1000000, 10000000, 100000000, 1000000000, 10000000000, 100000000000, 1000000000000, 10000000000000, 100000000000000, 1000000000000000, 10000000000000000, 100000000000000000, 1000000000000000000, 10000000000000000000], [], [], [], kb .u8 [240, 240, 240, 240, 240, 240, 240, 240, 240, 240, 240, 240, 240, 240, 240, 240, 240, 240, 240, 240, 240, 240, 240, 240, 240, 240, 240, 240, 240, 240, 240, 240, 240, 240, 240, 240, 240, 240, 240, 240, 240, 240, 240, 240, 240, 240, 240, 240, 240, 240, 240, 240, 240, 240, 240, 240, 240, 240, 240, 240, 240, 240, 240, 240, 240, 240, 240, 240, 240, 240, 240, 240, 240, 240, 240, 240, 240, 240, 240, 240, 240, 240, 240, 240, 240, 240, 240, 240, 240, 240, 240, 240, 240, 240, 240, 240, 240, 240, 240, 240, 240, 240, 240, 240, 240, 240, 240, 240, 240, 240, 240, 240, 240, 240, 240, 240, 240, 240, 240, 240, 240, 240, 240, 240, 240, 240, 240, 240, 241, 241, 241, 241, 241, 241, 241, 241, 241, 241, 241, 241, 241, 241, 241, 241, 241, 241, 241, 241, 241, 241, 241, 241, 241, 241, 241, 241, 241, 241, 241, 241, 241, 241, 241, 241, 241, 241, 241, 241, 241, 241, 241, 241, 241, 241, 241, 241, 241, 241, 241, 241, 241, 241, 241, 241, 241, 241, 241, 241, 241, 241, 241, 241, 241, 241, 2, 2, 2, 2, 2, 2, 2, 2, 2, 2, 2, 2, 2, 2, 2, 2, 2, 2, 2, 2, 2, 2, 2, 2, 2, 2, 2, 2, 2, 2, 19, 3, 3, 3, 3, 3, 3, 3, 3, 3, 3, 3, 3, 35, 3, 3, 52, 4, 4, 4, 68, 241, 241, 241, 241, 241, 241, 241, 241, 241, 241, 241], kb .u8 [128, 191, 160, 191, 128, 159, 144, 191, 128, 143, 0, 0, 0, 0, 0, 0, 0, 0, 0, 0, 0, 0, 0, 0, 0, 0, 0, 0, 0, 0, 0, 0], [], kb .u8 [0, 1, 56, 2, 57, 49, 28, 3, 61, 58, 42, 50, 38, 29, 17, 4, 62, 47, 59, 36, 45, 43, 51, 22, 53, 39, 33, 30, 24, 18, 12, 5, 63, 55, 48, 27, 60, 41, 37, 16, 46, 35, 44, 21, 52, 32, 23, 11, 54, 26, 40, 15, 34, 20, 31, 10, 25, 14, 19, 9, 13, 8, 7, 6]]
def env : Env := ⟨tbl, globs, [], fun f => !(Nat.beq f 64 || Nat.beq f 66 || Nat.beq f 69 || Nat.beq f 89 || Nat.beq f 112 || Nat.beq f 30 || Nat.beq f 34 || Nat.beq f 16 || Nat.beq f 40 || Nat.beq f 56 || Nat.beq f 43 || Nat.beq f 17 || Nat.beq f 44 || Nat.beq f 57 || Nat.beq f 45 || Nat.beq f 58 || Nat.beq f 8 || Nat.beq f 6 || Nat.beq f 3)⟩
end Go.Proofs.YtionbncghjdeoaaGreatDoor.Ev.T

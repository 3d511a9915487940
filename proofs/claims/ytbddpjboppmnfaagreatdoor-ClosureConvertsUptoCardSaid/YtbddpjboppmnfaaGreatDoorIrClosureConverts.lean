/- The code of the functions that ClosureConverts comes to, as the evaluator reads it, by reduction of the program's own text: data alone. No conditions of its own. -/
import Derived.Test.YtbddpjboppmnfaaGreatDoorProg
import Derived.Test.YtbddpjboppmnfaaGreatDoorEvA
set_option maxRecDepth 100000
set_option maxHeartbeats 4000000
namespace Go.Proofs.YtbddpjboppmnfaaGreatDoor.Ev.T
abbrev cF(f:Func){F:IFunc}(_:dN Tryz.prog f=some F:=by conv=>lhs;reduce):=F
def f3:=cF Tryz.f3
def f4:=cF Tryz.f4
def f5:=cF Tryz.f5
def f6:IFunc:=⟨161,[.t 0],(.seq (.reg [Ko 0 (.mv (.c (.bool false)))])
 (.seq (.reg [Ko 7 (.call 15 []),Ko 8 (.call 7 [.t 7]),Ko 6 (.mv (.t 8)),Ko 9 (.ex (.t 6) 0),Ko 10 (.ex (.t 6) 1),Ko 1 (.alloc 25 [.nils,.int .i64 (.ofNat 0),.int .i64 (.ofNat 0),.int .i64 (.ofNat 0),.nils]),Kn (.st 5 (.t 1) (.t 9)),Ko 2 (.mv (.t 10))])
 (.seq (.seq (.reg [Ko 11 (.mv (.t 2)),Ko 12 (.bin .neq (.t 11) (Ki 0)),Ko 13 (.mv (.t 12)),Kg 14 (.fa 0 (.t 1)) 13 false,Kg 15 (.ld (.t 14)) 13 false,Kg 16 (.len .v (.t 15)) 13 false,Kg 17 (.bin .neq (.t 16) (Ki 3)) 13 false,Ko 18 (.pick (.t 13) (.c (.bool true)) (.t 17)),Ko 19 (.mv (.t 18)),Kg 20 (.fa 2 (.t 1)) 19 false,Kg 21 (.ld (.t 20)) 19 false,Kg 22 (.bin .neq (.t 21) (Ki 4)) 19 false,Ko 23 (.pick (.t 19) (.c (.bool true)) (.t 22)),Ko 24 (.mv (.t 23)),Kg 25 (.fa 0 (.t 1)) 24 false,Kg 26 (.ld (.t 25)) 24 false,Kg 27 (.ia 11 (.t 26) (Ki 0)) 24 false,Kg 28 (.fa 4 (.t 27)) 24 false,Kg 29 (.fa 6 (.t 28)) 24 false,Kg 30 (.ld (.t 29)) 24 false,Kg 31 (.len .v (.t 30)) 24 false,Kg 32 (.bin .neq (.t 31) (Ki 1)) 24 false,Ko 33 (.pick (.t 24) (.c (.bool true)) (.t 32)),Ko 34 (.mv (.t 33)),Kg 35 (.fa 0 (.t 1)) 34 false,Kg 36 (.ld (.t 35)) 34 false,Kg 37 (.ia 11 (.t 36) (Ki 1)) 34 false,Kg 38 (.fa 4 (.t 37)) 34 false,Kg 39 (.fa 6 (.t 38)) 34 false,Kg 40 (.ld (.t 39)) 34 false,Kg 41 (.len .v (.t 40)) 34 false,Kg 42 (.bin .neq (.t 41) (Ki 1)) 34 false,Ko 43 (.pick (.t 34) (.c (.bool true)) (.t 42)),Ko 44 (.mv (.t 43)),Kg 45 (.fa 0 (.t 1)) 44 false,Kg 46 (.ld (.t 45)) 44 false,Kg 47 (.ia 11 (.t 46) (Ki 2)) 44 false,Kg 48 (.fa 4 (.t 47)) 44 false,Kg 49 (.fa 6 (.t 48)) 44 false,Kg 50 (.ld (.t 49)) 44 false,Kg 51 (.len .v (.t 50)) 44 false,Kg 52 (.bin .neq (.t 51) (Ki 1)) 44 false,Ko 53 (.pick (.t 44) (.c (.bool true)) (.t 52))])
 (.cond (.t 53) (.seq (.reg [Ko 0 (.mv (.c (.bool false)))])
 .ret) .skip))
 (.seq (.regd [Kd 54 (.fa 0 (.t 1)) 0,Kd 55 (.ld (.t 54)) 1,Kd 56 (.ia 11 (.t 55) (Ki 0)) 3,Kd 57 (.fa 4 (.t 56)) 7,Kd 58 (.fa 6 (.t 57)) 15,Kd 59 (.ld (.t 58)) 31,Kd 60 (.ia 7 (.t 59) (Ki 0)) 63,Kd 61 (.ldn 7 (.t 60)) 127,Kd 62 (.fa 0 (.t 1)) 0,Kd 63 (.ld (.t 62)) 256,Kd 64 (.ia 11 (.t 63) (Ki 1)) 768,Kd 65 (.fa 4 (.t 64)) 1792,Kd 66 (.ldn 7 (.t 65)) 3840,Kd 67 (.fa 0 (.t 1)) 0,Kd 68 (.ld (.t 67)) 8192,Kd 69 (.ia 11 (.t 68) (Ki 2)) 24576,Kd 70 (.ldn 11 (.t 69)) 57344,Kd 3 (.alloc 44 [.int .i64 (.ofNat 0),.int .i64 (.ofNat 0),.int .i64 (.ofNat 0),.int .i64 (.ofNat 0),.int .i64 (.ofNat 0),.nils,.nils]) 0,Kd 4 (.alloc 44 [.int .i64 (.ofNat 0),.int .i64 (.ofNat 0),.int .i64 (.ofNat 0),.int .i64 (.ofNat 0),.int .i64 (.ofNat 0),.nils,.nils]) 0,Kd 5 (.alloc 46 [.nils,.bool false,.bool false,.nils,.int .i64 (.ofNat 0),.int .i64 (.ofNat 0),.int .i64 (.ofNat 0),.int .i64 (.ofNat 0),.int .i64 (.ofNat 0),.nils,.nils]) 0,Kf (.st 7 (.t 3) (.t 61)) 917759,Kf (.st 7 (.t 4) (.t 66)) 1974271,Kf (.st 11 (.t 5) (.t 70)) 4194303])
 (.seq (.regd [Kd 71 (.fa 0 (.t 3)) 0,Kd 72 (.ld (.t 71)) 1,Kd 73 (.bin .eql (.t 72) (Ki 5)) 3,Kd 74 (.mv (.t 73)) 7,Ke 75 (.fa 4 (.t 3)) 74 true 15,Ke 76 (.ld (.t 75)) 74 true 31,Ke 77 (.bin .eql (.t 76) (Ki 1)) 74 true 63,Kd 78 (.pick (.t 74) (.t 77) (.c (.bool false))) 127,Kd 79 (.mv (.t 78)) 255,Ke 80 (.fa 5 (.t 3)) 79 true 511,Ke 81 (.ld (.t 80)) 79 true 1023,Ke 82 (.len .v (.t 81)) 79 true 2047,Ke 83 (.bin .eql (.t 82) (Ki 2)) 79 true 4095,Kd 84 (.pick (.t 79) (.t 83) (.c (.bool false))) 8191,Kd 85 (.mv (.t 84)) 16383,Ke 86 (.fa 5 (.t 3)) 85 true 32767,Ke 87 (.ld (.t 86)) 85 true 65535,Ke 88 (.ia 2 (.t 87) (Ki 1)) 85 true 131071,Ke 89 (.ldn 2 (.t 88)) 85 true 262143,Ke 90 (.call 16 [Ki 0]) 85 true 32767,Ke 91 (.eqk (.flat [.i,.i]) false (.t 89) (.t 90)) 85 true 1048575,Kd 92 (.pick (.t 85) (.t 91) (.c (.bool false))) 2097151,Kd 93 (.mv (.t 92)) 4194303,Ke 94 (.fa 5 (.t 4)) 93 true 8388607,Ke 95 (.ld (.t 94)) 93 true 16777215,Ke 96 (.len .v (.t 95)) 93 true 33554431,Ke 97 (.bin .eql (.t 96) (Ki 1)) 93 true 67108863,Kd 98 (.pick (.t 93) (.t 97) (.c (.bool false))) 134217727,Kd 99 (.mv (.t 98)) 268435455,Ke 100 (.fa 5 (.t 4)) 99 true 536870911,Ke 101 (.ld (.t 100)) 99 true 1073741823,Ke 102 (.ia 2 (.t 101) (Ki 0)) 99 true 2147483647,Ke 103 (.ldn 2 (.t 102)) 99 true 4294967295,Ke 104 (.call 17 [Ki 1]) 99 true 536870911,Ke 105 (.eqk (.flat [.i,.i]) false (.t 103) (.t 104)) 99 true 17179869183,Kd 106 (.pick (.t 99) (.t 105) (.c (.bool false))) 34359738367,Kd 107 (.mv (.t 106)) 68719476735,Ke 108 (.fa 6 (.t 4)) 107 true 137438953471,Ke 109 (.ld (.t 108)) 107 true 274877906943,Ke 110 (.ia 7 (.t 109) (Ki 0)) 107 true 549755813887,Ke 111 (.fa 0 (.t 110)) 107 true 1099511627775,Ke 112 (.ld (.t 111)) 107 true 2199023255551,Ke 113 (.bin .eql (.t 112) (Ki 5)) 107 true 4398046511103,Kd 114 (.pick (.t 107) (.t 113) (.c (.bool false))) 8796093022207,Kd 115 (.mv (.t 114)) 17592186044415,Ke 116 (.fa 3 (.t 5)) 115 true 35184372088831,Ke 117 (.ld (.t 116)) 115 true 70368744177663,Ke 118 (.len .v (.t 117)) 115 true 140737488355327,Ke 119 (.bin .eql (.t 118) (Ki 1)) 115 true 281474976710655,Kd 120 (.pick (.t 115) (.t 119) (.c (.bool false))) 562949953421311,Kd 121 (.mv (.t 120)) 1125899906842623,Ke 122 (.fa 3 (.t 5)) 121 true 2251799813685247,Ke 123 (.ld (.t 122)) 121 true 4503599627370495,Ke 124 (.ia 1 (.t 123) (Ki 0)) 121 true 9007199254740991,Ke 125 (.ld (.t 124)) 121 true 18014398509481983,Ke 126 (.bin .eql (.t 125) (Ki 1)) 121 true 36028797018963967,Kd 127 (.pick (.t 121) (.t 126) (.c (.bool false))) 72057594037927935,Kd 128 (.mv (.t 127)) 144115188075855871,Ke 129 (.fa 4 (.t 5)) 128 true 288230376151711743,Ke 130 (.fa 2 (.t 129)) 128 true 576460752303423487,Ke 131 (.ld (.t 130)) 128 true 1152921504606846975,Ke 132 (.bin .eql (.t 131) (Ki 105)) 128 true 2305843009213693951,Kd 133 (.pick (.t 128) (.t 132) (.c (.bool false))) 4611686018427387903,Kd 134 (.mv (.t 133)) 9223372036854775807,Ke 135 (.fa 4 (.t 5)) 134 true 18446744073709551615,Ke 136 (.fa 1 (.t 135)) 134 true 36893488147419103231,Ke 137 (.ld (.t 136)) 134 true 73786976294838206463,Ke 138 (.bin .eql (.t 137) (Ki 3)) 134 true 147573952589676412927,Kd 139 (.pick (.t 134) (.t 138) (.c (.bool false))) 295147905179352825855,Kd 140 (.mv (.t 139)) 590295810358705651711,Ke 141 (.fa 4 (.t 5)) 140 true 1180591620717411303423,Ke 142 (.fa 6 (.t 141)) 140 true 2361183241434822606847,Ke 143 (.ld (.t 142)) 140 true 4722366482869645213695,Ke 144 (.ia 7 (.t 143) (Ki 0)) 140 true 9444732965739290427391,Ke 145 (.fa 0 (.t 144)) 140 true 18889465931478580854783,Ke 146 (.ld (.t 145)) 140 true 37778931862957161709567,Ke 147 (.bin .eql (.t 146) (Ki 4)) 140 true 75557863725914323419135,Kd 148 (.pick (.t 140) (.t 147) (.c (.bool false))) 151115727451828646838271,Kd 149 (.mv (.t 148)) 302231454903657293676543,Ke 150 (.fa 4 (.t 5)) 149 true 604462909807314587353087,Ke 151 (.fa 6 (.t 150)) 149 true 1208925819614629174706175,Ke 152 (.ld (.t 151)) 149 true 2417851639229258349412351,Ke 153 (.ia 7 (.t 152) (Ki 0)) 149 true 4835703278458516698824703,Ke 154 (.fa 5 (.t 153)) 149 true 9671406556917033397649407,Ke 155 (.ld (.t 154)) 149 true 19342813113834066795298815,Ke 156 (.ia 2 (.t 155) (Ki 0)) 149 true 38685626227668133590597631,Ke 157 (.ldn 2 (.t 156)) 149 true 77371252455336267181195263,Ke 158 (.call 17 [Ki 3]) 149 true 604462909807314587353087,Ke 159 (.eqk (.flat [.i,.i]) false (.t 157) (.t 158)) 149 true 309485009821345068724781055,Kd 160 (.pick (.t 149) (.t 159) (.c (.bool false))) 618970019642690137449562111,Kd 0 (.mv (.t 160)) 1237940039285380274899124223])
 .ret)))))⟩
def f7:=cF Tryz.f7
def f8:=cF Tryz.f8
def f9:=cF Tryz.f9
def f10:=cF Tryz.f10
def f11:=cF Tryz.f11
def f12:=cF Tryz.f12
def f13:=cF Tryz.f13
def f14:=cF Tryz.f14
def f15:=cF Tryz.f15
def f16:=cF Tryz.f16
def f17:=cF Tryz.f17
def f18:=cF Tryz.f18
def f19:=cF Tryz.f19
def f20:=cF Tryz.f20
def f21:=cF Tryz.f21
def f22:=cF Tryz.f22
def f23:=cF Tryz.f23
def f24:=cF Tryz.f24
def f25:=cF Tryz.f25
def f26:=cF Tryz.f26
def f27:=cF Tryz.f27
def f28:IFunc:=⟨95,[.t 4],(.seq (.reg [Ko 2 (.box 44 (.t 0)),Ko 3 (.box 44 (.t 1)),Ko 4 (.mv (.c (.bool false)))])
 (.seq (.seq (.reg [Ko 7 (.fa 0 (.t 2)),Ko 8 (.ld (.t 7)),Ko 9 (.fa 0 (.t 3)),Ko 10 (.ld (.t 9)),Ko 11 (.bin .neq (.t 8) (.t 10)),Ko 12 (.mv (.t 11)),Kg 13 (.fa 1 (.t 2)) 12 false,Kg 14 (.ld (.t 13)) 12 false,Kg 15 (.fa 1 (.t 3)) 12 false,Kg 16 (.ld (.t 15)) 12 false,Kg 17 (.bin .neq (.t 14) (.t 16)) 12 false,Ko 18 (.pick (.t 12) (.c (.bool true)) (.t 17)),Ko 19 (.mv (.t 18)),Kg 20 (.fa 2 (.t 2)) 19 false,Kg 21 (.ld (.t 20)) 19 false,Kg 22 (.fa 2 (.t 3)) 19 false,Kg 23 (.ld (.t 22)) 19 false,Kg 24 (.bin .neq (.t 21) (.t 23)) 19 false,Ko 25 (.pick (.t 19) (.c (.bool true)) (.t 24)),Ko 26 (.mv (.t 25)),Kg 27 (.fa 3 (.t 2)) 26 false,Kg 28 (.ld (.t 27)) 26 false,Kg 29 (.fa 3 (.t 3)) 26 false,Kg 30 (.ld (.t 29)) 26 false,Kg 31 (.bin .neq (.t 28) (.t 30)) 26 false,Ko 32 (.pick (.t 26) (.c (.bool true)) (.t 31)),Ko 33 (.mv (.t 32)),Kg 34 (.fa 4 (.t 2)) 33 false,Kg 35 (.ld (.t 34)) 33 false,Kg 36 (.fa 4 (.t 3)) 33 false,Kg 37 (.ld (.t 36)) 33 false,Kg 38 (.bin .neq (.t 35) (.t 37)) 33 false,Ko 39 (.pick (.t 33) (.c (.bool true)) (.t 38)),Ko 40 (.mv (.t 39)),Kg 41 (.fa 5 (.t 2)) 40 false,Kg 42 (.ld (.t 41)) 40 false,Kg 43 (.len .v (.t 42)) 40 false,Kg 44 (.fa 5 (.t 3)) 40 false,Kg 45 (.ld (.t 44)) 40 false,Kg 46 (.len .v (.t 45)) 40 false,Kg 47 (.bin .neq (.t 43) (.t 46)) 40 false,Ko 48 (.pick (.t 40) (.c (.bool true)) (.t 47)),Ko 49 (.mv (.t 48)),Kg 50 (.fa 6 (.t 2)) 49 false,Kg 51 (.ld (.t 50)) 49 false,Kg 52 (.len .v (.t 51)) 49 false,Kg 53 (.fa 6 (.t 3)) 49 false,Kg 54 (.ld (.t 53)) 49 false,Kg 55 (.len .v (.t 54)) 49 false,Kg 56 (.bin .neq (.t 52) (.t 55)) 49 false,Ko 57 (.pick (.t 49) (.c (.bool true)) (.t 56))])
 (.cond (.t 57) (.seq (.reg [Ko 4 (.mv (.c (.bool false)))])
 .ret) .skip))
 (.seq (.seq (.reg [Ko 5 (.mv (Ki 0))])
 (.block 0 (.loop (.seq (.seq (.reg [Ko 58 (.mv (.t 5)),Ko 59 (.fa 5 (.t 2)),Ko 60 (.ld (.t 59)),Ko 61 (.len .v (.t 60)),Ko 62 (.bin .lss (.t 58) (.t 61))])
 (.cond (.t 62) .skip (.exit 0)))
 (.seq (.block 1 (.seq (.regd [Kd 65 (.fa 5 (.t 2)) 0,Kd 66 (.ld (.t 65)) 1,Kd 67 (.mv (.t 5)) 0,Kd 68 (.ia 2 (.t 66) (.t 67)) 7,Kd 69 (.ldn 2 (.t 68)) 15,Kd 70 (.fa 5 (.t 3)) 0,Kd 71 (.ld (.t 70)) 32,Kd 72 (.mv (.t 5)) 0,Kd 73 (.ia 2 (.t 71) (.t 72)) 224,Kd 74 (.ldn 2 (.t 73)) 480,Kd 75 (.eqk (.flat [.i,.i]) true (.t 69) (.t 74)) 1023])
 (.cond (.t 75) (.seq (.reg [Ko 4 (.mv (.c (.bool false)))])
 .ret) .skip)))
 (.reg [Ko 63 (.mv (.t 5)),Ko 64 (.bin .add (.t 63) (Ki 1)),Ko 5 (.mv (.t 64))]))))))
 (.seq (.seq (.reg [Ko 6 (.mv (Ki 0))])
 (.block 2 (.loop (.seq (.seq (.reg [Ko 76 (.mv (.t 6)),Ko 77 (.fa 6 (.t 2)),Ko 78 (.ld (.t 77)),Ko 79 (.len .v (.t 78)),Ko 80 (.bin .lss (.t 76) (.t 79))])
 (.cond (.t 80) .skip (.exit 2)))
 (.seq (.block 3 (.seq (.regd [Kd 83 (.fa 6 (.t 2)) 0,Kd 84 (.ld (.t 83)) 1,Kd 85 (.mv (.t 6)) 0,Kd 86 (.ia 7 (.t 84) (.t 85)) 7,Kd 87 (.ldn 7 (.t 86)) 15,Kd 88 (.fa 6 (.t 3)) 0,Kd 89 (.ld (.t 88)) 32,Kd 90 (.mv (.t 6)) 0,Kd 91 (.ia 7 (.t 89) (.t 90)) 224,Kd 92 (.ldn 7 (.t 91)) 480,Kd 93 (.call 28 [.t 87,.t 92]) 1023,Kd 94 (.un .not (.t 93)) 2047])
 (.cond (.t 94) (.seq (.reg [Ko 4 (.mv (.c (.bool false)))])
 .ret) .skip)))
 (.reg [Ko 81 (.mv (.t 6)),Ko 82 (.bin .add (.t 81) (Ki 1)),Ko 6 (.mv (.t 82))]))))))
 (.seq (.reg [Ko 4 (.mv (.c (.bool true)))])
 .ret)))))⟩
def f29:=cF Tryz.f29
def f30:=cF Tryz.f30
def f31:=cF Tryz.f31
def f32:=cF Tryz.f32
def f33:=cF Tryz.f33
def f34:=cF Tryz.f34
def f35:=cF Tryz.f35
def f36:=cF Tryz.f36
def f37:=cF Tryz.f37
def f38:=cF Tryz.f38
def f39:=cF Tryz.f39
def f40:=cF Tryz.f40
def f41:=cF Tryz.f41
def f42:=cF Tryz.f42
def f43:=cF Tryz.f43
def f44:=cF Tryz.f44
def f45:=cF Tryz.f45
def f46:=cF Tryz.f46
def f47:=cF Tryz.f47
def f48:=cF Tryz.f48
def f49:=cF Tryz.f49
def f50:=cF Tryz.f50
def f51:=cF Tryz.f51
def f52:=cF Tryz.f52
def f53:=cF Tryz.f53
def f54:=cF Tryz.f54
def f55:=cF Tryz.f55
def f56:=cF Tryz.f56
def f57:=cF Tryz.f57
def f58:=cF Tryz.f58
def f59:=cF Tryz.f59
def f60:=cF Tryz.f60
def f61:=cF Tryz.f61
def f62:=cF Tryz.f62
def f63:=cF Tryz.f63
def f64:=cF Tryz.f64
def f65:=cF Tryz.f65
def f66:=cF Tryz.f66
def f67:=cF Tryz.f67
def f68:=cF Tryz.f68
def f69:=cF Tryz.f69
def f70:=cF Tryz.f70
def f71:=cF Tryz.f71
def f72:=cF Tryz.f72
def f73:=cF Tryz.f73
def f74:=cF Tryz.f74
def f75:=cF Tryz.f75
def f76:=cF Tryz.f76
def f77:=cF Tryz.f77
def f78:=cF Tryz.f78
def f79:=cF Tryz.f79
def f80:=cF Tryz.f80
def f81:=cF Tryz.f81
def f82:=cF Tryz.f82
def f83:=cF Tryz.f83
def f84:=cF Tryz.f84
def f85:=cF Tryz.f85
def f86:=cF Tryz.f86
def f87:=cF Tryz.f87
def f88:=cF Tryz.f88
def f89:=cF Tryz.f89
def f90:=cF Tryz.f90
def f91:=cF Tryz.f91
def f92:=cF Tryz.f92
def f93:=cF Tryz.f93
def f94:=cF Tryz.f94
def f95:=cF Tryz.f95
def f96:=cF Tryz.f96
def f97:=cF Tryz.f97
def f98:=cF Tryz.f98
def f99:=cF Tryz.f99
def f100:=cF Tryz.f100
def f101:=cF Tryz.f101
def f102:=cF Tryz.f102
def f103:=cF Tryz.f103
def f104:=cF Tryz.f104
def f105:=cF Tryz.f105
def f106:=cF Tryz.f106
def f107:=cF Tryz.f107
def f108:=cF Tryz.f108
def f109:=cF Tryz.f109
def f110:=cF Tryz.f110
def f111:=cF Tryz.f111
def f112:=cF Tryz.f112
def f113:=cF Tryz.f113
def f114:=cF Tryz.f114
def f115:=cF Tryz.f115
def f116:=cF Tryz.f116
def f117:=cF Tryz.f117
def f118:=cF Tryz.f118
def f119:=cF Tryz.f119
def f120:=cF Tryz.f120
def f121:=cF Tryz.f121
def f122:=cF Tryz.f122
def f123:=cF Tryz.f123
def f124:=cF Tryz.f124
def f125:=cF Tryz.f125
def f126:=cF Tryz.f126
def f127:=cF Tryz.f127
def f128:=cF Tryz.f128
def f129:=cF Tryz.f129
def f130:=cF Tryz.f130
def f131:=cF Tryz.f131
def f132:=cF Tryz.f132
def f133:=cF Tryz.f133
def f134:=cF Tryz.f134
def f135:=cF Tryz.f135
def f136:=cF Tryz.f136
def f137:=cF Tryz.f137
def f138:=cF Tryz.f138
def f139:=cF Tryz.f139
def f140:=cF Tryz.f140
def f141:=cF Tryz.f141
def f142:=cF Tryz.f142
def f143:IFunc:=⟨26,[.t 4],(.seq (.reg [Ko 4 (.mv (.c (.bool false)))])
 (.seq (.seq (.reg [Ko 6 (.mv (.t 0)),Ko 7 (.len .v (.t 6)),Ko 8 (.mv (.t 1)),Ko 9 (.len .v (.t 8)),Ko 10 (.bin .neq (.t 7) (.t 9))])
 (.cond (.t 10) (.seq (.reg [Ko 4 (.mv (.c (.bool false)))])
 .ret) .skip))
 (.seq (.seq (.reg [Ko 11 (.mv (.t 0)),Ko 12 (.len .v (.t 11)),Ko 13 (.mv (Ki 0))])
 (.block 0 (.loop (.seq (.reg [Ko 14 (.bin .lss (.t 13) (.t 12))])
 (.seq (.cond (.t 14) .skip (.exit 0))
 (.seq (.block 1 (.seq (.reg [Ko 15 (.mv (.t 13)),Ko 5 (.mv (.t 15))])
 (.seq (.regd [Kd 16 (.mv (.t 0)) 0,Kd 17 (.mv (.t 5)) 0,Kd 18 (.ia 2 (.t 16) (.t 17)) 3,Kd 19 (.ldn 2 (.t 18)) 7,Kd 20 (.mv (.t 1)) 0,Kd 21 (.mv (.t 5)) 0,Kd 22 (.ia 2 (.t 20) (.t 21)) 48,Kd 23 (.ldn 2 (.t 22)) 112,Kd 24 (.eqk (.flat [.i,.i]) true (.t 19) (.t 23)) 255])
 (.cond (.t 24) (.seq (.reg [Ko 4 (.mv (.c (.bool false)))])
 .ret) .skip))))
 (.reg [Ko 25 (.bin .add (.t 13) (Ki 1)),Ko 13 (.mv (.t 25))])))))))
 (.seq (.reg [Ko 4 (.mv (.c (.bool true)))])
 .ret))))⟩
def f144:=cF Tryz.f144
def f145:=cF Tryz.f145
def f146:=cF Tryz.f146
def f147:=cF Tryz.f147
def f148:=cF Tryz.f148
def f149:=cF Tryz.f149
def f150:=cF Tryz.f150
def f151:=cF Tryz.f151
def f152:=cF Tryz.f152
def f153:=cF Tryz.f153
def f154:IFunc:=⟨26,[.t 4],(.seq (.reg [Ko 4 (.mv (.c (.bool false)))])
 (.seq (.seq (.reg [Ko 6 (.mv (.t 0)),Ko 7 (.len .v (.t 6)),Ko 8 (.mv (.t 1)),Ko 9 (.len .v (.t 8)),Ko 10 (.bin .neq (.t 7) (.t 9))])
 (.cond (.t 10) (.seq (.reg [Ko 4 (.mv (.c (.bool false)))])
 .ret) .skip))
 (.seq (.seq (.reg [Ko 5 (.mv (Ki 0))])
 (.block 0 (.loop (.seq (.seq (.reg [Ko 11 (.mv (.t 5)),Ko 12 (.mv (.t 0)),Ko 13 (.len .v (.t 12)),Ko 14 (.bin .lss (.t 11) (.t 13))])
 (.cond (.t 14) .skip (.exit 0)))
 (.seq (.block 1 (.seq (.regd [Kd 17 (.mv (.t 0)) 0,Kd 18 (.mv (.t 5)) 0,Kd 19 (.ia 2 (.t 17) (.t 18)) 3,Kd 20 (.ldn 2 (.t 19)) 7,Kd 21 (.mv (.t 1)) 0,Kd 22 (.mv (.t 5)) 0,Kd 23 (.ia 2 (.t 21) (.t 22)) 48,Kd 24 (.ldn 2 (.t 23)) 112,Kd 25 (.eqk (.flat [.i,.i]) true (.t 20) (.t 24)) 255])
 (.cond (.t 25) (.seq (.reg [Ko 4 (.mv (.c (.bool false)))])
 .ret) .skip)))
 (.reg [Ko 15 (.mv (.t 5)),Ko 16 (.bin .add (.t 15) (Ki 1)),Ko 5 (.mv (.t 16))]))))))
 (.seq (.reg [Ko 4 (.mv (.c (.bool true)))])
 .ret))))⟩
def f155:=cF Tryz.f155
def f156:=cF Tryz.f156
def f157:=cF Tryz.f157
def f158:=cF Tryz.f158
def f159:=cF Tryz.f159
def f160:=cF Tryz.f160
def f161:=cF Tryz.f161
def f162:=cF Tryz.f162
def f163:=cF Tryz.f163
def f164:=cF Tryz.f164
def f165:=cF Tryz.f165
def f166:=cF Tryz.f166
def f167:=cF Tryz.f167
def f168:=cF Tryz.f168
def f169:=cF Tryz.f169
def f170:=cF Tryz.f170
def f171:=cF Tryz.f171
def f172:=cF Tryz.f172
def f173:=cF Tryz.f173
def f174:=cF Tryz.f174
def f175:=cF Tryz.f175
def f176:=cF Tryz.f176
def f177:=cF Tryz.f177
def f178:=cF Tryz.f178
def f179:=cF Tryz.f179
def f180:=cF Tryz.f180
def f181:=cF Tryz.f181
def f182:=cF Tryz.f182
def f185:=cF Tryz.f185
abbrev L:Trie IFunc:=.leaf
abbrev A(l r:Trie IFunc):Trie IFunc:=.node none l r
abbrev B(f:IFunc)(l r:Trie IFunc):Trie IFunc:=.node (some f) l r
def tbl:=(A (A (B f3 (B f7 (B f15 (B f31 (B f63 (B f127 L L) L) (B f95 (B f159 L L) L)) (B f47 (B f79 (B f143 L L) L) (B f111 (B f175 L L) L))) (B f23 (B f39 (B f71 (B f135 L L) L) (B f103 (B f167 L L) L)) (B f55 (B f87 (B f151 L L) L) (B f119 L L)))) (B f11 (B f19 (B f35 (B f67 (B f131 L L) L) (B f99 (B f163 L L) L)) (B f51 (B f83 (B f147 L L) L) (B f115 (B f179 L L) L))) (B f27 (B f43 (B f75 (B f139 L L) L) (B f107 (B f171 L L) L)) (B f59 (B f91 (B f155 L L) L) (B f123 L L))))) (B f5 (B f9 (B f17 (B f33 (B f65 (B f129 L L) L) (B f97 (B f161 L L) L)) (B f49 (B f81 (B f145 L L) L) (B f113 (B f177 L L) L))) (B f25 (B f41 (B f73 (B f137 L L) L) (B f105 (B f169 L L) L)) (B f57 (B f89 (B f153 L L) L) (B f121 (B f185 L L) L)))) (B f13 (B f21 (B f37 (B f69 (B f133 L L) L) (B f101 (B f165 L L) L)) (B f53 (B f85 (B f149 L L) L) (B f117 (B f181 L L) L))) (B f29 (B f45 (B f77 (B f141 L L) L) (B f109 (B f173 L L) L)) (B f61 (B f93 (B f157 L L) L) (B f125 L L)))))) (A (B f4 (B f8 (B f16 (B f32 (B f64 (B f128 L L) L) (B f96 (B f160 L L) L)) (B f48 (B f80 (B f144 L L) L) (B f112 (B f176 L L) L))) (B f24 (B f40 (B f72 (B f136 L L) L) (B f104 (B f168 L L) L)) (B f56 (B f88 (B f152 L L) L) (B f120 L L)))) (B f12 (B f20 (B f36 (B f68 (B f132 L L) L) (B f100 (B f164 L L) L)) (B f52 (B f84 (B f148 L L) L) (B f116 (B f180 L L) L))) (B f28 (B f44 (B f76 (B f140 L L) L) (B f108 (B f172 L L) L)) (B f60 (B f92 (B f156 L L) L) (B f124 L L))))) (B f6 (B f10 (B f18 (B f34 (B f66 (B f130 L L) L) (B f98 (B f162 L L) L)) (B f50 (B f82 (B f146 L L) L) (B f114 (B f178 L L) L))) (B f26 (B f42 (B f74 (B f138 L L) L) (B f106 (B f170 L L) L)) (B f58 (B f90 (B f154 L L) L) (B f122 L L)))) (B f14 (B f22 (B f38 (B f70 (B f134 L L) L) (B f102 (B f166 L L) L)) (B f54 (B f86 (B f150 L L) L) (B f118 (B f182 L L) L))) (B f30 (B f46 (B f78 (B f142 L L) L) (B f110 (B f174 L L) L)) (B f62 (B f94 (B f158 L L) L) (B f126 L L)))))))
def rl(l:List (Nat×Nat)):List Nat:=l.flatMap λp=>.replicate p.1 p.2
def globs:List (List Z):=[kb .u8 (rl [(128,240),(66,241),(30,2),(1,19),(12,3),(1,35),(2,3),(1,52),(3,4),(1,68),(11,241)]),kb .u8 [128,191,160,191,128,159,144,191,128,143,0,0,0,0,0,0,0,0,0,0,0,0,0,0,0,0,0,0,0,0,0,0],[]]
def env:Env:=⟨tbl,globs,[],λf=> !Vk f [4,7,19,21,20,32,47,48,72,12,11,31,30,45,65,86,111,112,114,116,144,165,146,166,38,53,177,181,34,51,68,88,23,39,40,42,54,78,104,127,128,130,131,153],true⟩
end Go.Proofs.YtbddpjboppmnfaaGreatDoor.Ev.T

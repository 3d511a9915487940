/- The code of the functions that IselErrors comes to, as the evaluator reads it, by reduction of the program's own text: data alone. No conditions of its own. -/
import Derived.Test.YtbdfljdgapkbcaaGreatDoorProg
import Derived.Test.YtbdfljdgapkbcaaGreatDoorEvA
set_option maxRecDepth 100000
set_option maxHeartbeats 4000000
namespace Go.Proofs.YtbdfljdgapkbcaaGreatDoor.Ev.T
abbrev cF(f:Func){F:IFunc}(_:cN Tryz.prog f=some F:=by conv=>lhs;reduce):=F
def f3:=cF Tryz.f3
def f4:=cF Tryz.f4
def f5:=cF Tryz.f5
def f6:=cF Tryz.f6
def f7:=cF Tryz.f7
def f8:=cF Tryz.f8
def f9:=cF Tryz.f9
def f10:=cF Tryz.f10
def f11:=cF Tryz.f11
def f12:=cF Tryz.f12
def f13:=cF Tryz.f13
def f14:=cF Tryz.f14
def f15:=cF Tryz.f15
def f16:=cF Tryz.f16
def f17:=cF Tryz.f17
def f18:=cF Tryz.f18
def f19:=cF Tryz.f19
def f20:=cF Tryz.f20
def f21:=cF Tryz.f21
def f22:=cF Tryz.f22
def f23:=cF Tryz.f23
def f24:=cF Tryz.f24
def f25:=cF Tryz.f25
def f26:=cF Tryz.f26
def f27:=cF Tryz.f27
def f28:=cF Tryz.f28
def f29:=cF Tryz.f29
def f30:=cF Tryz.f30
def f31:=cF Tryz.f31
def f32:=cF Tryz.f32
def f33:=cF Tryz.f33
def f34:=cF Tryz.f34
def f35:=cF Tryz.f35
def f36:=cF Tryz.f36
def f37:=cF Tryz.f37
def f38:=cF Tryz.f38
def f39:=cF Tryz.f39
def f40:=cF Tryz.f40
def f41:=cF Tryz.f41
def f42:=cF Tryz.f42
def f43:=cF Tryz.f43
def f44:=cF Tryz.f44
def f45:=cF Tryz.f45
def f46:=cF Tryz.f46
def f47:=cF Tryz.f47
def f48:=cF Tryz.f48
def f49:=cF Tryz.f49
def f50:=cF Tryz.f50
def f51:=cF Tryz.f51
def f52:=cF Tryz.f52
def f53:=cF Tryz.f53
def f54:=cF Tryz.f54
def f55:=cF Tryz.f55
def f56:=cF Tryz.f56
def f57:=cF Tryz.f57
def f58:=cF Tryz.f58
def f59:=cF Tryz.f59
def f60:=cF Tryz.f60
def f61:=cF Tryz.f61
def f62:=cF Tryz.f62
def f63:=cF Tryz.f63
def f64:=cF Tryz.f64
def f65:=cF Tryz.f65
def f66:=cF Tryz.f66
def f67:=cF Tryz.f67
def f68:=cF Tryz.f68
def f69:=cF Tryz.f69
def f70:=cF Tryz.f70
def f71:=cF Tryz.f71
def f72:=cF Tryz.f72
def f73:=cF Tryz.f73
def f74:=cF Tryz.f74
def f75:=cF Tryz.f75
def f76:=cF Tryz.f76
def f77:=cF Tryz.f77
def f78:=cF Tryz.f78
def f79:=cF Tryz.f79
def f80:=cF Tryz.f80
def f81:=cF Tryz.f81
def f82:=cF Tryz.f82
def f83:=cF Tryz.f83
def f84:=cF Tryz.f84
def f85:=cF Tryz.f85
def f86:=cF Tryz.f86
def f87:=cF Tryz.f87
def f88:=cF Tryz.f88
def f89:=cF Tryz.f89
def f90:=cF Tryz.f90
def f91:=cF Tryz.f91
def f92:=cF Tryz.f92
def f93:=cF Tryz.f93
def f94:=cF Tryz.f94
def f95:=cF Tryz.f95
def f96:=cF Tryz.f96
def f97:=cF Tryz.f97
def f98:=cF Tryz.f98
def f99:=cF Tryz.f99
def f100:=cF Tryz.f100
def f101:=cF Tryz.f101
def f102:=cF Tryz.f102
def f103:=cF Tryz.f103
def f104:=cF Tryz.f104
def f105:=cF Tryz.f105
def f106:=cF Tryz.f106
def f107:=cF Tryz.f107
def f108:=cF Tryz.f108
def f109:=cF Tryz.f109
def f110:=cF Tryz.f110
def f111:=cF Tryz.f111
def f112:=cF Tryz.f112
def f113:=cF Tryz.f113
def f114:=cF Tryz.f114
def f115:=cF Tryz.f115
def f116:=cF Tryz.f116
def f117:=cF Tryz.f117
def f118:=cF Tryz.f118
def f119:=cF Tryz.f119
def f120:=cF Tryz.f120
def f121:=cF Tryz.f121
def f122:=cF Tryz.f122
def f123:=cF Tryz.f123
def f124:=cF Tryz.f124
def f125:=cF Tryz.f125
def f126:=cF Tryz.f126
def f127:=cF Tryz.f127
def f128:=cF Tryz.f128
def f129:=cF Tryz.f129
def f130:=cF Tryz.f130
def f131:=cF Tryz.f131
def f132:=cF Tryz.f132
def f133:=cF Tryz.f133
def f134:=cF Tryz.f134
def f135:=cF Tryz.f135
def f136:=cF Tryz.f136
def f137:=cF Tryz.f137
def f138:=cF Tryz.f138
def f139:=cF Tryz.f139
def f140:=cF Tryz.f140
def f141:=cF Tryz.f141
def f142:=cF Tryz.f142
def f143:=cF Tryz.f143
def f144:=cF Tryz.f144
def f145:=cF Tryz.f145
def f146:=cF Tryz.f146
def f147:=cF Tryz.f147
def f148:=cF Tryz.f148
def f149:=cF Tryz.f149
def f150:=cF Tryz.f150
def f151:=cF Tryz.f151
def f152:=cF Tryz.f152
def f153:=cF Tryz.f153
def f154:=cF Tryz.f154
def f155:=cF Tryz.f155
def f156:=cF Tryz.f156
def f157:=cF Tryz.f157
def f158:=cF Tryz.f158
def f159:=cF Tryz.f159
def f160:=cF Tryz.f160
def f161:=cF Tryz.f161
def f162:=cF Tryz.f162
def f163:=cF Tryz.f163
def f164:=cF Tryz.f164
def f165:=cF Tryz.f165
def f166:=cF Tryz.f166
def f167:=cF Tryz.f167
def f168:=cF Tryz.f168
def f169:=cF Tryz.f169
def f170:=cF Tryz.f170
def f171:=cF Tryz.f171
def f172:=cF Tryz.f172
def f173:=cF Tryz.f173
def f174:=cF Tryz.f174
def f175:=cF Tryz.f175
def f176:=cF Tryz.f176
def f177:=cF Tryz.f177
def f178:=cF Tryz.f178
def f179:=cF Tryz.f179
def f180:=cF Tryz.f180
def f181:IFunc:=⟨26,[.t 4],(.seq (.reg [Ko 4 (.mv (.c (.bool false)))])
 (.seq (.seq (.reg [Ko 6 (.mv (.t 0)),Ko 7 (.len .v (.t 6)),Ko 8 (.mv (.t 1)),Ko 9 (.len .v (.t 8)),Ko 10 (.bin .neq (.t 7) (.t 9))])
 (.cond (.t 10) (.seq (.reg [Ko 4 (.mv (.c (.bool false)))])
 .ret) .skip))
 (.seq (.seq (.reg [Ko 11 (.mv (.t 0)),Ko 12 (.len .v (.t 11)),Ko 13 (.mv (Ki 0))])
 (.block 0 (.loop (.seq (.reg [Ko 14 (.bin .lss (.t 13) (.t 12))])
 (.seq (.cond (.t 14) .skip (.exit 0))
 (.seq (.block 1 (.seq (.reg [Ko 15 (.mv (.t 13)),Ko 5 (.mv (.t 15))])
 (.seq (.regd [Kd 16 (.mv (.t 0)) 0,Kd 17 (.mv (.t 5)) 0,Kd 18 (.ia 2 (.t 16) (.t 17)) 3,Kd 19 (.ldn 2 (.t 18)) 7,Kd 20 (.mv (.t 1)) 0,Kd 21 (.mv (.t 5)) 0,Kd 22 (.ia 2 (.t 20) (.t 21)) 48,Kd 23 (.ldn 2 (.t 22)) 112,Kd 24 (.eqk (.flat [.i,.i]) true (.t 19) (.t 23)) 255])
 (.cond (.t 24) (.seq (.reg [Ko 4 (.mv (.c (.bool false)))])
 .ret) .skip))))
 (.reg [Ko 25 (.bin .add (.t 13) (Ki 1)),Ko 13 (.mv (.t 25))])))))))
 (.seq (.reg [Ko 4 (.mv (.c (.bool true)))])
 .ret))))⟩
def f182:=cF Tryz.f182
def f183:=cF Tryz.f183
def f184:=cF Tryz.f184
def f185:=cF Tryz.f185
def f186:=cF Tryz.f186
def f187:=cF Tryz.f187
def f188:=cF Tryz.f188
def f189:=cF Tryz.f189
def f190:=cF Tryz.f190
def f191:=cF Tryz.f191
def f192:IFunc:=⟨26,[.t 4],(.seq (.reg [Ko 4 (.mv (.c (.bool false)))])
 (.seq (.seq (.reg [Ko 6 (.mv (.t 0)),Ko 7 (.len .v (.t 6)),Ko 8 (.mv (.t 1)),Ko 9 (.len .v (.t 8)),Ko 10 (.bin .neq (.t 7) (.t 9))])
 (.cond (.t 10) (.seq (.reg [Ko 4 (.mv (.c (.bool false)))])
 .ret) .skip))
 (.seq (.seq (.reg [Ko 5 (.mv (Ki 0))])
 (.block 0 (.loop (.seq (.seq (.reg [Ko 11 (.mv (.t 5)),Ko 12 (.mv (.t 0)),Ko 13 (.len .v (.t 12)),Ko 14 (.bin .lss (.t 11) (.t 13))])
 (.cond (.t 14) .skip (.exit 0)))
 (.seq (.block 1 (.seq (.regd [Kd 17 (.mv (.t 0)) 0,Kd 18 (.mv (.t 5)) 0,Kd 19 (.ia 2 (.t 17) (.t 18)) 3,Kd 20 (.ldn 2 (.t 19)) 7,Kd 21 (.mv (.t 1)) 0,Kd 22 (.mv (.t 5)) 0,Kd 23 (.ia 2 (.t 21) (.t 22)) 48,Kd 24 (.ldn 2 (.t 23)) 112,Kd 25 (.eqk (.flat [.i,.i]) true (.t 20) (.t 24)) 255])
 (.cond (.t 25) (.seq (.reg [Ko 4 (.mv (.c (.bool false)))])
 .ret) .skip)))
 (.reg [Ko 15 (.mv (.t 5)),Ko 16 (.bin .add (.t 15) (Ki 1)),Ko 5 (.mv (.t 16))]))))))
 (.seq (.reg [Ko 4 (.mv (.c (.bool true)))])
 .ret))))⟩
def f193:=cF Tryz.f193
def f194:=cF Tryz.f194
def f195:=cF Tryz.f195
def f196:=cF Tryz.f196
def f197:=cF Tryz.f197
def f198:=cF Tryz.f198
def f199:=cF Tryz.f199
def f200:=cF Tryz.f200
def f201:=cF Tryz.f201
def f202:=cF Tryz.f202
def f203:=cF Tryz.f203
def f204:=cF Tryz.f204
def f205:=cF Tryz.f205
def f206:=cF Tryz.f206
def f207:=cF Tryz.f207
def f208:=cF Tryz.f208
def f209:=cF Tryz.f209
def f210:=cF Tryz.f210
def f211:=cF Tryz.f211
def f212:=cF Tryz.f212
def f213:=cF Tryz.f213
def f214:=cF Tryz.f214
def f215:=cF Tryz.f215
def f216:=cF Tryz.f216
def f217:=cF Tryz.f217
def f218:=cF Tryz.f218
def f219:=cF Tryz.f219
def f220:=cF Tryz.f220
def f223:=cF Tryz.f223
abbrev L:Trie IFunc:=.leaf
abbrev A(l r:Trie IFunc):Trie IFunc:=.node none l r
abbrev B(f:IFunc)(l r:Trie IFunc):Trie IFunc:=.node (some f) l r
def tbl:=(A (A (B f3 (B f7 (B f15 (B f31 (B f63 (B f127 L L) (B f191 L L)) (B f95 (B f159 L L) (B f223 L L))) (B f47 (B f79 (B f143 L L) (B f207 L L)) (B f111 (B f175 L L) L))) (B f23 (B f39 (B f71 (B f135 L L) (B f199 L L)) (B f103 (B f167 L L) L)) (B f55 (B f87 (B f151 L L) (B f215 L L)) (B f119 (B f183 L L) L)))) (B f11 (B f19 (B f35 (B f67 (B f131 L L) (B f195 L L)) (B f99 (B f163 L L) L)) (B f51 (B f83 (B f147 L L) (B f211 L L)) (B f115 (B f179 L L) L))) (B f27 (B f43 (B f75 (B f139 L L) (B f203 L L)) (B f107 (B f171 L L) L)) (B f59 (B f91 (B f155 L L) (B f219 L L)) (B f123 (B f187 L L) L))))) (B f5 (B f9 (B f17 (B f33 (B f65 (B f129 L L) (B f193 L L)) (B f97 (B f161 L L) L)) (B f49 (B f81 (B f145 L L) (B f209 L L)) (B f113 (B f177 L L) L))) (B f25 (B f41 (B f73 (B f137 L L) (B f201 L L)) (B f105 (B f169 L L) L)) (B f57 (B f89 (B f153 L L) (B f217 L L)) (B f121 (B f185 L L) L)))) (B f13 (B f21 (B f37 (B f69 (B f133 L L) (B f197 L L)) (B f101 (B f165 L L) L)) (B f53 (B f85 (B f149 L L) (B f213 L L)) (B f117 (B f181 L L) L))) (B f29 (B f45 (B f77 (B f141 L L) (B f205 L L)) (B f109 (B f173 L L) L)) (B f61 (B f93 (B f157 L L) L) (B f125 (B f189 L L) L)))))) (A (B f4 (B f8 (B f16 (B f32 (B f64 (B f128 L L) (B f192 L L)) (B f96 (B f160 L L) L)) (B f48 (B f80 (B f144 L L) (B f208 L L)) (B f112 (B f176 L L) L))) (B f24 (B f40 (B f72 (B f136 L L) (B f200 L L)) (B f104 (B f168 L L) L)) (B f56 (B f88 (B f152 L L) (B f216 L L)) (B f120 (B f184 L L) L)))) (B f12 (B f20 (B f36 (B f68 (B f132 L L) (B f196 L L)) (B f100 (B f164 L L) L)) (B f52 (B f84 (B f148 L L) (B f212 L L)) (B f116 (B f180 L L) L))) (B f28 (B f44 (B f76 (B f140 L L) (B f204 L L)) (B f108 (B f172 L L) L)) (B f60 (B f92 (B f156 L L) (B f220 L L)) (B f124 (B f188 L L) L))))) (B f6 (B f10 (B f18 (B f34 (B f66 (B f130 L L) (B f194 L L)) (B f98 (B f162 L L) L)) (B f50 (B f82 (B f146 L L) (B f210 L L)) (B f114 (B f178 L L) L))) (B f26 (B f42 (B f74 (B f138 L L) (B f202 L L)) (B f106 (B f170 L L) L)) (B f58 (B f90 (B f154 L L) (B f218 L L)) (B f122 (B f186 L L) L)))) (B f14 (B f22 (B f38 (B f70 (B f134 L L) (B f198 L L)) (B f102 (B f166 L L) L)) (B f54 (B f86 (B f150 L L) (B f214 L L)) (B f118 (B f182 L L) L))) (B f30 (B f46 (B f78 (B f142 L L) (B f206 L L)) (B f110 (B f174 L L) L)) (B f62 (B f94 (B f158 L L) L) (B f126 (B f190 L L) L)))))))
def rl(l:List (Nat×Nat)):List Nat:=l.flatMap λp=>.replicate p.1 p.2
def globs:List (List Z):=[kb .u8 (rl [(128,240),(66,241),(30,2),(1,19),(12,3),(1,35),(2,3),(1,52),(3,4),(1,68),(11,241)]),kb .u8 [128,191,160,191,128,159,144,191,128,143,0,0,0,0,0,0,0,0,0,0,0,0,0,0,0,0,0,0,0,0,0,0],[]]
def env:Env:=⟨tbl,globs,[],λf=> !QO f [4,30,31,32,33,34,50,51,52,53,54,55,56,57,58,59,60,61,62,63,64,85,87,88,89,90,91,92,93,94,95,96,97,98,99,100,102,103,104,131,132,133,134,16,26,44,45,81,14,13,25,24,42,76,118,149,150,152,154,182,203,184,204,135,163,215,219,28,48,20,39,17,35,36,38,65,3,107,140,166,167,169,170,191],true⟩
end Go.Proofs.YtbdfljdgapkbcaaGreatDoor.Ev.T

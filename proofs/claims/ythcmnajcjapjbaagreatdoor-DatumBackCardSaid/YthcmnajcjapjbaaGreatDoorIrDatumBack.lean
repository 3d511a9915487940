/- The code of the functions that DatumBack comes to, as the evaluator reads it: data alone, nothing is proved here. -/
import Derived.Test.YthcmnajcjapjbaaGreatDoorEvDefs
namespace Go.Proofs.YthcmnajcjapjbaaGreatDoor.Ev.T
set_option maxRecDepth 100000
def ks0 : List Nat := [48, 48, 48, 49, 48, 50, 48, 51, 48, 52, 48, 53, 48, 54, 48, 55, 48, 56, 48, 57, 49, 48, 49, 49, 49, 50, 49, 51, 49, 52, 49, 53, 49, 54, 49, 55, 49, 56, 49, 57, 50, 48, 50, 49, 50, 50, 50, 51, 50, 52, 50, 53, 50, 54, 50, 55, 50, 56, 50, 57, 51, 48, 51, 49, 51, 50, 51, 51, 51, 52, 51, 53, 51, 54, 51, 55, 51, 56, 51, 57, 52, 48, 52, 49, 52, 50, 52, 51, 52, 52, 52, 53, 52, 54, 52, 55, 52, 56, 52, 57, 53, 48, 53, 49, 53, 50, 53, 51, 53, 52, 53, 53, 53, 54, 53, 55, 53, 56, 53, 57, 54, 48, 54, 49, 54, 50, 54, 51, 54, 52, 54, 53, 54, 54, 54, 55, 54, 56, 54, 57, 55, 48, 55, 49, 55, 50, 55, 51, 55, 52, 55, 53, 55, 54, 55, 55, 55, 56, 55, 57, 56, 48, 56, 49, 56, 50, 56, 51, 56, 52, 56, 53, 56, 54, 56, 55, 56, 56, 56, 57, 57, 48, 57, 49, 57, 50, 57, 51, 57, 52, 57, 53, 57, 54, 57, 55, 57, 56, 57, 57]
def ks1 : List Nat := [48, 49, 50, 51, 52, 53, 54, 55, 56, 57, 97, 98, 99, 100, 101, 102, 103, 104, 105, 106, 107, 108, 109, 110, 111, 112, 113, 114, 115, 116, 117, 118, 119, 120, 121, 122]
def f4 : IFunc := ⟨117, [.t 2], (Kr [Km 2 KF]
 (Kr [Km 14 0, Ko 15 (.call 16 [14]), Ko 16 (.call 15 [15]), Km 13 16, Ko 17 (.ex 13 0), Ko 18 (.ex 13 1), Ko 4 (.alloc 34 [Kv 0, Kv 0]), Km 3 17, Kn (.st 2 4 18)]
 (.seq (Kr [Ko 19 (.fa 0 4), Ko 20 (.ld 19), Ko 21 (.bin .neq 20 (Ki 0))]
 (.cond 21 (Kr [Km 22 3, Ko 23 (.len .v 22), Ko 24 (.bin .eql 23 (Ki 0)), Km 25 24, Kg 26 (.call 8 []) 25 true, Ko 27 (.pick 25 26 KF), Km 2 27]
 .ret) .skip))
 (Kr [Ko 5 (.mv (.c (.str [])))]
 (.seq (Kr [Km 6 (Ki 0)]
 (.block 0 (.loop (.seq (Kr [Km 28 6, Km 29 3, Ko 30 (.len .v 29), Ko 31 (.bin .lss 28 30)]
 (.cond 31 .skip (.exit 0)))
 (.seq (.block 1 (Kr [Km 34 3, Km 35 6, Ko 36 (.ia 5 34 35), Ko 37 (.ldn 5 36), Ko 38 (.call 9 [37, .c (.bool false)]), Km 7 38]
 (Kr [Km 40 7, Ko 41 (.csb 5 40), Ko 42 (.call 15 [41]), Km 39 42, Ko 43 (.ex 39 0), Ko 44 (.ex 39 1), Ko 9 (.alloc 34 [Kv 0, Kv 0]), Km 8 43, Kn (.st 2 9 44)]
 (.seq (.seq (.regd [Kd 45 (.fa 0 9) 0, Kd 46 (.ld 45) 1, Kd 47 (.bin .neq 46 (Ki 0)) 3, Kd 48 (.mv 47) 7, Ke 49 (.mv 8) 48 false 15, Ke 50 (.len .v 49) 48 false 31, Ke 51 (.bin .neq 50 (Ki 1)) 48 false 63, Kd 52 (.pick 48 KT 51) 127, Kd 53 (.mv 52) 255, Ke 54 (.mv 8) 53 false 511, Ke 55 (.ia 5 54 (Ki 0)) 53 false 1023, Ke 56 (.ldn 5 55) 53 false 2047, Ke 57 (.mv 3) 53 false 511, Ke 58 (.mv 6) 53 false 511, Ke 59 (.ia 5 57 58) 53 false 12799, Ke 60 (.ldn 5 59) 53 false 29183, Ke 61 (.call 13 [56, 60]) 53 false 65535, Ke 62 (.un .not 61) 53 false 131071, Kd 63 (.pick 53 KT 62) 262143, Kd 64 (.mv 63) 524287, Ke 65 (.mv 3) 64 false 1048575, Ke 66 (.mv 6) 64 false 1048575, Ke 67 (.ia 5 65 66) 64 false 4194303, Ke 68 (.ldn 5 67) 64 false 8388607, Ke 69 (.call 11 [68]) 64 false 16777215, Ke 70 (.un .not 69) 64 false 33554431, Kd 71 (.pick 64 KT 70) 67108863, Kd 72 (.mv 71) 134217727, Ke 73 (.mv 8) 72 false 268435455, Ke 74 (.ia 5 73 (Ki 0)) 72 false 536870911, Ke 75 (.ldn 5 74) 72 false 1073741823, Ke 76 (.call 9 [75, .c (.bool false)]) 72 false 2147483647, Ke 77 (.mv 7) 72 false 268435455, Ke 78 (.bin .neq 76 77) 72 false 8589934591, Kd 79 (.pick 72 KT 78) 17179869183])
 (.cond 79 (Kr [Km 2 KF]
 .ret) .skip))
 (.reg [Km 80 5, Km 81 7, Ko 82 (.bin .add 80 81), Ko 83 (.bin .add 82 (.c (.str [32]))), Km 5 83])))))
 (.reg [Km 32 6, Ko 33 (.bin .add 32 (Ki 1)), Km 6 33]))))))
 (Kr [Km 85 5, Ko 86 (.csb 5 85), Ko 87 (.call 15 [86]), Km 84 87, Ko 88 (.ex 84 0), Ko 89 (.ex 84 1), Ko 11 (.alloc 34 [Kv 0, Kv 0]), Km 10 88, Kn (.st 2 11 89)]
 (.seq (Kr [Ko 90 (.fa 0 11), Ko 91 (.ld 90), Ko 92 (.bin .neq 91 (Ki 0)), Km 93 92, Kg 94 (.mv 10) 93 false, Kg 95 (.len .v 94) 93 false, Kg 96 (.mv 3) 93 false, Kg 97 (.len .v 96) 93 false, Kg 98 (.bin .neq 95 97) 93 false, Ko 99 (.pick 93 KT 98)]
 (.cond 99 (Kr [Km 2 KF]
 .ret) .skip))
 (.seq (Kr [Km 12 (Ki 0)]
 (.block 2 (.loop (.seq (Kr [Km 100 12, Km 101 10, Ko 102 (.len .v 101), Ko 103 (.bin .lss 100 102)]
 (.cond 103 .skip (.exit 2)))
 (.seq (.block 3 (.seq (.regd [Kd 106 (.mv 10) 0, Kd 107 (.mv 12) 0, Kd 108 (.ia 5 106 107) 3, Kd 109 (.ldn 5 108) 7, Kd 110 (.mv 3) 0, Kd 111 (.mv 12) 0, Kd 112 (.ia 5 110 111) 48, Kd 113 (.ldn 5 112) 112, Kd 114 (.call 13 [109, 113]) 255, Kd 115 (.un .not 114) 511])
 (.cond 115 (Kr [Km 2 KF]
 .ret) .skip)))
 (.reg [Km 104 12, Ko 105 (.bin .add 104 (Ki 1)), Km 12 105]))))))
 (Kr [Ko 116 (.call 8 []), Km 2 116]
 .ret)))))))))⟩
def f8 : IFunc := ⟨40, [.t 0], (Kr [Km 0 KF]
 (Kr [Ko 4 (.bsl 5 [Kw 0, Kw 0, Kw 0, Kw 0, Kw 0, Kw 0, Kw 0, Kw 0, Kw 0, Kw 0, Kw 0, Kw 0, Kw 0, Kw 0, Kw 0, Kw 0, Kw 0] 17 [(0, 1, (Kj 40)), (1, 1, (Kj 97)), (2, 1, (Kj 32)), (3, 1, (Kj 46)), (4, 1, (Kj 32)), (5, 1, (Kj 40)), (6, 1, (Kj 35)), (7, 1, (Kj 92)), (8, 1, (Kj 120)), (9, 1, (Kj 32)), (10, 1, (Kj 34)), (11, 1, (Kj 98)), (12, 1, (Kj 92)), (13, 1, (Kj 110)), (14, 1, (Kj 34)), (15, 1, (Kj 41)), (16, 1, (Kj 41))]), Ko 5 (.cbb 4), Ko 6 (.call 15 [5]), Km 3 6, Ko 7 (.ex 3 0), Ko 8 (.ex 3 1), Ko 2 (.alloc 34 [Kv 0, Kv 0]), Km 1 7, Kn (.st 2 2 8)]
 (.seq (.regd [Kd 9 (.ldn 2 2) 0, Kd 10 (.build [Kv 0, Kv 0] []) 0, Kd 11 (.eqk (.flat [.i, .i]) false 9 10) 3, Kd 12 (.mv 11) 7, Ke 13 (.mv 1) 12 true 15, Ke 14 (.len .v 13) 12 true 31, Ke 15 (.bin .eql 14 (Ki 1)) 12 true 63, Kd 16 (.pick 12 15 KF) 127, Kd 17 (.mv 16) 255, Ke 18 (.mv 1) 17 true 511, Ke 19 (.ia 5 18 (Ki 0)) 17 true 1023, Ke 20 (.ldn 5 19) 17 true 2047, Ke 21 (.call 9 [20, .c (.bool false)]) 17 true 4095, Ke 22 (.bin .eql 21 (.c (.str [40, 97, 32, 35, 92, 120, 32, 34, 98, 92, 110, 34, 41]))) 17 true 8191, Kd 23 (.pick 17 22 KF) 16383, Kd 24 (.mv 23) 32767, Ke 25 (.mv 1) 24 true 65535, Ke 26 (.ia 5 25 (Ki 0)) 24 true 131071, Ke 27 (.ldn 5 26) 24 true 262143, Ke 28 (.call 9 [27, .c (.bool true)]) 24 true 524287, Ke 29 (.bin .eql 28 (.c (.str [40, 97, 32, 120, 32, 98, 10, 41]))) 24 true 1048575, Kd 30 (.pick 24 29 KF) 2097151, Kd 31 (.mv 30) 4194303, Ke 32 (.mv 1) 31 true 8388607, Ke 33 (.ia 5 32 (Ki 0)) 31 true 16777215, Ke 34 (.ldn 5 33) 31 true 33554431, Ke 35 (.mv 1) 31 true 8388607, Ke 36 (.ia 5 35 (Ki 0)) 31 true 75497471, Ke 37 (.ldn 5 36) 31 true 209715199, Ke 38 (.call 13 [34, 37]) 31 true 536870911, Kd 39 (.pick 31 38 KF) 1073741823, Kd 0 (.mv 39) 2147483647])
 .ret)))⟩
def f9 : IFunc := ⟨19, [.t 4], (Kr [Ko 2 (.box 24 0), Ko 4 (.mv (.c (.str [])))]
 (.seq (Kr [Ko 6 (.ldn 5 2), Ko 7 (.call 11 [6]), Ko 8 (.un .not 7)]
 (.cond 8 (Kr [Ko 4 (.mv (.c (.str [])))]
 .ret) .skip))
 (Kr [Km 9 1, Ko 10 (.build [.nilp, .nils, .bool false] [(2, 1, 9)]), Ko 11 (.box 54 10), Km 5 11]
 (Kr [Km 12 5, Ko 13 (.ldn 5 2), Ko 14 (.call 20 [12, 13])]
 (Kr [Km 15 5, Ko 16 (.nck 15), Ko 17 (.fa 0 16), Ko 18 (.call 21 [17]), Km 4 18]
 .ret)))))⟩
def f11 : IFunc := ⟨30, [.t 2], (Kr [Ko 1 (.box 24 0), Km 2 KF]
 (.seq (.block 0 (.loop (.seq (Kr [Ko 3 (.ldn 5 1), Ko 4 (.call 23 [3])]
 (.cond 4 .skip (.exit 0)))
 (.block 1 (.seq (Kr [Ko 5 (.fa 3 1), Ko 6 (.ld 5), Ko 7 (.ia 5 6 (Ki 0)), Ko 8 (.ldn 5 7), Ko 9 (.call 11 [8]), Ko 10 (.un .not 9)]
 (.cond 10 (Kr [Km 2 KF]
 .ret) .skip))
 (.reg [Ko 11 (.fa 3 1), Ko 12 (.ld 11), Ko 13 (.ia 5 12 (Ki 1)), Ko 14 (.ldn 5 13), Kn (.st 5 1 14)]))))))
 (.seq (Kr [Ko 15 (.fa 0 1), Ko 16 (.ld 15), Ko 17 (.bin .eql 16 (Ki 7))]
 (.cond 17 (Kr [Ko 18 (.fa 3 1), Ko 19 (.ld 18), Ko 20 (.call 24 [19, (.c (.fn 25 [] []))]), Ko 21 (.un .not 20), Km 2 21]
 .ret) .skip))
 (Kr [Ko 22 (.fa 3 1), Ko 23 (.ld 22), Ko 24 (.len .v 23), Ko 25 (.bin .eql 24 (Ki 0)), Km 26 25, Kg 27 (.ldn 5 1) 26 true, Kg 28 (.call 26 [27]) 26 true, Ko 29 (.pick 26 28 KF), Km 2 29]
 .ret))))⟩
def f13 : IFunc := ⟨55, [.t 4], (Kr [Ko 2 (.box 24 0), Ko 3 (.box 24 1), Km 4 KF]
 (.seq (.block 0 (.loop (.seq (Kr [Ko 5 (.ldn 5 2), Ko 6 (.call 23 [5]), Km 7 6, Kg 8 (.ldn 5 3) 7 true, Kg 9 (.call 23 [8]) 7 true, Ko 10 (.pick 7 9 KF)]
 (.cond 10 .skip (.exit 0)))
 (.block 1 (.seq (.seq (.regd [Kd 11 (.fa 3 2) 0, Kd 12 (.ld 11) 1, Kd 13 (.ia 5 12 (Ki 0)) 3, Kd 14 (.ldn 5 13) 7, Kd 15 (.fa 3 3) 0, Kd 16 (.ld 15) 16, Kd 17 (.ia 5 16 (Ki 0)) 48, Kd 18 (.ldn 5 17) 112, Kd 19 (.call 13 [14, 18]) 255, Kd 20 (.un .not 19) 511])
 (.cond 20 (Kr [Km 4 KF]
 .ret) .skip))
 (.regd [Kd 21 (.fa 3 2) 0, Kd 22 (.ld 21) 1, Kd 23 (.ia 5 22 (Ki 1)) 3, Kd 24 (.ldn 5 23) 7, Kd 25 (.fa 3 3) 0, Kd 26 (.ld 25) 16, Kd 27 (.ia 5 26 (Ki 1)) 48, Kd 28 (.ldn 5 27) 112, Kf (.st 5 2 24) 15, Kf (.st 5 3 28) 511]))))))
 (Kr [Ko 29 (.fa 0 2), Ko 30 (.ld 29), Ko 31 (.fa 0 3), Ko 32 (.ld 31), Ko 33 (.bin .eql 30 32), Km 34 33, Kg 35 (.fa 1 2) 34 true, Kg 36 (.ld 35) 34 true, Kg 37 (.fa 1 3) 34 true, Kg 38 (.ld 37) 34 true, Kg 39 (.bin .eql 36 38) 34 true, Ko 40 (.pick 34 39 KF), Km 41 40, Kg 42 (.fa 2 2) 41 true, Kg 43 (.ld 42) 41 true, Kg 44 (.fa 2 3) 41 true, Kg 45 (.ld 44) 41 true, Kg 46 (.bin .eql 43 45) 41 true, Ko 47 (.pick 41 46 KF), Km 48 47, Kg 49 (.fa 3 2) 48 true, Kg 50 (.ld 49) 48 true, Kg 51 (.fa 3 3) 48 true, Kg 52 (.ld 51) 48 true, Kg 53 (.call 31 [50, 52, (.c (.fn 13 [] []))]) 48 true, Ko 54 (.pick 48 53 KF), Km 4 54]
 .ret)))⟩
def f15 : IFunc := ⟨46, [.t 2, .cn 3 2], (Kr [Km 2 (.c .nils), Ko 3 (.alloc 34 [Kv 0, Kv 0])]
 (Kr [Km 10 0, Ko 11 (.call 17 [10]), Km 9 11, Ko 12 (.ex 9 0), Ko 13 (.ex 9 1), Ko 5 (.alloc 34 [Kv 0, Kv 0]), Km 4 12, Kn (.st 2 5 13)]
 (.seq (Kr [Ko 14 (.fa 0 5), Ko 15 (.ld 14), Ko 16 (.bin .neq 15 (Ki 0))]
 (.cond 16 (.seq (.regd [Kd 17 (.ldn 2 5) 0, Kd 2 (.mv (.c .nils)) 0, Kf (.st 2 3 17) 3])
 .ret) .skip))
 (Kr [Km 18 4, Ko 19 (.build [.nils, Kv 0, Kv 0, Kv 0] [(0, 1, 18)]), Ko 20 (.box 66 19), Km 6 20]
 (Kr [Km 7 (.c .nils)]
 (.seq (.block 0 (.loop (.seq (Kr [Km 21 6, Ko 22 (.nck 21), Ko 23 (.fa 1 22), Ko 24 (.ld 23), Km 25 4, Ko 26 (.len .v 25), Ko 27 (.bin .lss 24 26)]
 (.cond 27 .skip (.exit 0)))
 (.block 1 (Kr [Km 28 6, Ko 29 (.call 32 [28, Ki 0, Ki 0]), Ko 8 (.alloc 24 [Kv 0, Kv 0, (.str []), .nils, Kv 0]), Kn (.st 5 8 29)]
 (.seq (Kr [Km 30 6, Ko 31 (.nck 30), Ko 32 (.fa 2 31), Ko 33 (.fa 0 32), Ko 34 (.ld 33), Ko 35 (.bin .neq 34 (Ki 0))]
 (.cond 35 (.seq (.regd [Kd 36 (.mv 6) 0, Kd 37 (.nck 36) 1, Kd 38 (.fa 2 37) 3, Kd 39 (.ldn 2 38) 7, Kd 2 (.mv (.c .nils)) 0, Kf (.st 2 3 39) 31])
 .ret) .skip))
 (.reg [Km 40 7, Ko 41 (.ldn 5 8), Ko 42 (.bsl 24 [Kv 0, Kv 0, (.str []), .nils, Kv 0] 1 [(0, 5, 41)]), Ko 43 (.app 24 5 64 40 42), Km 7 43])))))))
 (Kr [Km 44 7, Ko 45 (.build [Kv 0, Kv 0] []), Km 2 44, Kn (.st 2 3 45)]
 .ret)))))))⟩
def f16 : IFunc := ⟨8, [.t 2], (Kr [Km 2 (.c .nils)]
 (Kr [Km 3 (.t 0), Km 4 (.t 0), Ko 5 (.len .v (.t 4)), Ko 6 (.mn [.t 5, Ki 3000]), Ko 7 (.slv 1 (.t 3) none (some (.t 6)) none), Km 2 (.t 7)]
 .ret))⟩
def f17 : IFunc := ⟨35, [.t 2, .cn 3 2], (Kr [Km 2 (.c .nils), Ko 3 (.alloc 34 [Kv 0, Kv 0])]
 (.seq (Kr [Km 7 0, Ko 8 (.len .v 7), Ko 9 (.bin .gtr 8 (Ki 16777216))]
 (.cond 9 (Kr [Ko 10 (.build [Kv 0, Kv 0] [(0, 1, (Ki 3))]), Km 2 (.c .nils), Kn (.st 2 3 10)]
 .ret) .skip))
 (Kr [Km 11 0, Ko 12 (.build [.nils, Kv 0] [(0, 1, 11)]), Ko 13 (.box 70 12), Km 4 13]
 (.seq (.block 0 (.loop (.seq (Kr [Km 14 4, Ko 15 (.call 33 [14]), Ko 16 (.un .not 15)]
 (.cond 16 .skip (.exit 0)))
 (.block 1 (Kr [Km 18 4, Ko 19 (.call 34 [18]), Km 17 19, Ko 20 (.ex 17 0), Ko 21 (.ex 17 1), Ko 5 (.alloc 44 [Kv 0, Kv 0, Kv 0, Kv 0, (.str []), .nils, Kv 0]), Ko 6 (.alloc 34 [Kv 0, Kv 0]), Kn (.st 7 5 20), Kn (.st 2 6 21)]
 (.seq (Kr [Ko 22 (.fa 0 6), Ko 23 (.ld 22), Ko 24 (.bin .neq 23 (Ki 0))]
 (.cond 24 (.seq (.regd [Kd 25 (.ldn 2 6) 0, Kd 2 (.mv (.c .nils)) 0, Kf (.st 2 3 25) 3])
 .ret) .skip))
 (Kr [Ko 26 (.fa 0 5), Ko 27 (.ld 26), Ko 28 (.bin .neq 27 (Ki 0))]
 (.cond 28 (.reg [Km 29 2, Ko 30 (.ldn 7 5), Ko 31 (.bsl 44 [Kv 0, Kv 0, Kv 0, Kv 0, (.str []), .nils, Kv 0] 1 [(0, 7, 30)]), Ko 32 (.app 44 7 80 29 31), Km 2 32]) .skip))))))))
 (Kr [Km 33 2, Ko 34 (.call 35 []), Km 2 33, Kn (.st 2 3 34)]
 .ret)))))⟩
def f19 : IFunc := ⟨19, [.t 2, .cn 3 5], (Kr [Ko 1 (.box 24 0), Km 2 (.c .nils), Ko 3 (.alloc 24 [Kv 0, Kv 0, (.str []), .nils, Kv 0])]
 (.seq (.block 0 (.loop (.seq (Kr [Ko 4 (.ldn 5 1), Ko 5 (.call 23 [4])]
 (.cond 5 .skip (.exit 0)))
 (.block 1 (Kr [Km 6 2, Ko 7 (.fa 3 1), Ko 8 (.ld 7), Ko 9 (.ia 5 8 (Ki 0)), Ko 10 (.ldn 5 9), Ko 11 (.bsl 24 [Kv 0, Kv 0, (.str []), .nils, Kv 0] 1 [(0, 5, 10)]), Ko 12 (.app 24 5 64 6 11), Km 2 12]
 (.reg [Ko 13 (.fa 3 1), Ko 14 (.ld 13), Ko 15 (.ia 5 14 (Ki 1)), Ko 16 (.ldn 5 15), Kn (.st 5 1 16)]))))))
 (.seq (.regd [Kd 17 (.mv 2) 0, Kd 18 (.ldn 5 1) 0, Kd 2 (.mv 17) 1, Kf (.st 5 3 18) 7])
 .ret)))⟩
def f20 : IFunc := ⟨106, [], (Kr [Ko 3 (.box 24 1)]
 (Kr [Ko 4 (.fa 0 3), Ko 5 (.ld 4)]
 (.block 0 (Kr [Ko 10 (.bin .eql 5 (Ki 0)), Km 9 10]
 (.cond 9 (.reg [Km 11 0, Ko 12 (.nck 11), Ko 13 (.fa 0 12), Ko 14 (.call 36 [13, (.c (.str [40, 41]))])]) (Kr [Ko 16 (.bin .eql 5 (Ki 1)), Km 15 16]
 (.cond 15 (.regd [Kd 17 (.mv 0) 0, Kd 18 (.nck 17) 1, Kd 19 (.fa 0 18) 3, Kd 20 (.fa 1 3) 0, Kd 21 (.ld 20) 8, Kd 22 (.fa 1 3) 0, Kd 23 (.ld 22) 32, Kd 24 (.bin .add 23 (Ki 1)) 96, Kd 25 (.sls (.c (.str [102, 116])) (some 21) (some 24)) 248, Kd 26 (.bin .add (.c (.str [35])) 25) 504, Kd 27 (.call 36 [19, 26]) 1023]) (.seq (Kr [Ko 29 (.bin .eql 5 (Ki 2)), Km 28 29]
 (.cond 28 .skip (.reg [Ko 30 (.bin .eql 5 (Ki 5)), Km 28 30])))
 (.cond 28 (.regd [Kd 31 (.mv 0) 0, Kd 32 (.nck 31) 1, Kd 33 (.fa 0 32) 3, Kd 34 (.fa 2 3) 0, Kd 35 (.ld 34) 8, Kd 36 (.call 36 [33, 35]) 31]) (Kr [Ko 38 (.bin .eql 5 (Ki 3)), Km 37 38]
 (.cond 37 (.seq (Kr [Km 39 0, Ko 40 (.nck 39), Ko 41 (.fa 2 40), Ko 42 (.ld 41), Ko 43 (.un .not 42)]
 (.cond 43 (.seq (.regd [Kd 44 (.mv 0) 0, Kd 45 (.nck 44) 1, Kd 46 (.fa 0 45) 3, Kd 47 (.fa 1 3) 0, Kd 48 (.ld 47) 8, Kd 49 (.call 37 [48]) 24, Kd 50 (.bin .add (.c (.str [35, 92])) 49) 56, Kd 51 (.call 36 [46, 50]) 127])
 .ret) .skip))
 (.regd [Kd 52 (.mv 0) 0, Kd 53 (.nck 52) 1, Kd 54 (.fa 0 53) 3, Kd 55 (.fa 1 3) 0, Kd 56 (.ld 55) 8, Kd 57 (.ci .i32 56) 24, Kd 58 (.call 38 [54, 57]) 63])) (Kr [Ko 60 (.bin .eql 5 (Ki 4)), Km 59 60]
 (.cond 59 (.reg [Km 61 0, Ko 62 (.fa 2 3), Ko 63 (.ld 62), Ko 64 (.call 39 [61, 63])]) (Kr [Ko 66 (.bin .eql 5 (Ki 7)), Km 65 66]
 (.cond 65 (Kr [Km 67 0, Ko 68 (.nck 67), Ko 69 (.fa 0 68), Ko 70 (.call 36 [69, (.c (.str [35, 40]))])]
 (Kr [Km 71 0, Ko 72 (.fa 3 3), Ko 73 (.ld 72), Ko 74 (.call 40 [71, 73])]
 (.reg [Km 75 0, Ko 76 (.nck 75), Ko 77 (.fa 0 76), Ko 78 (.call 41 [77, .c (.int .u8 (.ofNat 41))])]))) (Kr [Ko 80 (.bin .eql 5 (Ki 8)), Km 79 80]
 (.cond 79 (Kr [Km 81 0, Ko 82 (.nck 81), Ko 83 (.fa 0 82), Ko 84 (.call 36 [83, (.c (.str [35, 117, 56, 40]))])]
 (Kr [Km 85 0, Ko 86 (.fa 2 3), Ko 87 (.ld 86), Ko 88 (.call 42 [87]), Ko 89 (.call 40 [85, 88])]
 (.reg [Km 90 0, Ko 91 (.nck 90), Ko 92 (.fa 0 91), Ko 93 (.call 41 [92, .c (.int .u8 (.ofNat 41))])]))) (Kr [Ko 95 (.bin .eql 5 (Ki 9)), Km 94 95]
 (.cond 94 (.reg [Km 96 0, Ko 97 (.nck 96), Ko 98 (.fa 0 97), Ko 99 (.call 36 [98, (.c (.str [35, 33, 101, 111, 102]))])]) (Kr [Ko 101 (.bin .eql 5 (Ki 10)), Km 100 101]
 (.cond 100 (.reg [Km 102 0, Ko 103 (.nck 102), Ko 104 (.fa 0 103), Ko 105 (.call 36 [104, (.c (.str [35, 33, 110, 111, 110, 101]))])]) (.reg [Km 6 0, Ko 7 (.ldn 5 3), Ko 8 (.call 43 [6, 7])]))))))))))))))))))))))⟩
def f21 : IFunc := ⟨14, [.t 2], (Kr [Ko 2 (.mv (.c (.str [])))]
 (.seq (.regd [Kd 3 (.mv (.t 0)) 0, Kd 4 (.nck (.t 3)) 1, Kd 5 (.fa 1 (.t 4)) 3, Kd 6 (.ld (.t 5)) 7, Kd 7 (.usd (.t 6)) 15, Kd 8 (.mv (.t 0)) 0, Kd 9 (.nck (.t 8)) 32, Kd 10 (.fa 1 (.t 9)) 96, Kd 11 (.ld (.t 10)) 224, Kd 12 (.len .v (.t 11)) 480, Kd 13 (.ust 5 (.t 7) (.t 12)) 1023, Kd 2 (.mv (.t 13)) 2047])
 .ret))⟩
def f23 : IFunc := ⟨12, [.t 2], (Kr [Ko 1 (.box 24 (.t 0)), Km 2 KF]
 (Kr [Ko 3 (.fa 0 (.t 1)), Ko 4 (.ld (.t 3)), Ko 5 (.bin .eql (.t 4) (Ki 6)), Km 6 (.t 5), Kg 7 (.fa 3 (.t 1)) 6 true, Kg 8 (.ld (.t 7)) 6 true, Kg 9 (.len .v (.t 8)) 6 true, Kg 10 (.bin .eql (.t 9) (Ki 2)) 6 true, Ko 11 (.pick (.t 6) (.t 10) KF), Km 2 (.t 11)]
 .ret))⟩
def f24 : IFunc := ⟨9, [.t 4], (Kr [Km 4 KF]
 (Kr [Km 5 (.t 0), Km 6 (.t 1), Ko 7 (.call 49 [.t 5, .t 6]), Ko 8 (.bin .geq (.t 7) (Ki 0)), Km 4 (.t 8)]
 .ret))⟩
def f25 : IFunc := ⟨6, [.t 2], (Kr [Ko 1 (.box 24 (.t 0)), Km 2 KF]
 (Kr [Ko 3 (.ldn 5 (.t 1)), Ko 4 (.call 11 [.t 3]), Ko 5 (.un .not (.t 4)), Km 2 (.t 5)]
 .ret))⟩
def f26 : IFunc := ⟨53, [.t 2], (Kr [Ko 1 (.box 24 (.t 0)), Km 2 KF]
 (.seq (Kr [Ko 5 (.fa 0 (.t 1)), Ko 6 (.ld (.t 5))]
 (.block 0 (.seq (Kr [Ko 8 (.bin .eql (.t 6) (Ki 0)), Km 7 (.t 8)]
 (.cond (.t 7) .skip (Kr [Ko 9 (.bin .eql (.t 6) (Ki 8)), Km 7 (.t 9)]
 (.cond (.t 7) .skip (Kr [Ko 10 (.bin .eql (.t 6) (Ki 9)), Km 7 (.t 10)]
 (.cond (.t 7) .skip (.reg [Ko 11 (.bin .eql (.t 6) (Ki 10)), Km 7 (.t 11)])))))))
 (.cond (.t 7) (Kr [Km 2 KT]
 .ret) (Kr [Ko 13 (.bin .eql (.t 6) (Ki 1)), Km 12 (.t 13)]
 (.cond (.t 12) (Kr [Ko 14 (.fa 1 (.t 1)), Ko 15 (.ld (.t 14)), Ko 16 (.bin .eql (.t 15) (Ki 0)), Km 17 (.t 16), Kg 18 (.fa 1 (.t 1)) 17 false, Kg 19 (.ld (.t 18)) 17 false, Kg 20 (.bin .eql (.t 19) (Ki 1)) 17 false, Ko 21 (.pick (.t 17) KT (.t 20)), Km 2 (.t 21)]
 .ret) (Kr [Ko 23 (.bin .eql (.t 6) (Ki 2)), Km 22 (.t 23)]
 (.cond (.t 22) (Kr [Ko 24 (.fa 2 (.t 1)), Ko 25 (.ld (.t 24)), Ko 26 (.call 50 [.t 25]), Km 2 (.t 26)]
 .ret) (Kr [Ko 28 (.bin .eql (.t 6) (Ki 3)), Km 27 (.t 28)]
 (.cond (.t 27) (Kr [Ko 29 (.fa 1 (.t 1)), Ko 30 (.ld (.t 29)), Ko 31 (.call 51 [.t 30]), Km 2 (.t 31)]
 .ret) (.seq (Kr [Ko 33 (.bin .eql (.t 6) (Ki 4)), Km 32 (.t 33)]
 (.cond (.t 32) .skip (.reg [Ko 34 (.bin .eql (.t 6) (Ki 5)), Km 32 (.t 34)])))
 (.cond (.t 32) (Kr [Ko 36 (.fa 2 (.t 1)), Ko 37 (.ld (.t 36)), Ko 38 (.call 52 [.t 37]), Km 35 (.t 38), Ko 39 (.ex (.t 35) 0), Ko 40 (.ex (.t 35) 1), Km 3 (.t 39), Km 4 (.t 40)]
 (Kr [Km 41 (.t 4), Ko 42 (.bin .eql (.t 41) (Ki 0)), Km 43 (.t 42), Kg 44 (.fa 0 (.t 1)) 43 true, Kg 45 (.ld (.t 44)) 43 true, Kg 46 (.bin .eql (.t 45) (Ki 4)) 43 true, Kg 47 (.mv (.t 46)) 43 true, Kg 48 (.fa 2 (.t 1)) 47 false, Kg 49 (.ld (.t 48)) 47 false, Kg 50 (.bin .neq (.t 49) (.c (.str []))) 47 false, Kg 51 (.pick (.t 47) KT (.t 50)) 43 true, Ko 52 (.pick (.t 43) (.t 51) KF), Km 2 (.t 52)]
 .ret)) .skip))))))))))))
 (Kr [Km 2 KF]
 .ret)))⟩
def f27 : IFunc := ⟨27, [.t 2, .cn 3 5], (Kr [Ko 1 (.box 24 0), Km 2 (.c .nils), Ko 3 (.alloc 24 [Kv 0, Kv 0, (.str []), .nils, Kv 0])]
 (Kr [Km 4 (.c .nils)]
 (.seq (.block 0 (.loop (.seq (Kr [Ko 5 (.fa 0 1), Ko 6 (.ld 5), Ko 7 (.bin .eql 6 (Ki 6)), Km 8 7, Kg 9 (.fa 3 1) 8 true, Kg 10 (.ld 9) 8 true, Kg 11 (.len .v 10) 8 true, Kg 12 (.bin .eql 11 (Ki 2)) 8 true, Ko 13 (.pick 8 12 KF)]
 (.cond 13 .skip (.exit 0)))
 (.block 1 (Kr [Km 14 4, Ko 15 (.fa 3 1), Ko 16 (.ld 15), Ko 17 (.ia 5 16 (Ki 0)), Ko 18 (.ldn 5 17), Ko 19 (.bsl 24 [Kv 0, Kv 0, (.str []), .nils, Kv 0] 1 [(0, 5, 18)]), Ko 20 (.app 24 5 64 14 19), Km 4 20]
 (.reg [Ko 21 (.fa 3 1), Ko 22 (.ld 21), Ko 23 (.ia 5 22 (Ki 1)), Ko 24 (.ldn 5 23), Kn (.st 5 1 24)]))))))
 (.seq (.regd [Kd 25 (.mv 4) 0, Kd 26 (.ldn 5 1) 0, Kd 2 (.mv 25) 1, Kf (.st 5 3 26) 7])
 .ret))))⟩
def f31 : IFunc := ⟨32, [.t 6], (Kr [Km 6 KF]
 (.seq (Kr [Km 10 0, Ko 11 (.len .v 10), Km 12 1, Ko 13 (.len .v 12), Ko 14 (.bin .neq 11 13)]
 (.cond 14 (Kr [Km 6 KF]
 .ret) .skip))
 (.seq (Kr [Km 15 0, Ko 16 (.len .v 15), Km 17 (Ki 0)]
 (.block 0 (.loop (Kr [Ko 18 (.bin .lss 17 16)]
 (.seq (.cond 18 .skip (.exit 0))
 (.seq (.block 1 (Kr [Km 19 17, Ko 20 (.ia 5 15 17), Ko 21 (.ldn 5 20), Ko 8 (.alloc 24 [Kv 0, Kv 0, (.str []), .nils, Kv 0]), Km 7 19, Kn (.st 5 8 21)]
 (Kr [Km 22 1, Km 23 7, Ko 24 (.ia 5 22 23), Ko 25 (.ldn 5 24), Ko 9 (.alloc 24 [Kv 0, Kv 0, (.str []), .nils, Kv 0]), Kn (.st 5 9 25)]
 (Kr [Km 26 2, Ko 27 (.ldn 5 8), Ko 28 (.ldn 5 9), Ko 29 (.cv 26 [27, 28]), Ko 30 (.un .not 29)]
 (.cond 30 (Kr [Km 6 KF]
 .ret) .skip)))))
 (.reg [Ko 31 (.bin .add 17 (Ki 1)), Km 17 31])))))))
 (Kr [Km 6 KT]
 .ret))))⟩
def f32 : IFunc := ⟨96, [.cn 6 5], (Kr [Ko 6 (.alloc 24 [Kv 0, Kv 0, (.str []), .nils, Kv 0])]
 (Kr [Km 15 0, Ko 16 (.call 54 [15]), Km 14 16, Ko 17 (.ex 14 0), Ko 18 (.ex 14 1), Ko 7 (.alloc 44 [Kv 0, Kv 0, Kv 0, Kv 0, (.str []), .nils, Kv 0]), Kn (.st 7 7 17), Km 8 18]
 (.seq (Kr [Km 19 8, Ko 20 (.un .not 19)]
 (.cond 20 (Kr [Km 21 0, Km 22 2, Ko 23 (.call 55 [21, Ki 7, 22]), Kn (.st 5 6 23)]
 .ret) .skip))
 (Kr [Km 24 0, Ko 25 (.nck 24), Ko 26 (.fa 1 25), Ko 27 (.ld 26), Ko 28 (.bin .add 27 (Ki 1)), Ko 29 (.nck 24), Ko 30 (.fa 1 29), Kn (.st 1 30 28)]
 (.seq (Kr [Ko 31 (.fa 0 7), Ko 32 (.ld 31)]
 (.block 0 (Kr [Ko 34 (.bin .eql 32 (Ki 7)), Km 33 34]
 (.cond 33 (Kr [Ko 35 (.fa 2 7), Ko 36 (.ldn 5 35), Kn (.st 5 6 36)]
 .ret) (.seq (Kr [Ko 38 (.bin .eql 32 (Ki 2)), Km 37 38]
 (.cond 37 .skip (.reg [Ko 39 (.bin .eql 32 (Ki 6)), Km 37 39])))
 (.cond 37 (Kr [Km 40 0, Ko 41 (.fa 1 7), Ko 42 (.ld 41), Ko 43 (.call 55 [40, Ki 7, 42]), Kn (.st 5 6 43)]
 .ret) .skip))))))
 (.seq (Kr [Km 44 1, Ko 45 (.bin .geq 44 (Ki 200))]
 (.cond 45 (Kr [Km 46 0, Ko 47 (.fa 1 7), Ko 48 (.ld 47), Ko 49 (.call 55 [46, Ki 5, 48]), Kn (.st 5 6 49)]
 .ret) .skip))
 (.seq (Kr [Ko 50 (.fa 0 7), Ko 51 (.ld 50)]
 (.block 1 (Kr [Ko 53 (.bin .eql 51 (Ki 3)), Km 52 53]
 (.cond 52 (Kr [Km 54 0, Km 55 1, Ko 56 (.bin .add 55 (Ki 1)), Ko 57 (.fa 1 7), Ko 58 (.ld 57), Ko 59 (.call 32 [54, 56, 58]), Ko 9 (.alloc 24 [Kv 0, Kv 0, (.str []), .nils, Kv 0]), Kn (.st 5 9 59)]
 (Kr [Ko 60 (.fa 4 9), Ko 61 (.ld 60), Ko 62 (.build [Kv 0, Kv 0, (.str []), .nils, Kv 0] [(4, 1, 61)]), Ko 10 (.alloc 24 [Kv 0, Kv 0, (.str []), .nils, Kv 0]), Kn (.st 5 10 62)]
 (Kr [Ko 63 (.fa 1 7), Ko 64 (.ld 63), Ko 65 (.build [Kv 0, Kv 0, (.str []), .nils, Kv 0] [(0, 1, (Ki 5)), (2, 1, (.c (.str [113, 117, 111, 116, 101]))), (4, 1, 64)]), Ko 11 (.alloc 24 [Kv 0, Kv 0, (.str []), .nils, Kv 0]), Kn (.st 5 11 65)]
 (Kr [Ko 66 (.ldn 5 11), Ko 67 (.ldn 5 9), Ko 68 (.bsl 24 [Kv 0, Kv 0, (.str []), .nils, Kv 0, Kv 0, Kv 0, (.str []), .nils, Kv 0] 2 [(0, 5, 66), (5, 5, 67)]), Ko 69 (.ldn 5 10), Ko 70 (.call 56 [68, 69]), Kn (.st 5 6 70)]
 .ret)))) (Kr [Ko 72 (.bin .eql 51 (Ki 1)), Km 71 72]
 (.cond 71 (Kr [Km 73 0, Km 74 1, Ko 75 (.fa 1 7), Ko 76 (.ld 75), Ko 77 (.call 57 [73, 74, 76]), Kn (.st 5 6 77)]
 .ret) (Kr [Ko 79 (.bin .eql 51 (Ki 4)), Km 78 79]
 (.cond 78 (Kr [Km 81 0, Km 82 1, Ko 83 (.fa 1 7), Ko 84 (.ld 83), Ko 85 (.call 58 [81, 82, 84, .c (.bool false)]), Km 80 85, Ko 86 (.ex 80 0), Ko 87 (.ex 80 1), Ko 13 (.alloc 44 [Kv 0, Kv 0, Kv 0, Kv 0, (.str []), .nils, Kv 0]), Km 12 86, Kn (.st 7 13 87)]
 (Kr [Km 88 12, Ko 89 (.fa 1 7), Ko 90 (.ld 89), Ko 91 (.build [Kv 0, Kv 0, (.str []), .nils, Kv 0] [(0, 1, (Ki 7)), (3, 1, 88), (4, 1, 90)]), Kn (.st 5 6 91)]
 .ret)) .skip))))))))
 (Kr [Km 92 0, Ko 93 (.fa 1 7), Ko 94 (.ld 93), Ko 95 (.call 59 [92, 94]), Kn (.st 5 6 95)]
 .ret))))))))⟩
def f33 : IFunc := ⟨13, [.t 2], (Kr [Km 2 KF]
 (.seq (.regd [Kd 3 (.mv (.t 0)) 0, Kd 4 (.nck (.t 3)) 1, Kd 5 (.fa 1 (.t 4)) 3, Kd 6 (.ld (.t 5)) 7, Kd 7 (.mv (.t 0)) 0, Kd 8 (.nck (.t 7)) 16, Kd 9 (.fa 0 (.t 8)) 48, Kd 10 (.ld (.t 9)) 112, Kd 11 (.len .v (.t 10)) 240, Kd 12 (.bin .geq (.t 6) (.t 11)) 511, Kd 2 (.mv (.t 12)) 1023])
 .ret))⟩
def f34 : IFunc := ⟨126, [.cn 2 7, .cn 3 2], (Kr [Ko 2 (.alloc 44 [Kv 0, Kv 0, Kv 0, Kv 0, (.str []), .nils, Kv 0]), Ko 3 (.alloc 34 [Kv 0, Kv 0])]
 (.seq (.regd [Kd 8 (.mv 0) 0, Kd 9 (.nck 8) 1, Kd 10 (.fa 1 9) 3, Kd 11 (.ld 10) 7, Kd 12 (.mv 0) 0, Kd 13 (.nck 12) 16, Kd 14 (.fa 0 13) 48, Kd 15 (.ld 14) 112, Kd 16 (.mv 0) 0, Kd 17 (.nck 16) 256, Kd 18 (.fa 1 17) 768, Kd 19 (.ld 18) 1792, Kd 20 (.ia 1 15 19) 4080, Kd 21 (.ld 20) 8176, Kd 4 (.mv 11) 15, Kd 5 (.mv 21) 32767])
 (Kr [Km 6 KF]
 (.seq (.block 0 (Kr [Km 25 5, Ko 26 (.call 60 [25]), Km 24 26]
 (.cond 24 (.reg [Km 27 0, Ko 28 (.nck 27), Ko 29 (.fa 1 28), Ko 30 (.ld 29), Ko 31 (.bin .add 30 (Ki 1)), Ko 32 (.nck 27), Ko 33 (.fa 1 32), Kn (.st 1 33 31)]) (Kr [Km 35 5, Ko 36 (.bin .eql 35 (Kj 59)), Km 34 36]
 (.cond 34 (.reg [Km 37 0, Ko 38 (.call 61 [37]), Kn (.st 2 3 38)]) (Kr [Km 40 0, Ko 41 (.call 62 [40, (.c (.str [35, 124]))]), Km 39 41]
 (.cond 39 (.reg [Km 42 0, Ko 43 (.call 63 [42]), Kn (.st 2 3 43)]) (.seq (Kr [Km 45 5, Ko 46 (.bin .eql 45 (Kj 40)), Km 44 46]
 (.cond 44 .skip (Kr [Km 47 5, Ko 48 (.bin .eql 47 (Kj 41)), Km 44 48]
 (.cond 44 .skip (.reg [Km 49 5, Ko 50 (.bin .eql 49 (Kj 39)), Km 44 50])))))
 (.cond 44 (Kr [Km 51 0, Ko 52 (.nck 51), Ko 53 (.fa 1 52), Ko 54 (.ld 53), Ko 55 (.bin .add 54 (Ki 1)), Ko 56 (.nck 51), Ko 57 (.fa 1 56), Kn (.st 1 57 55)]
 (.reg [Km 58 5, Ko 59 (.call 64 [(.c (.str [40, 41, 39])), 58]), Ko 60 (.bin .add (Ki 1) 59), Km 61 4, Ko 62 (.build [Kv 0, Kv 0, Kv 0, Kv 0, (.str []), .nils, Kv 0] [(0, 1, 60), (1, 1, 61)]), Kn (.st 7 2 62)])) (Kr [Km 64 5, Ko 65 (.bin .eql 64 (Kj 34)), Km 63 65]
 (.cond 63 (Kr [Ko 7 (.mv (.c (.str [])))]
 (Kr [Km 67 0, Ko 68 (.call 65 [67]), Km 66 68, Ko 69 (.ex 66 0), Ko 70 (.ex 66 1), Km 7 69, Kn (.st 2 3 70)]
 (.reg [Km 71 4, Km 72 7, Km 73 4, Ko 74 (.build [Kv 0, Kv 0, (.str []), .nils, Kv 0] [(0, 1, (Ki 4)), (2, 1, 72), (4, 1, 73)]), Ko 75 (.build [Kv 0, Kv 0, Kv 0, Kv 0, (.str []), .nils, Kv 0] [(0, 1, (Ki 7)), (1, 1, 71), (2, 5, 74)]), Kn (.st 7 2 75)]))) (Kr [Km 77 5, Ko 78 (.bin .eql 77 (Kj 35)), Km 76 78]
 (.cond 76 (Kr [Km 80 0, Ko 81 (.call 66 [80]), Km 79 81, Ko 82 (.ex 79 0), Ko 83 (.ex 79 1), Kn (.st 7 2 82), Kn (.st 2 3 83)]
 (.reg [Ko 84 (.fa 0 2), Ko 85 (.ld 84), Ko 86 (.bin .eql 85 (Ki 7)), Km 6 86])) (Kr [Km 88 5, Ko 89 (.call 67 [88]), Km 87 89]
 (.cond 87 (Kr [Km 90 0, Ko 91 (.call 69 [90]), Km 92 4, Ko 93 (.call 68 [91, 92]), Kn (.st 7 2 93)]
 (.reg [Km 6 KT])) (.reg [Km 22 4, Ko 23 (.call 70 [22]), Kn (.st 2 3 23)]))))))))))))))))
 (.seq (.seq (.regd [Kd 94 (.fa 0 3) 0, Kd 95 (.ld 94) 1, Kd 96 (.bin .eql 95 (Ki 0)) 3, Kd 97 (.mv 96) 7, Ke 98 (.mv 6) 97 true 15, Kd 99 (.pick 97 98 KF) 31, Kd 100 (.mv 99) 63, Ke 101 (.mv 0) 100 true 127, Ke 102 (.call 33 [101]) 100 true 255, Ke 103 (.un .not 102) 100 true 511, Kd 104 (.pick 100 103 KF) 1023, Kd 105 (.mv 104) 2047, Ke 106 (.mv 0) 105 true 4095, Ke 107 (.nck 106) 105 true 8191, Ke 108 (.fa 0 107) 105 true 16383, Ke 109 (.ld 108) 105 true 32767, Ke 110 (.mv 0) 105 true 4095, Ke 111 (.nck 110) 105 true 69631, Ke 112 (.fa 1 111) 105 true 200703, Ke 113 (.ld 112) 105 true 462847, Ke 114 (.ia 1 109 113) 105 true 1048575, Ke 115 (.ld 114) 105 true 2097151, Ke 116 (.call 71 [115]) 105 true 4194303, Ke 117 (.un .not 116) 105 true 8388607, Kd 118 (.pick 105 117 KF) 16777215])
 (.cond 118 (.reg [Km 119 0, Ko 120 (.nck 119), Ko 121 (.fa 1 120), Ko 122 (.ld 121), Ko 123 (.call 70 [122]), Kn (.st 2 3 123)]) .skip))
 (.seq (.regd [Kd 124 (.ldn 7 2) 0, Kd 125 (.ldn 2 3) 0, Kf (.st 7 2 124) 1, Kf (.st 2 3 125) 7])
 .ret))))))⟩
def f35 : IFunc := ⟨2, [.cn 0 2], (Kr [Ko 0 (.alloc 34 [Kv 0, Kv 0])]
 (Kr [Ko 1 (.build [Kv 0, Kv 0] []), Kn (.st 2 (.t 0) (.t 1))]
 .ret))⟩
def f36 : IFunc := ⟨19, [.t 4, .t 5], (Kr [Km 4 (Ki 0), Km 5 (.c .nili)]
 (Kr [Km 6 (.t 0), Ko 7 (.call 72 [.t 6])]
 (Kr [Km 8 (.t 0), Km 9 (.t 0), Ko 10 (.nck (.t 9)), Ko 11 (.fa 1 (.t 10)), Ko 12 (.ld (.t 11)), Km 13 (.t 1), Ko 14 (.app 5 1 1 (.t 12) (.t 13)), Ko 15 (.nck (.t 8)), Ko 16 (.fa 1 (.t 15)), Kn (.st 1 (.t 16) (.t 14))]
 (Kr [Km 17 (.t 1), Ko 18 (.len .s (.t 17)), Km 4 (.t 18), Km 5 (.c .nili)]
 .ret))))⟩
def f37 : IFunc := ⟨25, [.t 2], (Kr [Ko 2 (.mv (.c (.str [])))]
 (.seq (.block 0 (Kr [Km 4 (.t 0), Ko 5 (.bin .eql (.t 4) (Ki 32)), Km 3 (.t 5)]
 (.cond (.t 3) (Kr [Ko 2 (.mv (.c (.str [115, 112, 97, 99, 101])))]
 .ret) (Kr [Km 7 (.t 0), Ko 8 (.bin .eql (.t 7) (Ki 10)), Km 6 (.t 8)]
 (.cond (.t 6) (Kr [Ko 2 (.mv (.c (.str [110, 101, 119, 108, 105, 110, 101])))]
 .ret) (Kr [Km 10 (.t 0), Ko 11 (.bin .eql (.t 10) (Ki 9)), Km 9 (.t 11)]
 (.cond (.t 9) (Kr [Ko 2 (.mv (.c (.str [116, 97, 98])))]
 .ret) (Kr [Km 13 (.t 0), Ko 14 (.bin .lss (.t 13) (Ki 32)), Km 15 (.t 14), Kg 16 (.mv (.t 0)) 15 false, Kg 17 (.bin .eql (.t 16) (Ki 127)) 15 false, Ko 18 (.pick (.t 15) KT (.t 17)), Km 12 (.t 18)]
 (.cond (.t 12) (Kr [Km 19 (.t 0), Ko 20 (.call 73 [.t 19, Ki 16]), Ko 21 (.bin .add (.c (.str [120])) (.t 20)), Km 2 (.t 21)]
 .ret) .skip)))))))))
 (Kr [Km 22 (.t 0), Ko 23 (.ci .i32 (.t 22)), Ko 24 (.cis (.t 23)), Km 2 (.t 24)]
 .ret)))⟩
def f38 : IFunc := ⟨30, [.t 4, .t 5], (Kr [Km 4 (Ki 0), Km 5 (.c .nili)]
 (Kr [Km 7 (.t 0), Ko 8 (.call 72 [.t 7])]
 (Kr [Km 9 (.t 0), Ko 10 (.nck (.t 9)), Ko 11 (.fa 1 (.t 10)), Ko 12 (.ld (.t 11)), Ko 13 (.len .v (.t 12)), Km 6 (.t 13)]
 (Kr [Km 14 (.t 0), Km 15 (.t 0), Ko 16 (.nck (.t 15)), Ko 17 (.fa 1 (.t 16)), Ko 18 (.ld (.t 17)), Km 19 (.t 1), Ko 20 (.call 74 [.t 18, .t 19]), Ko 21 (.nck (.t 14)), Ko 22 (.fa 1 (.t 21)), Kn (.st 1 (.t 22) (.t 20))]
 (Kr [Km 23 (.t 0), Ko 24 (.nck (.t 23)), Ko 25 (.fa 1 (.t 24)), Ko 26 (.ld (.t 25)), Ko 27 (.len .v (.t 26)), Km 28 (.t 6), Ko 29 (.bin .sub (.t 27) (.t 28)), Km 4 (.t 29), Km 5 (.c .nili)]
 .ret)))))⟩
def f39 : IFunc := ⟨34, [], (.seq (Kr [Km 6 0, Ko 7 (.nck 6), Ko 8 (.fa 2 7), Ko 9 (.ld 8)]
 (.cond 9 (Kr [Km 10 0, Ko 11 (.nck 10), Ko 12 (.fa 0 11), Km 13 1, Ko 14 (.call 36 [12, 13])]
 .ret) .skip))
 (Kr [Km 15 0, Ko 16 (.nck 15), Ko 17 (.fa 0 16), Ko 18 (.call 41 [17, .c (.int .u8 (.ofNat 34))])]
 (.seq (Kr [Km 19 1, Ko 20 (.rs 19)]
 (.block 0 (.loop (Kr [Ko 21 (.ns 20), Ko 22 (.ex 21 0)]
 (.seq (.cond 22 .skip (.exit 0))
 (.block 1 (Kr [Ko 23 (.ex 21 2), Km 5 23]
 (.regd [Kd 24 (.mv 0) 0, Kd 25 (.nck 24) 1, Kd 26 (.fa 0 25) 3, Kd 27 (.mv 5) 0, Kd 28 (.call 75 [27]) 8, Kd 29 (.call 36 [26, 28]) 31]))))))))
 (.reg [Km 30 0, Ko 31 (.nck 30), Ko 32 (.fa 0 31), Ko 33 (.call 41 [32, .c (.int .u8 (.ofNat 34))])]))))⟩
def f40 : IFunc := ⟨23, [], (Kr [Km 6 1, Ko 7 (.len .v 6), Km 8 (Ki 0)]
 (.block 0 (.loop (Kr [Ko 9 (.bin .lss 8 7)]
 (.seq (.cond 9 .skip (.exit 0))
 (.seq (.block 1 (Kr [Km 10 8, Ko 11 (.ia 5 6 8), Ko 12 (.ldn 5 11), Ko 5 (.alloc 24 [Kv 0, Kv 0, (.str []), .nils, Kv 0]), Km 4 10, Kn (.st 5 5 12)]
 (.seq (Kr [Km 13 4, Ko 14 (.bin .gtr 13 (Ki 0))]
 (.cond 14 (.reg [Km 15 0, Ko 16 (.nck 15), Ko 17 (.fa 0 16), Ko 18 (.call 41 [17, .c (.int .u8 (.ofNat 32))])]) .skip))
 (.reg [Km 19 0, Ko 20 (.ldn 5 5), Ko 21 (.call 20 [19, 20])]))))
 (.reg [Ko 22 (.bin .add 8 (Ki 1)), Km 8 22])))))))⟩
def f41 : IFunc := ⟨17, [.t 4], (Kr [Km 4 (.c .nili)]
 (Kr [Km 5 (.t 0), Ko 6 (.call 72 [.t 5])]
 (Kr [Km 7 (.t 0), Km 8 (.t 0), Ko 9 (.nck (.t 8)), Ko 10 (.fa 1 (.t 9)), Ko 11 (.ld (.t 10)), Km 12 (.t 1), Ko 13 (.bsl 5 [Kw 0] 1 [(0, 1, (.t 12))]), Ko 14 (.app 5 1 1 (.t 11) (.t 13)), Ko 15 (.nck (.t 7)), Ko 16 (.fa 1 (.t 15)), Kn (.st 1 (.t 16) (.t 14))]
 (Kr [Km 4 (.c .nili)]
 .ret))))⟩
def f42 : IFunc := ⟨21, [.t 2], (Kr [Km 2 (.c .nils)]
 (Kr [Km 3 (.c .nils)]
 (.seq (Kr [Km 5 0, Ko 6 (.len .s 5), Km 7 (Ki 0)]
 (.block 0 (.loop (Kr [Ko 8 (.bin .lss 7 6)]
 (.seq (.cond 8 .skip (.exit 0))
 (.seq (.block 1 (Kr [Km 9 7, Km 4 9]
 (.reg [Km 10 3, Km 11 0, Km 12 4, Ko 13 (.ixs 11 12), Ko 14 (.ci .i64 13), Ko 15 (.call 76 [14]), Ko 16 (.build [Kv 0, Kv 0, (.str []), .nils, Kv 0] [(0, 1, (Ki 2)), (2, 1, 15)]), Ko 17 (.bsl 24 [Kv 0, Kv 0, (.str []), .nils, Kv 0] 1 [(0, 5, 16)]), Ko 18 (.app 24 5 64 10 17), Km 3 18])))
 (.reg [Ko 19 (.bin .add 7 (Ki 1)), Km 7 19])))))))
 (Kr [Km 20 3, Km 2 20]
 .ret))))⟩
def f43 : IFunc := ⟨32, [], (Kr [Ko 3 (.box 24 (.t 1))]
 (Kr [Ko 7 (.ldn 5 (.t 3)), Ko 8 (.call 19 [.t 7]), Km 6 (.t 8), Ko 9 (.ex (.t 6) 0), Ko 10 (.ex (.t 6) 1), Ko 5 (.alloc 24 [Kv 0, Kv 0, (.str []), .nils, Kv 0]), Km 4 (.t 9), Kn (.st 5 (.t 5) (.t 10))]
 (Kr [Km 11 (.t 0), Ko 12 (.nck (.t 11)), Ko 13 (.fa 0 (.t 12)), Ko 14 (.call 41 [.t 13, .c (.int .u8 (.ofNat 40))])]
 (Kr [Km 15 (.t 0), Km 16 (.t 4), Ko 17 (.call 40 [.t 15, .t 16])]
 (.seq (Kr [Ko 18 (.fa 0 (.t 5)), Ko 19 (.ld (.t 18)), Ko 20 (.bin .neq (.t 19) (Ki 0))]
 (.cond (.t 20) (Kr [Km 21 (.t 0), Ko 22 (.nck (.t 21)), Ko 23 (.fa 0 (.t 22)), Ko 24 (.call 36 [(.t 23), (.c (.str [32, 46, 32]))])]
 (.reg [Km 25 (.t 0), Ko 26 (.ldn 5 (.t 5)), Ko 27 (.call 20 [.t 25, .t 26])])) .skip))
 (.reg [Km 28 (.t 0), Ko 29 (.nck (.t 28)), Ko 30 (.fa 0 (.t 29)), Ko 31 (.call 41 [.t 30, .c (.int .u8 (.ofNat 41))])]))))))⟩
def f49 : IFunc := ⟨19, [.t 4], (Kr [Km 4 (Ki 0)]
 (.seq (Kr [Km 6 0, Ko 7 (.len .v 6), Km 8 (Ki 0)]
 (.block 0 (.loop (Kr [Ko 9 (.bin .lss 8 7)]
 (.seq (.cond 9 .skip (.exit 0))
 (.seq (.block 1 (Kr [Km 10 8, Km 5 10]
 (Kr [Km 11 1, Km 12 0, Km 13 5, Ko 14 (.ia 5 12 13), Ko 15 (.ldn 5 14), Ko 16 (.cv 11 [15])]
 (.cond 16 (Kr [Km 17 5, Km 4 17]
 .ret) .skip))))
 (.reg [Ko 18 (.bin .add 8 (Ki 1)), Km 8 18])))))))
 (Kr [Ko 4 (.mv (.c (.int .i64 (.negSucc 0))))]
 .ret)))⟩
def f50 : IFunc := ⟨20, [.t 2], (Kr [Km 2 KF]
 (Kr [Km 4 0, Ko 5 (.call 79 [4, (.c (.str [45]))]), Km 3 5]
 (.seq (Kr [Km 6 3, Ko 7 (.bin .eql 6 (.c (.str []))), Km 8 7, Kg 9 (.mv 3) 8 false, Kg 10 (.ixs 9 (Ki 0)) 8 false, Kg 11 (.bin .eql 10 (Kj 48)) 8 false, Kg 12 (.mv 11) 8 false, Kg 13 (.mv 0) 12 true, Kg 14 (.bin .neq 13 (.c (.str [48]))) 12 true, Kg 15 (.pick 12 14 KF) 8 false, Ko 16 (.pick 8 KT 15)]
 (.cond 16 (Kr [Km 2 KF]
 .ret) .skip))
 (Kr [Km 17 3, Ko 18 (.call 80 [17, (.c (.fn 81 [] []))]), Ko 19 (.un .not 18), Km 2 19]
 .ret))))⟩
def f51 : IFunc := ⟨14, [.t 2], (Kr [Km 2 KF]
 (Kr [Km 3 0, Ko 4 (.bin .geq 3 (Ki 0)), Km 5 4, Kg 6 (.mv 0) 5 true, Kg 7 (.bin .leq 6 (Ki 1114111)) 5 true, Ko 8 (.pick 5 7 KF), Km 9 8, Kg 10 (.mv 0) 9 true, Kg 11 (.ci .i32 10) 9 true, Kg 12 (.call 82 [11]) 9 true, Ko 13 (.pick 9 12 KF), Km 2 13]
 .ret))⟩
def f52 : IFunc := ⟨33, [.t 2, .t 3], (Kr [Km 2 (.c .nils), Km 3 (Ki 0)]
 (Kr [Km 10 0, Ko 11 (.csb 5 10), Ko 12 (.call 83 [11]), Km 9 12, Ko 13 (.ex 9 0), Ko 14 (.ex 9 1), Ko 5 (.alloc 34 [Kv 0, Kv 0]), Km 4 13, Kn (.st 2 5 14)]
 (.seq (Kr [Ko 15 (.fa 0 5), Ko 16 (.ld 15), Ko 17 (.bin .neq 16 (Ki 0))]
 (.cond 17 (.seq (.regd [Kd 18 (.fa 0 5) 0, Kd 19 (.ld 18) 1, Kd 2 (.mv (.c .nils)) 0, Kd 3 (.mv 19) 7])
 .ret) .skip))
 (Kr [Km 6 (.c .nils)]
 (.seq (Kr [Km 20 4, Ko 21 (.len .v 20), Km 22 (Ki 0)]
 (.block 0 (.loop (Kr [Ko 23 (.bin .lss 22 21)]
 (.seq (.cond 23 .skip (.exit 0))
 (.seq (.block 1 (Kr [Ko 24 (.ia 2 20 22), Ko 25 (.ldn 2 24), Ko 8 (.alloc 120 [Kv 0, Kv 0]), Kn (.st 2 8 25)]
 (.reg [Km 26 6, Ko 27 (.fa 0 8), Ko 28 (.ld 27), Ko 29 (.bsl 3 [Kv 0] 1 [(0, 1, 28)]), Ko 30 (.app 3 1 8 26 29), Km 6 30])))
 (.reg [Ko 31 (.bin .add 22 (Ki 1)), Km 22 31])))))))
 (Kr [Km 32 6, Km 2 32, Km 3 (Ki 0)]
 .ret))))))⟩
def f54 : IFunc := ⟨25, [.cn 2 7, .t 3], (Kr [Ko 2 (.alloc 44 [Kv 0, Kv 0, Kv 0, Kv 0, (.str []), .nils, Kv 0]), Km 3 KF]
 (.seq (.seq (.regd [Kd 4 (.mv (.t 0)) 0, Kd 5 (.nck (.t 4)) 1, Kd 6 (.fa 1 (.t 5)) 3, Kd 7 (.ld (.t 6)) 7, Kd 8 (.mv (.t 0)) 0, Kd 9 (.nck (.t 8)) 16, Kd 10 (.fa 0 (.t 9)) 48, Kd 11 (.ld (.t 10)) 112, Kd 12 (.len .v (.t 11)) 240, Kd 13 (.bin .eql (.t 7) (.t 12)) 511])
 (.cond (.t 13) (Kr [Ko 14 (.build [Kv 0, Kv 0, Kv 0, Kv 0, (.str []), .nils, Kv 0] []), Kn (.st 7 (.t 2) (.t 14)), Km 3 KF]
 .ret) .skip))
 (.seq (.regd [Kd 15 (.mv (.t 0)) 0, Kd 16 (.nck (.t 15)) 1, Kd 17 (.fa 0 (.t 16)) 3, Kd 18 (.ld (.t 17)) 7, Kd 19 (.mv (.t 0)) 0, Kd 20 (.nck (.t 19)) 16, Kd 21 (.fa 1 (.t 20)) 48, Kd 22 (.ld (.t 21)) 112, Kd 23 (.ia 7 (.t 18) (.t 22)) 255, Kd 24 (.ldn 7 (.t 23)) 511, Kf (.st 7 (.t 2) (.t 24)) 1023, Kd 3 (.mv KT) 2047])
 .ret)))⟩
def f55 : IFunc := ⟨20, [.cn 6 5], (Kr [Ko 6 (.alloc 24 [Kv 0, Kv 0, (.str []), .nils, Kv 0])]
 (.seq (Kr [Km 7 (.t 0), Ko 8 (.nck (.t 7)), Ko 9 (.fa 2 (.t 8)), Ko 10 (.fa 0 (.t 9)), Ko 11 (.ld (.t 10)), Ko 12 (.bin .eql (.t 11) (Ki 0))]
 (.cond (.t 12) (.reg [Km 13 (.t 0), Km 14 (.t 1), Km 15 (.t 2), Ko 16 (.build [Kv 0, Kv 0] [(0, 1, (.t 14)), (1, 1, (.t 15))]), Ko 17 (.nck (.t 13)), Ko 18 (.fa 2 (.t 17)), Kn (.st 2 (.t 18) (.t 16))]) .skip))
 (Kr [Ko 19 (.build [Kv 0, Kv 0, (.str []), .nils, Kv 0] []), Kn (.st 5 (.t 6) (.t 19))]
 .ret)))⟩
def f56 : IFunc := ⟨18, [.cn 4 5], (Kr [Ko 3 (.box 24 (.t 1)), Ko 4 (.alloc 24 [Kv 0, Kv 0, (.str []), .nils, Kv 0])]
 (.seq (Kr [Km 7 (.t 0), Ko 8 (.call 85 [.t 7])]
 (.block 0 (.rf (.t 8) [9, 10] (.reg [Ko 6 (.alloc 24 [Kv 0, Kv 0, (.str []), .nils, Kv 0]), Kn (.st 5 (.t 6) (.t 10))]) (.block 1 (.reg [Ko 11 (.ldn 5 (.t 6)), Ko 12 (.ldn 5 (.t 3)), Ko 13 (.bsl 24 [Kv 0, Kv 0, (.str []), .nils, Kv 0, Kv 0, Kv 0, (.str []), .nils, Kv 0] 2 [(0, 5, (.t 11)), (5, 5, (.t 12))]), Ko 14 (.fa 4 (.t 6)), Ko 15 (.ld (.t 14)), Ko 16 (.build [Kv 0, Kv 0, (.str []), .nils, Kv 0] [(0, 1, (Ki 6)), (3, 1, (.t 13)), (4, 1, (.t 15))]), Kn (.st 5 (.t 3) (.t 16))])))))
 (Kr [Ko 17 (.ldn 5 (.t 3)), Kn (.st 5 (.t 4) (.t 17))]
 .ret)))⟩
def f57 : IFunc := ⟨63, [.cn 6 5], (Kr [Ko 6 (.alloc 24 [Kv 0, Kv 0, (.str []), .nils, Kv 0])]
 (Kr [Km 14 (.t 0), Km 15 (.t 1), Km 16 (.t 2), Ko 17 (.call 58 [.t 14, .t 15, .t 16, .c (.bool true)]), Km 13 (.t 17), Ko 18 (.ex (.t 13) 0), Ko 19 (.ex (.t 13) 1), Ko 8 (.alloc 44 [Kv 0, Kv 0, Kv 0, Kv 0, (.str []), .nils, Kv 0]), Km 7 (.t 18), Kn (.st 7 (.t 8) (.t 19))]
 (Kr [Ko 20 (.fa 1 (.t 8)), Ko 21 (.ld (.t 20)), Ko 22 (.build [Kv 0, Kv 0, (.str []), .nils, Kv 0] [(4, 1, (.t 21))]), Ko 9 (.alloc 24 [Kv 0, Kv 0, (.str []), .nils, Kv 0]), Kn (.st 5 (.t 9) (.t 22))]
 (.seq (Kr [Ko 23 (.fa 0 (.t 8)), Ko 24 (.ld (.t 23)), Ko 25 (.bin .eql (.t 24) (Ki 6))]
 (.cond (.t 25) (Kr [Km 26 (.t 0), Km 27 (.t 1), Ko 28 (.bin .add (.t 27) (Ki 1)), Km 29 (.t 2), Ko 30 (.call 32 [.t 26, .t 28, .t 29]), Kn (.st 5 (.t 9) (.t 30))]
 (Kr [Km 32 (.t 0), Ko 33 (.call 54 [.t 32]), Km 31 (.t 33), Ko 34 (.ex (.t 31) 0), Ko 35 (.ex (.t 31) 1), Ko 10 (.alloc 44 [Kv 0, Kv 0, Kv 0, Kv 0, (.str []), .nils, Kv 0]), Kn (.st 7 (.t 10) (.t 34)), Km 11 (.t 35)]
 (.seq (.block 0 (Kr [Km 37 (.t 11), Ko 38 (.un .not (.t 37)), Km 36 (.t 38)]
 (.cond (.t 36) (Kr [Km 39 (.t 0), Km 40 (.t 2), Ko 41 (.call 55 [.t 39, Ki 7, .t 40]), Kn (.st 5 (.t 6) (.t 41))]
 .ret) (Kr [Ko 43 (.fa 0 (.t 10)), Ko 44 (.ld (.t 43)), Ko 45 (.bin .neq (.t 44) (Ki 2)), Km 42 (.t 45)]
 (.cond (.t 42) (Kr [Km 46 (.t 0), Ko 47 (.fa 1 (.t 10)), Ko 48 (.ld (.t 47)), Ko 49 (.call 55 [.t 46, Ki 7, .t 48]), Kn (.st 5 (.t 6) (.t 49))]
 .ret) .skip)))))
 (.reg [Km 50 (.t 0), Ko 51 (.nck (.t 50)), Ko 52 (.fa 1 (.t 51)), Ko 53 (.ld (.t 52)), Ko 54 (.bin .add (.t 53) (Ki 1)), Ko 55 (.nck (.t 50)), Ko 56 (.fa 1 (.t 55)), Kn (.st 1 (.t 56) (.t 54))])))) .skip))
 (Kr [Km 57 (.t 7), Ko 58 (.ldn 5 (.t 9)), Ko 59 (.call 56 [.t 57, .t 58]), Ko 12 (.alloc 24 [Kv 0, Kv 0, (.str []), .nils, Kv 0]), Kn (.st 5 (.t 12) (.t 59))]
 (Kr [Km 60 (.t 2), Ko 61 (.fa 4 (.t 12)), Kn (.st 1 (.t 61) (.t 60))]
 (Kr [Ko 62 (.ldn 5 (.t 12)), Kn (.st 5 (.t 6) (.t 62))]
 .ret)))))))⟩
def f58 : IFunc := ⟨62, [.t 8, .cn 9 7], (Kr [Km 8 (.c .nils), Ko 9 (.alloc 44 [Kv 0, Kv 0, Kv 0, Kv 0, (.str []), .nils, Kv 0])]
 (Kr [Km 10 (.c .nils)]
 (.seq (.block 0 (.loop (.seq (Kr [Km 13 0, Ko 14 (.nck 13), Ko 15 (.fa 2 14), Ko 16 (.fa 0 15), Ko 17 (.ld 16), Ko 18 (.bin .eql 17 (Ki 0))]
 (.cond 18 .skip (.exit 0)))
 (.block 1 (Kr [Km 20 0, Ko 21 (.call 54 [20]), Km 19 21, Ko 22 (.ex 19 0), Ko 23 (.ex 19 1), Ko 11 (.alloc 44 [Kv 0, Kv 0, Kv 0, Kv 0, (.str []), .nils, Kv 0]), Kn (.st 7 11 22), Km 12 23]
 (.seq (Kr [Km 24 12, Km 25 24, Kg 26 (.fa 0 11) 25 true, Kg 27 (.ld 26) 25 true, Kg 28 (.bin .eql 27 (Ki 2)) 25 true, Kg 29 (.mv 28) 25 true, Kg 30 (.fa 0 11) 29 false, Kg 31 (.ld 30) 29 false, Kg 32 (.bin .eql 31 (Ki 6)) 29 false, Kg 33 (.mv 32) 29 false, Kg 34 (.mv 10) 33 true, Kg 35 (.len .v 34) 33 true, Kg 36 (.bin .gtr 35 (Ki 0)) 33 true, Kg 37 (.pick 33 36 KF) 29 false, Kg 38 (.mv 37) 29 false, Kg 39 (.mv 3) 38 true, Kg 40 (.pick 38 39 KF) 29 false, Kg 41 (.pick 29 KT 40) 25 true, Ko 42 (.pick 25 41 KF)]
 (.cond 42 (Kr [Km 43 0, Ko 44 (.nck 43), Ko 45 (.fa 1 44), Ko 46 (.ld 45), Ko 47 (.bin .add 46 (Ki 1)), Ko 48 (.nck 43), Ko 49 (.fa 1 48), Kn (.st 1 49 47)]
 (.seq (.regd [Kd 50 (.mv 10) 0, Kd 51 (.ldn 7 11) 0, Kd 8 (.mv 50) 1, Kf (.st 7 9 51) 7])
 .ret)) .skip))
 (.reg [Km 52 10, Km 53 0, Km 54 1, Ko 55 (.bin .add 54 (Ki 1)), Km 56 2, Ko 57 (.call 32 [53, 55, 56]), Ko 58 (.bsl 24 [Kv 0, Kv 0, (.str []), .nils, Kv 0] 1 [(0, 5, 57)]), Ko 59 (.app 24 5 64 52 58), Km 10 59])))))))
 (Kr [Km 60 10, Ko 61 (.build [Kv 0, Kv 0, Kv 0, Kv 0, (.str []), .nils, Kv 0] []), Km 8 60, Kn (.st 7 9 61)]
 .ret))))⟩
def f59 : IFunc := ⟨80, [.cn 4 5], (Kr [Ko 4 (.alloc 24 [Kv 0, Kv 0, (.str []), .nils, Kv 0])]
 (Kr [Km 5 (.c .nils)]
 (.block 0 (.loop (.block 1 (Kr [Km 11 0, Ko 12 (.call 54 [11]), Km 10 12, Ko 13 (.ex 10 0), Ko 14 (.ex 10 1), Ko 6 (.alloc 44 [Kv 0, Kv 0, Kv 0, Kv 0, (.str []), .nils, Kv 0]), Kn (.st 7 6 13), Km 7 14]
 (.seq (.block 2 (Kr [Km 16 7, Ko 17 (.un .not 16), Km 15 17]
 (.cond 15 (Kr [Km 18 0, Km 19 1, Ko 20 (.call 55 [18, Ki 7, 19]), Kn (.st 5 4 20)]
 .ret) (Kr [Ko 22 (.fa 0 6), Ko 23 (.ld 22), Ko 24 (.bin .eql 23 (Ki 2)), Km 21 24]
 (.cond 21 (Kr [Km 25 0, Ko 26 (.nck 25), Ko 27 (.fa 1 26), Ko 28 (.ld 27), Ko 29 (.bin .add 28 (Ki 1)), Ko 30 (.nck 25), Ko 31 (.fa 1 30), Kn (.st 1 31 29)]
 (Kr [Km 32 5, Ko 33 (.cbs 32), Km 34 1, Ko 35 (.build [Kv 0, Kv 0, (.str []), .nils, Kv 0] [(0, 1, (Ki 8)), (2, 1, 33), (4, 1, 34)]), Kn (.st 5 4 35)]
 .ret)) .skip)))))
 (Kr [Ko 37 (.fa 2 6), Ko 38 (.fa 2 37), Ko 39 (.ld 38), Ko 40 (.call 86 [39]), Km 36 40, Ko 41 (.ex 36 0), Ko 42 (.ex 36 1), Km 8 41, Km 9 42]
 (.seq (Kr [Ko 43 (.fa 0 6), Ko 44 (.ld 43), Ko 45 (.bin .neq 44 (Ki 7)), Km 46 45, Kg 47 (.fa 2 6) 46 false, Kg 48 (.fa 0 47) 46 false, Kg 49 (.ld 48) 46 false, Kg 50 (.bin .neq 49 (Ki 2)) 46 false, Ko 51 (.pick 46 KT 50), Km 52 51, Kg 53 (.mv 9) 52 false, Kg 54 (.eqk .ifacec true 53 (.c .nili)) 52 false, Ko 55 (.pick 52 KT 54), Km 56 55, Kg 57 (.mv 8) 56 false, Kg 58 (.bin .lss 57 (Ki 0)) 56 false, Ko 59 (.pick 56 KT 58), Km 60 59, Kg 61 (.mv 8) 60 false, Kg 62 (.bin .gtr 61 (Ki 255)) 60 false, Ko 63 (.pick 60 KT 62)]
 (.cond 63 (Kr [Km 64 0, Ko 65 (.fa 1 6), Ko 66 (.ld 65), Ko 67 (.call 55 [64, Ki 7, 66]), Kn (.st 5 4 67)]
 .ret) .skip))
 (Kr [Km 68 5, Km 69 8, Ko 70 (.ci .u8 69), Ko 71 (.bsl 5 [Kw 0] 1 [(0, 1, 70)]), Ko 72 (.app 5 1 1 68 71), Km 5 72]
 (.reg [Km 73 0, Ko 74 (.nck 73), Ko 75 (.fa 1 74), Ko 76 (.ld 75), Ko 77 (.bin .add 76 (Ki 1)), Ko 78 (.nck 73), Ko 79 (.fa 1 78), Kn (.st 1 79 77)])))))))))))⟩
def f60 : IFunc := ⟨17, [.t 2], (Kr [Km 2 KF]
 (Kr [Km 3 0, Ko 4 (.bin .eql 3 (Kj 32)), Km 5 4, Kg 6 (.mv 0) 5 false, Kg 7 (.bin .geq 6 (Kj 9)) 5 false, Kg 8 (.mv 7) 5 false, Kg 9 (.mv 0) 8 true, Kg 10 (.bin .leq 9 (Kj 13)) 8 true, Kg 11 (.pick 8 10 KF) 5 false, Kg 12 (.mv 11) 5 false, Kg 13 (.mv 0) 12 true, Kg 14 (.bin .neq 13 (Kj 11)) 12 true, Kg 15 (.pick 12 14 KF) 5 false, Ko 16 (.pick 5 KT 15), Km 2 16]
 .ret))⟩
def f61 : IFunc := ⟨31, [.cn 2 2], (Kr [Ko 2 (.alloc 34 [Kv 0, Kv 0])]
 (.seq (.block 0 (.loop (.seq (.seq (.regd [Kd 5 (.mv 0) 0, Kd 6 (.call 33 [5]) 1, Kd 7 (.un .not 6) 3, Kd 8 (.mv 7) 7, Ke 9 (.mv 0) 8 true 15, Ke 10 (.nck 9) 8 true 31, Ke 11 (.fa 0 10) 8 true 63, Ke 12 (.ld 11) 8 true 127, Ke 13 (.mv 0) 8 true 15, Ke 14 (.nck 13) 8 true 271, Ke 15 (.fa 1 14) 8 true 783, Ke 16 (.ld 15) 8 true 1807, Ke 17 (.ia 1 12 16) 8 true 4095, Ke 18 (.ld 17) 8 true 8191, Ke 19 (.bin .neq 18 (Kj 10)) 8 true 16383, Kd 20 (.pick 8 19 KF) 32767])
 (.cond 20 .skip (.exit 0)))
 (.block 1 (Kr [Km 22 0, Ko 23 (.call 87 [22]), Km 21 23, Ko 24 (.ex 21 0), Ko 25 (.ex 21 1), Ko 4 (.alloc 34 [Kv 0, Kv 0]), Km 3 24, Kn (.st 2 4 25)]
 (Kr [Ko 26 (.fa 0 4), Ko 27 (.ld 26), Ko 28 (.bin .neq 27 (Ki 0))]
 (.cond 28 (Kr [Ko 29 (.ldn 2 4), Kn (.st 2 2 29)]
 .ret) .skip)))))))
 (Kr [Ko 30 (.call 35 []), Kn (.st 2 2 30)]
 .ret)))⟩
def f62 : IFunc := ⟨39, [.t 4], (Kr [Km 4 KF]
 (.seq (.regd [Kd 5 (.mv 0) 0, Kd 6 (.nck 5) 1, Kd 7 (.fa 1 6) 3, Kd 8 (.ld 7) 7, Kd 9 (.mv 1) 0, Kd 10 (.len .s 9) 16, Kd 11 (.bin .add 8 10) 63, Kd 12 (.mv 0) 0, Kd 13 (.nck 12) 128, Kd 14 (.fa 0 13) 384, Kd 15 (.ld 14) 896, Kd 16 (.len .v 15) 1920, Kd 17 (.bin .leq 11 16) 4095, Kd 18 (.mv 17) 8191, Ke 19 (.mv 0) 18 true 16383, Ke 20 (.nck 19) 18 true 32767, Ke 21 (.fa 0 20) 18 true 65535, Ke 22 (.ld 21) 18 true 131071, Ke 23 (.mv 0) 18 true 16383, Ke 24 (.nck 23) 18 true 278527, Ke 25 (.fa 1 24) 18 true 802815, Ke 26 (.ld 25) 18 true 1851391, Ke 27 (.mv 0) 18 true 16383, Ke 28 (.nck 27) 18 true 4210687, Ke 29 (.fa 1 28) 18 true 12599295, Ke 30 (.ld 29) 18 true 29376511, Ke 31 (.mv 1) 18 true 16383, Ke 32 (.len .s 31) 18 true 67125247, Ke 33 (.bin .add 30 32) 18 true 264257535, Ke 34 (.slv 1 22 (some 26) (some 33) none) 18 true 536870911, Ke 35 (.cbs 34) 18 true 1073741823, Ke 36 (.mv 1) 18 true 16383, Ke 37 (.bin .eql 35 36) 18 true 4294967295, Kd 38 (.pick 18 37 KF) 8589934591, Kd 4 (.mv 38) 17179869183])
 .ret))⟩
def f63 : IFunc := ⟨59, [.cn 2 2], (Kr [Ko 2 (.alloc 34 [Kv 0, Kv 0])]
 (Kr [Km 7 0, Ko 8 (.nck 7), Ko 9 (.fa 1 8), Ko 10 (.ld 9), Km 3 10, Km 4 (Ki 0)]
 (.seq (.block 0 (.loop (.seq (Kr [Km 11 0, Ko 12 (.call 33 [11]), Ko 13 (.un .not 12)]
 (.cond 13 .skip (.exit 0)))
 (.block 1 (.block 2 (Kr [Km 24 0, Ko 25 (.call 62 [24, (.c (.str [35, 124]))]), Km 23 25]
 (.cond 23 (.seq (Kr [Km 26 4, Ko 27 (.bin .eql 26 (Ki 200))]
 (.cond 27 (Kr [Km 28 0, Ko 29 (.nck 28), Ko 30 (.fa 1 29), Ko 31 (.ld 30), Ko 32 (.build [Kv 0, Kv 0] [(0, 1, (Ki 5)), (1, 1, 31)]), Kn (.st 2 2 32)]
 .ret) .skip))
 (Kr [Km 33 4, Ko 34 (.bin .add 33 (Ki 1)), Km 4 34]
 (.reg [Km 35 0, Ko 36 (.nck 35), Ko 37 (.fa 1 36), Ko 38 (.ld 37), Ko 39 (.bin .add 38 (Ki 2)), Ko 40 (.nck 35), Ko 41 (.fa 1 40), Kn (.st 1 41 39)]))) (Kr [Km 43 0, Ko 44 (.call 62 [43, (.c (.str [124, 35]))]), Km 42 44]
 (.cond 42 (Kr [Km 45 4, Ko 46 (.bin .sub 45 (Ki 1)), Km 4 46]
 (Kr [Km 47 0, Ko 48 (.nck 47), Ko 49 (.fa 1 48), Ko 50 (.ld 49), Ko 51 (.bin .add 50 (Ki 2)), Ko 52 (.nck 47), Ko 53 (.fa 1 52), Kn (.st 1 53 51)]
 (Kr [Km 54 4, Ko 55 (.bin .eql 54 (Ki 0))]
 (.cond 55 (Kr [Ko 56 (.call 35 []), Kn (.st 2 2 56)]
 .ret) .skip)))) (Kr [Km 15 0, Ko 16 (.call 87 [15]), Km 14 16, Ko 17 (.ex 14 0), Ko 18 (.ex 14 1), Ko 6 (.alloc 34 [Kv 0, Kv 0]), Km 5 17, Kn (.st 2 6 18)]
 (Kr [Ko 19 (.fa 0 6), Ko 20 (.ld 19), Ko 21 (.bin .neq 20 (Ki 0))]
 (.cond 21 (Kr [Ko 22 (.ldn 2 6), Kn (.st 2 2 22)]
 .ret) .skip))))))))))))
 (Kr [Km 57 3, Ko 58 (.call 70 [57]), Kn (.st 2 2 58)]
 .ret))))⟩
def f64 : IFunc := ⟨8, [.t 4], (Kr [Km 4 (Ki 0)]
 (Kr [Km 5 0, Km 6 1, Ko 7 (.call 88 [5, 6]), Km 4 7]
 .ret))⟩
def f65 : IFunc := ⟨61, [.t 2, .cn 3 2], (Kr [Ko 2 (.mv (.c (.str []))), Ko 3 (.alloc 34 [Kv 0, Kv 0])]
 (Kr [Km 8 0, Ko 9 (.nck 8), Ko 10 (.fa 1 9), Ko 11 (.ld 10), Km 4 11]
 (Kr [Km 12 0, Ko 13 (.nck 12), Ko 14 (.fa 1 13), Ko 15 (.ld 14), Ko 16 (.bin .add 15 (Ki 1)), Ko 17 (.nck 12), Ko 18 (.fa 1 17), Kn (.st 1 18 16)]
 (Kr [Ko 5 (.alloc 52 [.nilp, .nils])]
 (.seq (.block 0 (.loop (.seq (Kr [Km 19 0, Ko 20 (.call 33 [19]), Ko 21 (.un .not 20)]
 (.cond 21 .skip (.exit 0)))
 (.block 1 (Kr [Km 23 0, Ko 24 (.call 87 [23]), Km 22 24, Ko 25 (.ex 22 0), Ko 26 (.ex 22 1), Ko 7 (.alloc 34 [Kv 0, Kv 0]), Km 6 25, Kn (.st 2 7 26)]
 (.seq (Kr [Ko 27 (.fa 0 7), Ko 28 (.ld 27), Ko 29 (.bin .neq 28 (Ki 0))]
 (.cond 29 (.seq (.regd [Kd 30 (.ldn 2 7) 0, Kd 2 (.mv (.c (.str []))) 0, Kf (.st 2 3 30) 3])
 .ret) .skip))
 (.seq (.block 2 (Kr [Km 32 6, Ko 33 (.bin .eql 32 (Kc 34)), Km 31 33]
 (.cond 31 (Kr [Ko 34 (.call 21 [5]), Ko 35 (.call 35 []), Km 2 34, Kn (.st 2 3 35)]
 .ret) (Kr [Km 37 6, Ko 38 (.bin .eql 37 (Kc 92)), Km 39 38, Kg 40 (.mv 0) 39 true, Kg 41 (.call 33 [40]) 39 true, Ko 42 (.pick 39 41 KF), Km 36 42]
 (.cond 36 (Kr [Km 43 4, Ko 44 (.call 70 [43]), Ko 2 (.mv (.c (.str []))), Kn (.st 2 3 44)]
 .ret) (Kr [Km 46 6, Ko 47 (.bin .eql 46 (Kc 92)), Km 45 47]
 (.cond 45 (Kr [Km 49 0, Ko 50 (.call 89 [49]), Km 48 50, Ko 51 (.ex 48 0), Ko 52 (.ex 48 1), Km 6 51, Kn (.st 2 7 52)]
 (Kr [Ko 53 (.fa 0 7), Ko 54 (.ld 53), Ko 55 (.bin .neq 54 (Ki 0))]
 (.cond 55 (.seq (.regd [Kd 56 (.ldn 2 7) 0, Kd 2 (.mv (.c (.str []))) 0, Kf (.st 2 3 56) 3])
 .ret) .skip))) .skip)))))))
 (.reg [Km 57 6, Ko 58 (.call 38 [5, 57])]))))))))
 (Kr [Km 59 4, Ko 60 (.call 70 [59]), Ko 2 (.mv (.c (.str []))), Kn (.st 2 3 60)]
 .ret))))))⟩
def f66 : IFunc := ⟨86, [.cn 2 7, .cn 3 2], (Kr [Ko 2 (.alloc 44 [Kv 0, Kv 0, Kv 0, Kv 0, (.str []), .nils, Kv 0]), Ko 3 (.alloc 34 [Kv 0, Kv 0])]
 (Kr [Km 6 0, Ko 7 (.nck 6), Ko 8 (.fa 1 7), Ko 9 (.ld 8), Km 4 9]
 (Kr [Km 10 4, Km 11 4, Ko 12 (.build [Kv 0, Kv 0, (.str []), .nils, Kv 0] [(0, 1, (Ki 1)), (4, 1, 11)]), Ko 13 (.build [Kv 0, Kv 0, Kv 0, Kv 0, (.str []), .nils, Kv 0] [(0, 1, (Ki 7)), (1, 1, 10), (2, 5, 12)]), Kn (.st 7 2 13)]
 (.seq (.block 0 (Kr [Km 15 0, Ko 16 (.call 62 [15, (.c (.str [35, 40]))]), Km 14 16]
 (.cond 14 (Kr [Km 17 0, Ko 18 (.nck 17), Ko 19 (.fa 1 18), Ko 20 (.ld 19), Ko 21 (.bin .add 20 (Ki 2)), Ko 22 (.nck 17), Ko 23 (.fa 1 22), Kn (.st 1 23 21)]
 (Kr [Km 24 4, Ko 25 (.build [Kv 0, Kv 0, Kv 0, Kv 0, (.str []), .nils, Kv 0] [(0, 1, (Ki 4)), (1, 1, 24)]), Ko 26 (.call 35 []), Kn (.st 7 2 25), Kn (.st 2 3 26)]
 .ret)) (Kr [Km 28 0, Ko 29 (.call 62 [28, (.c (.str [35, 92]))]), Km 27 29]
 (.cond 27 (Kr [Ko 30 (.fa 2 2), Ko 31 (.fa 0 30), Kn (.st 1 31 (Ki 3))]
 (Kr [Km 33 0, Ko 34 (.call 90 [33]), Km 32 34, Ko 35 (.ex 32 0), Ko 36 (.ex 32 1), Ko 37 (.fa 2 2), Ko 38 (.fa 1 37), Kn (.st 1 38 35), Kn (.st 2 3 36)]
 (.seq (.regd [Kd 39 (.ldn 7 2) 0, Kd 40 (.ldn 2 3) 0, Kf (.st 7 2 39) 1, Kf (.st 2 3 40) 7])
 .ret))) .skip)))))
 (Kr [Km 41 0, Ko 42 (.nck 41), Ko 43 (.fa 1 42), Ko 44 (.ld 43), Ko 45 (.bin .add 44 (Ki 1)), Ko 46 (.nck 41), Ko 47 (.fa 1 46), Kn (.st 1 47 45)]
 (.seq (Kr [Km 48 0, Ko 49 (.call 69 [48]), Km 5 49]
 (.block 1 (.seq (Kr [Km 51 5, Ko 52 (.bin .eql 51 (.c (.str [116]))), Km 50 52]
 (.cond 50 .skip (.reg [Km 53 5, Ko 54 (.bin .eql 53 (.c (.str [116, 114, 117, 101]))), Km 50 54])))
 (.cond 50 (.reg [Ko 55 (.fa 2 2), Ko 56 (.fa 1 55), Kn (.st 1 56 (Ki 1))]) (Kr [Km 58 5, Ko 59 (.bin .eql 58 (.c (.str [117, 56]))), Km 60 59, Kg 61 (.mv 0) 60 true, Kg 62 (.call 91 [61, Ki 0]) 60 true, Kg 63 (.bin .eql 62 (Kj 40)) 60 true, Ko 64 (.pick 60 63 KF), Km 57 64]
 (.cond 57 (Kr [Km 65 0, Ko 66 (.nck 65), Ko 67 (.fa 1 66), Ko 68 (.ld 67), Ko 69 (.bin .add 68 (Ki 1)), Ko 70 (.nck 65), Ko 71 (.fa 1 70), Kn (.st 1 71 69)]
 (.reg [Km 72 4, Ko 73 (.build [Kv 0, Kv 0, Kv 0, Kv 0, (.str []), .nils, Kv 0] [(0, 1, (Ki 5)), (1, 1, 72)]), Kn (.st 7 2 73)])) (Kr [Km 75 5, Ko 76 (.bin .neq 75 (.c (.str [102]))), Km 77 76, Kg 78 (.mv 5) 77 true, Kg 79 (.bin .neq 78 (.c (.str [102, 97, 108, 115, 101]))) 77 true, Ko 80 (.pick 77 79 KF), Km 74 80]
 (.cond 74 (.seq (.regd [Kd 81 (.ldn 7 2) 0, Kd 82 (.mv 4) 0, Kd 83 (.call 70 [82]) 2, Kf (.st 7 2 81) 7, Kf (.st 2 3 83) 15])
 .ret) .skip))))))))
 (.seq (.regd [Kd 84 (.ldn 7 2) 0, Kd 85 (.call 35 []) 0, Kf (.st 7 2 84) 3, Kf (.st 2 3 85) 7])
 .ret)))))))⟩
def f67 : IFunc := ⟨26, [.t 2], (Kr [Km 2 KF]
 (Kr [Km 3 0, Ko 4 (.bin .geq 3 (Kj 97)), Km 5 4, Kg 6 (.mv 0) 5 true, Kg 7 (.bin .leq 6 (Kj 122)) 5 true, Ko 8 (.pick 5 7 KF), Km 9 8, Kg 10 (.mv 0) 9 false, Kg 11 (.bin .geq 10 (Kj 65)) 9 false, Kg 12 (.mv 11) 9 false, Kg 13 (.mv 0) 12 true, Kg 14 (.bin .leq 13 (Kj 90)) 12 true, Kg 15 (.pick 12 14 KF) 9 false, Ko 16 (.pick 9 KT 15), Km 17 16, Kg 18 (.mv 0) 17 false, Kg 19 (.call 92 [18]) 17 false, Ko 20 (.pick 17 KT 19), Km 21 20, Kg 22 (.mv 0) 21 false, Kg 23 (.call 64 [(.c (.str [33, 36, 37, 38, 42, 47, 58, 60, 61, 62, 63, 94, 95, 126, 43, 45, 46, 64])), 22]) 21 false, Kg 24 (.bin .geq 23 (Ki 0)) 21 false, Ko 25 (.pick 21 KT 24), Km 2 25]
 .ret))⟩
def f68 : IFunc := ⟨27, [.cn 4 7], (Kr [Ko 4 (.alloc 44 [Kv 0, Kv 0, Kv 0, Kv 0, (.str []), .nils, Kv 0])]
 (.seq (Kr [Km 8 0, Ko 9 (.bin .eql 8 (.c (.str [46])))]
 (.cond 9 (Kr [Km 10 1, Ko 11 (.build [Kv 0, Kv 0, Kv 0, Kv 0, (.str []), .nils, Kv 0] [(0, 1, (Ki 6)), (1, 1, 10)]), Kn (.st 7 4 11)]
 .ret) .skip))
 (Kr [Km 12 0, Km 13 1, Ko 14 (.build [Kv 0, Kv 0, (.str []), .nils, Kv 0] [(0, 1, (Ki 5)), (2, 1, 12), (4, 1, 13)]), Ko 5 (.alloc 24 [Kv 0, Kv 0, (.str []), .nils, Kv 0]), Kn (.st 5 5 14)]
 (.seq (Kr [Km 16 0, Ko 17 (.call 93 [16]), Km 15 17, Ko 18 (.ex 15 0), Ko 19 (.ex 15 1), Km 6 18, Km 7 19]
 (Kr [Km 20 7]
 (.cond 20 (.reg [Km 21 6, Ko 22 (.fa 0 5), Kn (.st 1 22 (Ki 2)), Ko 23 (.fa 2 5), Kn (.st 1 23 21)]) .skip)))
 (Kr [Km 24 1, Ko 25 (.ldn 5 5), Ko 26 (.build [Kv 0, Kv 0, Kv 0, Kv 0, (.str []), .nils, Kv 0] [(0, 1, (Ki 7)), (1, 1, 24), (2, 5, 25)]), Kn (.st 7 4 26)]
 .ret)))))⟩
def f69 : IFunc := ⟨42, [.t 2], (Kr [Ko 2 (.mv (.c (.str [])))]
 (Kr [Km 4 0, Ko 5 (.nck 4), Ko 6 (.fa 1 5), Ko 7 (.ld 6), Km 3 7]
 (.seq (.block 0 (.loop (.seq (.seq (.regd [Kd 8 (.mv 0) 0, Kd 9 (.call 33 [8]) 1, Kd 10 (.un .not 9) 3, Kd 11 (.mv 10) 7, Ke 12 (.mv 0) 11 true 15, Ke 13 (.nck 12) 11 true 31, Ke 14 (.fa 0 13) 11 true 63, Ke 15 (.ld 14) 11 true 127, Ke 16 (.mv 0) 11 true 15, Ke 17 (.nck 16) 11 true 271, Ke 18 (.fa 1 17) 11 true 783, Ke 19 (.ld 18) 11 true 1807, Ke 20 (.ia 1 15 19) 11 true 4095, Ke 21 (.ld 20) 11 true 8191, Ke 22 (.call 67 [21]) 11 true 16383, Kd 23 (.pick 11 22 KF) 32767])
 (.cond 23 .skip (.exit 0)))
 (.block 1 (.reg [Km 24 0, Ko 25 (.nck 24), Ko 26 (.fa 1 25), Ko 27 (.ld 26), Ko 28 (.bin .add 27 (Ki 1)), Ko 29 (.nck 24), Ko 30 (.fa 1 29), Kn (.st 1 30 28)])))))
 (.seq (.regd [Kd 31 (.mv 0) 0, Kd 32 (.nck 31) 1, Kd 33 (.fa 0 32) 3, Kd 34 (.ld 33) 7, Kd 35 (.mv 3) 0, Kd 36 (.mv 0) 0, Kd 37 (.nck 36) 32, Kd 38 (.fa 1 37) 96, Kd 39 (.ld 38) 224, Kd 40 (.slv 1 34 (some 35) (some 39) none) 511, Kd 41 (.cbs 40) 1023, Kd 2 (.mv 41) 2047])
 .ret))))⟩
def f70 : IFunc := ⟨5, [.cn 2 2], (Kr [Ko 2 (.alloc 34 [Kv 0, Kv 0])]
 (Kr [Km 3 (.t 0), Ko 4 (.build [Kv 0, Kv 0] [(0, 1, (Ki 4)), (1, 1, (.t 3))]), Kn (.st 2 (.t 2) (.t 4))]
 .ret))⟩
def f71 : IFunc := ⟨10, [.t 2], (Kr [Km 2 KF]
 (Kr [Km 3 0, Ko 4 (.call 60 [3]), Km 5 4, Kg 6 (.mv 0) 5 false, Kg 7 (.call 64 [(.c (.str [40, 41, 34, 59, 39])), 6]) 5 false, Kg 8 (.bin .geq 7 (Ki 0)) 5 false, Ko 9 (.pick 5 KT 8), Km 2 9]
 .ret))⟩
def f72 : IFunc := ⟨20, [], (Kr [Km 2 (.t 0), Ko 3 (.nck (.t 2)), Ko 4 (.fa 0 (.t 3)), Ko 5 (.ld (.t 4)), Ko 6 (.eqk .ptr false (.t 5) (.c .nilp))]
 (.cond (.t 6) (.reg [Km 7 (.t 0), Km 8 (.t 0), Ko 9 (.cup (.t 8)), Ko 10 (.nes (.t 9)), Ko 11 (.cpu [(51, 2), (52, 2), (53, 3), (54, 3)] (.t 10)), Ko 12 (.nck (.t 7)), Ko 13 (.fa 0 (.t 12)), Kn (.st 1 (.t 13) (.t 11))]) (Kr [Km 14 (.t 0), Ko 15 (.nck (.t 14)), Ko 16 (.fa 0 (.t 15)), Ko 17 (.ld (.t 16)), Km 18 (.t 0), Ko 19 (.eqk .ptr true (.t 17) (.t 18))]
 (.cond (.t 19) .stk .skip))))⟩
def f73 : IFunc := ⟨8, [.t 4], (Kr [Ko 4 (.mv (.c (.str [])))]
 (Kr [Km 5 0, Km 6 1, Ko 7 (.call 95 [5, 6]), Km 4 7]
 .ret))⟩
def f74 : IFunc := ⟨16, [.t 4], (Kr [Km 4 (.c .nils)]
 (.seq (Kr [Km 5 (.t 1), Ko 6 (.ci .u32 (.t 5)), Ko 7 (.bin .leq (.t 6) (Ku 127))]
 (.cond (.t 7) (Kr [Km 8 (.t 0), Km 9 (.t 1), Ko 10 (.ci .u8 (.t 9)), Ko 11 (.bsl 5 [Kw 0] 1 [(0, 1, (.t 10))]), Ko 12 (.app 5 1 1 (.t 8) (.t 11)), Km 4 (.t 12)]
 .ret) .skip))
 (Kr [Km 13 (.t 0), Km 14 (.t 1), Ko 15 (.call 96 [.t 13, .t 14]), Km 4 (.t 15)]
 .ret)))⟩
def f75 : IFunc := ⟨33, [.t 2], (Kr [Ko 2 (.mv (.c (.str [])))]
 (.seq (.block 0 (Kr [Km 4 (.t 0), Ko 5 (.bin .eql (.t 4) (Kc 34)), Km 6 (.t 5), Kg 7 (.mv (.t 0)) 6 false, Kg 8 (.bin .eql (.t 7) (Kc 92)) 6 false, Ko 9 (.pick (.t 6) KT (.t 8)), Km 3 (.t 9)]
 (.cond (.t 3) (Kr [Km 10 (.t 0), Ko 11 (.cis (.t 10)), Ko 12 (.bin .add (.c (.str [92])) (.t 11)), Km 2 (.t 12)]
 .ret) (Kr [Km 14 (.t 0), Ko 15 (.bin .eql (.t 14) (Kc 10)), Km 13 (.t 15)]
 (.cond (.t 13) (Kr [Ko 2 (.mv (.c (.str [92, 110])))]
 .ret) (Kr [Km 17 (.t 0), Ko 18 (.bin .eql (.t 17) (Kc 9)), Km 16 (.t 18)]
 (.cond (.t 16) (Kr [Ko 2 (.mv (.c (.str [92, 116])))]
 .ret) (Kr [Km 20 (.t 0), Ko 21 (.bin .lss (.t 20) (Kc 32)), Km 22 (.t 21), Kg 23 (.mv (.t 0)) 22 false, Kg 24 (.bin .eql (.t 23) (Kc 127)) 22 false, Ko 25 (.pick (.t 22) KT (.t 24)), Km 19 (.t 25)]
 (.cond (.t 19) (Kr [Km 26 (.t 0), Ko 27 (.ci .i64 (.t 26)), Ko 28 (.call 73 [.t 27, Ki 16]), Ko 29 (.bin .add (.c (.str [92, 120])) (.t 28)), Ko 30 (.bin .add (.t 29) (.c (.str [59]))), Km 2 (.t 30)]
 .ret) .skip)))))))))
 (Kr [Km 31 (.t 0), Ko 32 (.cis (.t 31)), Km 2 (.t 32)]
 .ret)))⟩
def f76 : IFunc := ⟨5, [.t 2], (Kr [Ko 2 (.mv (.c (.str [])))]
 (Kr [Km 3 0, Ko 4 (.call 97 [3]), Km 2 4]
 .ret))⟩
def f79 : IFunc := ⟨8, [.t 4], (Kr [Ko 4 (.mv (.c (.str [])))]
 (Kr [Km 5 (.t 0), Km 6 (.t 1), Ko 7 (.call 98 [.t 5, .t 6]), Km 4 (.t 7)]
 .ret))⟩
def f80 : IFunc := ⟨9, [.t 4], (Kr [Km 4 KF]
 (Kr [Km 5 (.t 0), Km 6 (.t 1), Ko 7 (.call 99 [.t 5, .t 6]), Ko 8 (.bin .geq (.t 7) (Ki 0)), Km 4 (.t 8)]
 .ret))⟩
def f81 : IFunc := ⟨9, [.t 2], (Kr [Km 2 KF]
 (Kr [Km 3 (.t 0), Ko 4 (.bin .lss (.t 3) (Kc 48)), Km 5 (.t 4), Kg 6 (.mv (.t 0)) 5 false, Kg 7 (.bin .gtr (.t 6) (Kc 57)) 5 false, Ko 8 (.pick (.t 5) KT (.t 7)), Km 2 (.t 8)]
 .ret))⟩
def f82 : IFunc := ⟨17, [.t 2], (Kr [Km 2 KF]
 (.seq (.block 0 (Kr [Km 4 (.t 0), Ko 5 (.bin .leq (Kc 0) (.t 4)), Km 6 (.t 5), Kg 7 (.mv (.t 0)) 6 true, Kg 8 (.bin .lss (.t 7) (Kc 55296)) 6 true, Ko 9 (.pick (.t 6) (.t 8) KF), Km 3 (.t 9)]
 (.cond (.t 3) (Kr [Km 2 KT]
 .ret) (Kr [Km 11 (.t 0), Ko 12 (.bin .lss (Kc 57343) (.t 11)), Km 13 (.t 12), Kg 14 (.mv (.t 0)) 13 true, Kg 15 (.bin .leq (.t 14) (Kc 1114111)) 13 true, Ko 16 (.pick (.t 13) (.t 15) KF), Km 10 (.t 16)]
 (.cond (.t 10) (Kr [Km 2 KT]
 .ret) .skip)))))
 (Kr [Km 2 KF]
 .ret)))⟩
def f83 : IFunc := ⟨39, [.t 2, .cn 3 2], (Kr [Km 2 (.c .nils), Ko 3 (.alloc 34 [Kv 0, Kv 0])]
 (Kr [Km 4 (.c .nils)]
 (.seq (Kr [Km 9 0, Ko 10 (.cbs 9), Ko 11 (.rs 10)]
 (.block 0 (.loop (Kr [Ko 12 (.ns 11), Ko 13 (.ex 12 0)]
 (.seq (.cond 13 .skip (.exit 0))
 (.block 1 (Kr [Ko 14 (.ex 12 1), Ko 15 (.ex 12 2), Km 5 14, Km 6 15]
 (.seq (Kr [Km 16 6, Ko 17 (.bin .eql 16 (Kc 65533))]
 (.cond 17 (Kr [Km 19 0, Km 20 5, Ko 21 (.slv 1 19 (some 20) none none), Ko 22 (.call 100 [21]), Km 18 22, Ko 23 (.ex 18 0), Ko 24 (.ex 18 1), Km 7 23, Km 8 24]
 (Kr [Km 25 6, Km 26 8, Ko 27 (.call 101 [25, 26])]
 (.cond 27 (Kr [Km 28 5, Ko 29 (.build [Kv 0, Kv 0] [(0, 1, (Ki 4)), (1, 1, 28)]), Km 2 (.c .nils), Kn (.st 2 3 29)]
 .ret) .skip))) .skip))
 (.reg [Km 30 4, Km 31 6, Ko 32 (.ci .i64 31), Km 33 5, Ko 34 (.build [Kv 0, Kv 0] [(0, 1, 32), (1, 1, 33)]), Ko 35 (.bsl 120 [Kv 0, Kv 0] 1 [(0, 2, 34)]), Ko 36 (.app 120 2 16 30 35), Km 4 36])))))))))
 (Kr [Km 37 4, Ko 38 (.build [Kv 0, Kv 0] []), Km 2 37, Kn (.st 2 3 38)]
 .ret))))⟩
def f85 : IFunc := ⟨4, [.t 2], (Kr [Ko 1 (.box 22 (.t 0)), Km 2 (.c .nilf)]
 (Kr [Ko 3 (.mfn 103 [] [.t 1]), Km 2 (.t 3)]
 .ret))⟩
def f87 : IFunc := ⟨38, [.t 2, .cn 3 2], (Kr [Km 2 (Kc 0), Ko 3 (.alloc 34 [Kv 0, Kv 0])]
 (.seq (.regd [Kd 8 (.mv 0) 0, Kd 9 (.nck 8) 1, Kd 10 (.fa 0 9) 3, Kd 11 (.ld 10) 7, Kd 12 (.mv 0) 0, Kd 13 (.nck 12) 16, Kd 14 (.fa 1 13) 48, Kd 15 (.ld 14) 112, Kd 16 (.call 106 [11, 15]) 255, Kd 7 (.mv 16) 511, Kd 17 (.ex 7 0) 1023, Kd 18 (.ex 7 1) 1023, Kd 19 (.ex 7 2) 1023, Kd 4 (.mv 17) 2047, Kd 5 (.mv 18) 12287, Kd 6 (.mv 19) 32767])
 (.seq (Kr [Km 20 6, Ko 21 (.bin .neq 20 (Ki 0))]
 (.cond 21 (Kr [Km 22 0, Ko 23 (.nck 22), Ko 24 (.fa 1 23), Ko 25 (.ld 24), Ko 26 (.call 70 [25]), Km 2 (Kc 0), Kn (.st 2 3 26)]
 .ret) .skip))
 (Kr [Km 27 0, Ko 28 (.nck 27), Ko 29 (.fa 1 28), Ko 30 (.ld 29), Km 31 5, Ko 32 (.bin .add 30 31), Ko 33 (.nck 27), Ko 34 (.fa 1 33), Kn (.st 1 34 32)]
 (Kr [Km 35 4, Ko 36 (.ci .i32 35), Ko 37 (.call 35 []), Km 2 36, Kn (.st 2 3 37)]
 .ret)))))⟩
def f88 : IFunc := ⟨8, [.t 4], (Kr [Km 4 (Ki 0)]
 (Kr [Km 5 0, Km 6 1, Ko 7 (.ibs 5 6), Km 4 7]
 .ret))⟩
def f89 : IFunc := ⟨110, [.t 2, .cn 3 2], (Kr [Km 2 (Kc 0), Ko 3 (.alloc 34 [Kv 0, Kv 0])]
 (Kr [Km 9 0, Ko 10 (.nck 9), Ko 11 (.fa 1 10), Ko 12 (.ld 11), Ko 13 (.bin .sub 12 (Ki 1)), Km 4 13]
 (Kr [Km 14 0, Ko 15 (.call 91 [14, Ki 0]), Km 5 15]
 (Kr [Km 16 0, Ko 17 (.nck 16), Ko 18 (.fa 1 17), Ko 19 (.ld 18), Ko 20 (.bin .add 19 (Ki 1)), Ko 21 (.nck 16), Ko 22 (.fa 1 21), Kn (.st 1 22 20)]
 (.seq (Kr [Km 23 5]
 (.block 0 (.seq (Kr [Ko 25 (.bin .eql 23 (Kj 34)), Km 24 25]
 (.cond 24 .skip (.reg [Ko 26 (.bin .eql 23 (Kj 92)), Km 24 26])))
 (.cond 24 (Kr [Km 27 5, Ko 28 (.ci .i32 27), Ko 29 (.call 35 []), Km 2 28, Kn (.st 2 3 29)]
 .ret) (Kr [Ko 31 (.bin .eql 23 (Kj 110)), Km 30 31]
 (.cond 30 (Kr [Ko 32 (.call 35 []), Km 2 (Kc 10), Kn (.st 2 3 32)]
 .ret) (Kr [Ko 34 (.bin .eql 23 (Kj 116)), Km 33 34]
 (.cond 33 (Kr [Ko 35 (.call 35 []), Km 2 (Kc 9), Kn (.st 2 3 35)]
 .ret) (Kr [Ko 37 (.bin .eql 23 (Kj 120)), Km 36 37]
 (.cond 36 (Kr [Km 38 0, Ko 39 (.nck 38), Ko 40 (.fa 1 39), Ko 41 (.ld 40), Km 6 41]
 (.seq (.block 1 (.loop (.seq (.seq (.regd [Kd 42 (.mv 0) 0, Kd 43 (.call 33 [42]) 1, Kd 44 (.un .not 43) 3, Kd 45 (.mv 44) 7, Ke 46 (.mv 0) 45 true 15, Ke 47 (.nck 46) 45 true 31, Ke 48 (.fa 0 47) 45 true 63, Ke 49 (.ld 48) 45 true 127, Ke 50 (.mv 0) 45 true 15, Ke 51 (.nck 50) 45 true 271, Ke 52 (.fa 1 51) 45 true 783, Ke 53 (.ld 52) 45 true 1807, Ke 54 (.ia 1 49 53) 45 true 4095, Ke 55 (.ld 54) 45 true 8191, Ke 56 (.bin .neq 55 (Kj 59)) 45 true 16383, Kd 57 (.pick 45 56 KF) 32767, Kd 58 (.mv 57) 65535, Ke 59 (.mv 0) 58 true 131071, Ke 60 (.nck 59) 58 true 262143, Ke 61 (.fa 0 60) 58 true 524287, Ke 62 (.ld 61) 58 true 1048575, Ke 63 (.mv 0) 58 true 131071, Ke 64 (.nck 63) 58 true 2228223, Ke 65 (.fa 1 64) 58 true 6422527, Ke 66 (.ld 65) 58 true 14811135, Ke 67 (.ia 1 62 66) 58 true 33554431, Ke 68 (.ld 67) 58 true 67108863, Ke 69 (.call 67 [68]) 58 true 134217727, Kd 70 (.pick 58 69 KF) 268435455])
 (.cond 70 .skip (.exit 1)))
 (.block 2 (.reg [Km 71 0, Ko 72 (.nck 71), Ko 73 (.fa 1 72), Ko 74 (.ld 73), Ko 75 (.bin .add 74 (Ki 1)), Ko 76 (.nck 71), Ko 77 (.fa 1 76), Kn (.st 1 77 75)])))))
 (.seq (.regd [Kd 79 (.mv 0) 0, Kd 80 (.nck 79) 1, Kd 81 (.fa 0 80) 3, Kd 82 (.ld 81) 7, Kd 83 (.mv 6) 0, Kd 84 (.mv 0) 0, Kd 85 (.nck 84) 32, Kd 86 (.fa 1 85) 96, Kd 87 (.ld 86) 224, Kd 88 (.slv 1 82 (some 83) (some 87) none) 511, Kd 89 (.cbs 88) 1023, Kd 90 (.call 108 [89]) 2047, Kd 78 (.mv 90) 4095, Kd 91 (.ex 78 0) 8191, Kd 92 (.ex 78 1) 8191, Kd 7 (.mv 91) 16383, Kd 8 (.mv 92) 65535])
 (Kr [Km 93 8, Km 94 93, Kg 95 (.mv 0) 94 true, Kg 96 (.call 91 [95, Ki 0]) 94 true, Kg 97 (.bin .eql 96 (Kj 59)) 94 true, Ko 98 (.pick 94 97 KF)]
 (.cond 98 (Kr [Km 99 0, Ko 100 (.nck 99), Ko 101 (.fa 1 100), Ko 102 (.ld 101), Ko 103 (.bin .add 102 (Ki 1)), Ko 104 (.nck 99), Ko 105 (.fa 1 104), Kn (.st 1 105 103)]
 (Kr [Km 106 7, Ko 107 (.call 35 []), Km 2 106, Kn (.st 2 3 107)]
 .ret)) .skip))))) .skip))))))))))
 (Kr [Km 108 4, Ko 109 (.call 70 [108]), Km 2 (Kc 0), Kn (.st 2 3 109)]
 .ret))))))⟩
def f90 : IFunc := ⟨75, [.t 2, .cn 3 2], (Kr [Km 2 (Ki 0), Ko 3 (.alloc 34 [Kv 0, Kv 0])]
 (Kr [Km 11 0, Ko 12 (.nck 11), Ko 13 (.fa 1 12), Ko 14 (.ld 13), Km 4 14]
 (Kr [Km 15 0, Ko 16 (.nck 15), Ko 17 (.fa 1 16), Ko 18 (.ld 17), Ko 19 (.bin .add 18 (Ki 2)), Ko 20 (.nck 15), Ko 21 (.fa 1 20), Kn (.st 1 21 19)]
 (.seq (Kr [Km 22 0, Ko 23 (.call 33 [22])]
 (.cond 23 (Kr [Km 24 4, Ko 25 (.call 70 [24]), Km 2 (Ki 0), Kn (.st 2 3 25)]
 .ret) .skip))
 (Kr [Km 27 0, Ko 28 (.call 87 [27]), Km 26 28, Ko 29 (.ex 26 0), Ko 30 (.ex 26 1), Ko 6 (.alloc 34 [Kv 0, Kv 0]), Km 5 29, Kn (.st 2 6 30)]
 (.seq (Kr [Ko 31 (.fa 0 6), Ko 32 (.ld 31), Ko 33 (.bin .neq 32 (Ki 0))]
 (.cond 33 (Kr [Km 34 4, Ko 35 (.call 70 [34]), Km 2 (Ki 0), Kn (.st 2 3 35)]
 .ret) .skip))
 (Kr [Km 36 0, Ko 37 (.call 69 [36]), Km 7 37]
 (Kr [Km 38 5, Ko 39 (.cis 38), Km 40 7, Ko 41 (.bin .add 39 40), Km 8 41]
 (.seq (.block 0 (Kr [Km 43 7, Ko 44 (.bin .eql 43 (.c (.str []))), Km 42 44]
 (.cond 42 (Kr [Km 45 5, Ko 46 (.ci .i64 45), Ko 47 (.call 35 []), Km 2 46, Kn (.st 2 3 47)]
 .ret) (Kr [Km 49 8, Ko 50 (.bin .eql 49 (.c (.str [115, 112, 97, 99, 101]))), Km 48 50]
 (.cond 48 (Kr [Ko 51 (.call 35 []), Km 2 (Ki 32), Kn (.st 2 3 51)]
 .ret) (Kr [Km 53 8, Ko 54 (.bin .eql 53 (.c (.str [110, 101, 119, 108, 105, 110, 101]))), Km 52 54]
 (.cond 52 (Kr [Ko 55 (.call 35 []), Km 2 (Ki 10), Kn (.st 2 3 55)]
 .ret) (Kr [Km 57 8, Ko 58 (.bin .eql 57 (.c (.str [116, 97, 98]))), Km 56 58]
 (.cond 56 (Kr [Ko 59 (.call 35 []), Km 2 (Ki 9), Kn (.st 2 3 59)]
 .ret) .skip)))))))))
 (.seq (Kr [Km 61 7, Ko 62 (.call 108 [61]), Km 60 62, Ko 63 (.ex 60 0), Ko 64 (.ex 60 1), Km 9 63, Km 10 64]
 (Kr [Km 65 5, Ko 66 (.bin .eql 65 (Kc 120)), Km 67 66, Kg 68 (.mv 10) 67 true, Ko 69 (.pick 67 68 KF)]
 (.cond 69 (Kr [Km 70 9, Ko 71 (.ci .i64 70), Ko 72 (.call 35 []), Km 2 71, Kn (.st 2 3 72)]
 .ret) .skip)))
 (Kr [Km 73 4, Ko 74 (.call 70 [73]), Km 2 (Ki 0), Kn (.st 2 3 74)]
 .ret)))))))))))⟩
def f91 : IFunc := ⟨29, [.t 4], (Kr [Km 4 (Kj 0)]
 (.seq (.seq (.regd [Kd 5 (.mv 0) 0, Kd 6 (.nck 5) 1, Kd 7 (.fa 1 6) 3, Kd 8 (.ld 7) 7, Kd 9 (.mv 1) 0, Kd 10 (.bin .add 8 9) 31, Kd 11 (.mv 0) 0, Kd 12 (.nck 11) 64, Kd 13 (.fa 0 12) 192, Kd 14 (.ld 13) 448, Kd 15 (.len .v 14) 960, Kd 16 (.bin .geq 10 15) 2047])
 (.cond 16 (Kr [Km 4 (Kj 0)]
 .ret) .skip))
 (.seq (.regd [Kd 17 (.mv 0) 0, Kd 18 (.nck 17) 1, Kd 19 (.fa 0 18) 3, Kd 20 (.ld 19) 7, Kd 21 (.mv 0) 0, Kd 22 (.nck 21) 16, Kd 23 (.fa 1 22) 48, Kd 24 (.ld 23) 112, Kd 25 (.mv 1) 0, Kd 26 (.bin .add 24 25) 496, Kd 27 (.ia 1 20 26) 1023, Kd 28 (.ld 27) 2047, Kd 4 (.mv 28) 4095])
 .ret)))⟩
def f92 : IFunc := ⟨9, [.t 2], (Kr [Km 2 KF]
 (Kr [Km 3 0, Ko 4 (.bin .geq 3 (Kj 48)), Km 5 4, Kg 6 (.mv 0) 5 true, Kg 7 (.bin .leq 6 (Kj 57)) 5 true, Ko 8 (.pick 5 7 KF), Km 2 8]
 .ret))⟩
def f93 : IFunc := ⟨35, [.t 2, .t 3], (Kr [Ko 2 (.mv (.c (.str []))), Km 3 KF]
 (Kr [Km 5 0, Km 4 5]
 (.seq (Kr [Km 6 0, Ko 7 (.ixs 6 (Ki 0)), Ko 8 (.bin .eql 7 (Kj 43)), Km 9 8, Kg 10 (.mv 0) 9 false, Kg 11 (.ixs 10 (Ki 0)) 9 false, Kg 12 (.bin .eql 11 (Kj 45)) 9 false, Ko 13 (.pick 9 KT 12)]
 (.cond 13 (.reg [Km 14 0, Ko 15 (.sls 14 (some (Ki 1)) none), Km 4 15]) .skip))
 (.seq (Kr [Km 16 4, Ko 17 (.bin .eql 16 (.c (.str []))), Km 18 17, Kg 19 (.mv 4) 18 false, Kg 20 (.call 109 [19, (.c (.str [48, 49, 50, 51, 52, 53, 54, 55, 56, 57]))]) 18 false, Kg 21 (.bin .neq 20 (.c (.str []))) 18 false, Ko 22 (.pick 18 KT 21)]
 (.cond 22 (Kr [Ko 2 (.mv (.c (.str []))), Km 3 KF]
 .ret) .skip))
 (Kr [Km 23 4, Ko 24 (.call 110 [23, (.c (.str [48]))]), Km 4 24]
 (.seq (.block 0 (Kr [Km 26 4, Ko 27 (.bin .eql 26 (.c (.str []))), Km 25 27]
 (.cond 25 (Kr [Ko 2 (.mv (.c (.str [48]))), Km 3 KT]
 .ret) (Kr [Km 29 0, Ko 30 (.ixs 29 (Ki 0)), Ko 31 (.bin .eql 30 (Kj 45)), Km 28 31]
 (.cond 28 (Kr [Km 32 4, Ko 33 (.bin .add (.c (.str [45])) 32), Km 2 33, Km 3 KT]
 .ret) .skip)))))
 (Kr [Km 34 4, Km 2 34, Km 3 KT]
 .ret)))))))⟩
def f95 : IFunc := ⟨54, [.t 4], (Kr [Ko 4 (.mv (.c (.str [])))]
 (.seq (Kr [Km 10 1, Ko 11 (.bin .eql 10 (Ki 10))]
 (.cond 11 (.seq (Kr [Km 12 0, Ko 13 (.bin .leq (Ki 0) 12), Km 14 13, Kg 15 (.mv 0) 14 true, Kg 16 (.bin .lss 15 (Ki 100)) 14 true, Ko 17 (.pick 14 16 KF)]
 (.cond 17 (Kr [Km 18 0, Ko 19 (.call 111 [18]), Km 4 19]
 .ret) .skip))
 (Kr [Ko 5 (.alloc 147 [Kw 0, Kw 0, Kw 0, Kw 0, Kw 0, Kw 0, Kw 0, Kw 0, Kw 0, Kw 0, Kw 0, Kw 0, Kw 0, Kw 0, Kw 0, Kw 0, Kw 0, Kw 0, Kw 0, Kw 0, Kw 0, Kw 0, Kw 0, Kw 0])]
 (Kr [Km 20 0, Ko 21 (.ci .u64 20), Km 6 21]
 (.seq (Kr [Km 22 0, Ko 23 (.bin .lss 22 (Ki 0))]
 (.cond 23 (.reg [Km 24 6, Ko 25 (.un .neg 24), Km 6 25]) .skip))
 (Kr [Km 26 6, Ko 27 (.call 112 [26]), Km 7 27]
 (Kr [Km 28 7, Ko 29 (.bin .add (Ki 1) 28), Ko 30 (.sla 24 1 5 (some (Ki 1)) (some 29) none), Km 31 6, Ko 32 (.call 113 [30, 31])]
 (.seq (Kr [Km 33 0, Ko 34 (.bin .lss 33 (Ki 0))]
 (.cond 34 (Kr [Ko 35 (.iaa 24 1 5 (Ki 0)), Kn (.st 1 35 (Kj 45))]
 (Kr [Km 36 7, Ko 37 (.bin .add (Ki 1) 36), Ko 38 (.sla 24 1 5 none (some 37) none), Ko 39 (.cbs 38), Km 4 39]
 .ret)) .skip))
 (Kr [Km 40 7, Ko 41 (.bin .add (Ki 1) 40), Ko 42 (.sla 24 1 5 (some (Ki 1)) (some 41) none), Ko 43 (.cbs 42), Km 4 43]
 .ret)))))))) .skip))
 (Kr [Km 45 0, Ko 46 (.ci .u64 45), Km 47 1, Km 48 0, Ko 49 (.bin .lss 48 (Ki 0)), Ko 50 (.call 114 [(.c .nils), 46, 47, 49, .c (.bool false)]), Km 44 50, Ko 51 (.ex 44 0), Ko 52 (.ex 44 1), Km 8 51, Km 9 52]
 (Kr [Km 53 9, Km 4 53]
 .ret))))⟩
def f96 : IFunc := ⟨78, [.t 4], (Kr [Km 4 (.c .nils)]
 (Kr [Km 6 (.t 1), Ko 7 (.ci .u32 (.t 6)), Km 5 (.t 7)]
 (.block 0 (Kr [Km 12 (.t 5), Ko 13 (.bin .leq (.t 12) (Ku 2047)), Km 11 (.t 13)]
 (.cond (.t 11) (Kr [Km 14 (.t 0), Km 15 (.t 1), Ko 16 (.bin .shr (.t 15) (Kq 6)), Ko 17 (.ci .u8 (.t 16)), Ko 18 (.bin .or (Kj 192) (.t 17)), Km 19 (.t 1), Ko 20 (.ci .u8 (.t 19)), Ko 21 (.bin .and (.t 20) (Kj 63)), Ko 22 (.bin .or (Kj 128) (.t 21)), Ko 23 (.bsl 5 [Kw 0, Kw 0] 2 [(0, 1, (.t 18)), (1, 1, (.t 22))]), Ko 24 (.app 5 1 1 (.t 14) (.t 23)), Km 4 (.t 24)]
 .ret) (.seq (Kr [Km 26 (.t 5), Ko 27 (.bin .lss (.t 26) (Ku 55296)), Km 25 (.t 27)]
 (.cond (.t 25) .skip (.reg [Km 28 (.t 5), Ko 29 (.bin .lss (Ku 57343) (.t 28)), Km 30 (.t 29), Kg 31 (.mv (.t 5)) 30 true, Kg 32 (.bin .leq (.t 31) (Ku 65535)) 30 true, Ko 33 (.pick (.t 30) (.t 32) KF), Km 25 (.t 33)])))
 (.cond (.t 25) (Kr [Km 34 (.t 0), Km 35 (.t 1), Ko 36 (.bin .shr (.t 35) (Kq 12)), Ko 37 (.ci .u8 (.t 36)), Ko 38 (.bin .or (Kj 224) (.t 37)), Km 39 (.t 1), Ko 40 (.bin .shr (.t 39) (Kq 6)), Ko 41 (.ci .u8 (.t 40)), Ko 42 (.bin .and (.t 41) (Kj 63)), Ko 43 (.bin .or (Kj 128) (.t 42)), Km 44 (.t 1), Ko 45 (.ci .u8 (.t 44)), Ko 46 (.bin .and (.t 45) (Kj 63)), Ko 47 (.bin .or (Kj 128) (.t 46)), Ko 48 (.bsl 5 [Kw 0, Kw 0, Kw 0] 3 [(0, 1, (.t 38)), (1, 1, (.t 43)), (2, 1, (.t 47))]), Ko 49 (.app 5 1 1 (.t 34) (.t 48)), Km 4 (.t 49)]
 .ret) (Kr [Km 51 (.t 5), Ko 52 (.bin .gtr (.t 51) (Ku 65535)), Km 53 (.t 52), Kg 54 (.mv (.t 5)) 53 true, Kg 55 (.bin .leq (.t 54) (Ku 1114111)) 53 true, Ko 56 (.pick (.t 53) (.t 55) KF), Km 50 (.t 56)]
 (.cond (.t 50) (Kr [Km 57 (.t 0), Km 58 (.t 1), Ko 59 (.bin .shr (.t 58) (Kq 18)), Ko 60 (.ci .u8 (.t 59)), Ko 61 (.bin .or (Kj 240) (.t 60)), Km 62 (.t 1), Ko 63 (.bin .shr (.t 62) (Kq 12)), Ko 64 (.ci .u8 (.t 63)), Ko 65 (.bin .and (.t 64) (Kj 63)), Ko 66 (.bin .or (Kj 128) (.t 65)), Km 67 (.t 1), Ko 68 (.bin .shr (.t 67) (Kq 6)), Ko 69 (.ci .u8 (.t 68)), Ko 70 (.bin .and (.t 69) (Kj 63)), Ko 71 (.bin .or (Kj 128) (.t 70)), Km 72 (.t 1), Ko 73 (.ci .u8 (.t 72)), Ko 74 (.bin .and (.t 73) (Kj 63)), Ko 75 (.bin .or (Kj 128) (.t 74)), Ko 76 (.bsl 5 [Kw 0, Kw 0, Kw 0, Kw 0] 4 [(0, 1, (.t 61)), (1, 1, (.t 66)), (2, 1, (.t 71)), (3, 1, (.t 75))]), Ko 77 (.app 5 1 1 (.t 57) (.t 76)), Km 4 (.t 77)]
 .ret) (Kr [Km 8 (.t 0), Ko 9 (.bsl 5 [Kw 0, Kw 0, Kw 0] 3 [(0, 1, (Kj 239)), (1, 1, (Kj 191)), (2, 1, (Kj 189))]), Ko 10 (.app 5 1 1 (.t 8) (.t 9)), Km 4 (.t 10)]
 .ret))))))))))⟩
def f97 : IFunc := ⟨5, [.t 2], (Kr [Ko 2 (.mv (.c (.str [])))]
 (Kr [Km 3 0, Ko 4 (.call 95 [3, Ki 10]), Km 2 4]
 .ret))⟩
def f98 : IFunc := ⟨13, [.t 4], (Kr [Ko 4 (.mv (.c (.str [])))]
 (.seq (Kr [Km 5 (.t 0), Km 6 (.t 1), Ko 7 (.call 115 [.t 5, .t 6])]
 (.cond (.t 7) (Kr [Km 8 (.t 0), Km 9 (.t 1), Ko 10 (.len .s (.t 9)), Ko 11 (.sls (.t 8) (some (.t 10)) none), Km 4 (.t 11)]
 .ret) .skip))
 (Kr [Km 12 (.t 0), Km 4 (.t 12)]
 .ret)))⟩
def f99 : IFunc := ⟨8, [.t 4], (Kr [Km 4 (Ki 0)]
 (Kr [Km 5 (.t 0), Km 6 (.t 1), Ko 7 (.call 116 [.t 5, .t 6, .c (.bool true)]), Km 4 (.t 7)]
 .ret))⟩
def f100 : IFunc := ⟨22, [.t 2, .t 3], (Kr [Km 2 (Kc 0), Km 3 (Ki 0)]
 (.seq (Kr [Km 6 0, Ko 7 (.len .v 6), Km 8 (Ki 0)]
 (.block 0 (.loop (Kr [Ko 9 (.bin .lss 8 7)]
 (.seq (.cond 9 .skip (.exit 0))
 (.seq (.block 1 (Kr [Ko 10 (.ia 1 6 8), Ko 11 (.ld 10), Km 5 11]
 (.seq (Kr [Km 12 5, Ko 13 (.bin .lss 12 (Kj 128))]
 (.cond 13 (Kr [Km 14 5, Ko 15 (.ci .i32 14), Km 2 15, Km 3 (Ki 1)]
 .ret) .skip))
 (.exit 0))))
 (.reg [Ko 16 (.bin .add 8 (Ki 1)), Km 8 16])))))))
 (Kr [Km 18 0, Ko 19 (.call 117 [18]), Km 17 19, Ko 20 (.ex 17 0), Ko 21 (.ex 17 1), Km 2 20, Km 3 21]
 .ret)))⟩
def f101 : IFunc := ⟨11, [.t 4], (Kr [Km 4 KF]
 (Kr [Km 5 (.t 0), Ko 6 (.bin .eql (.t 5) (Kc 65533)), Km 7 (.t 6), Kg 8 (.mv (.t 1)) 7 true, Kg 9 (.bin .leq (.t 8) (Ki 1)) 7 true, Ko 10 (.pick (.t 7) (.t 9) KF), Km 4 (.t 10)]
 .ret))⟩
def f103 : IFunc := ⟨19, [], (Kr [Ko 4 (.ld (.t 1)), Ko 5 (.len .v (.t 4)), Ko 6 (.bin .sub (.t 5) (Ki 1)), Km 3 (.t 6)]
 (.block 0 (.loop (.seq (Kr [Km 7 (.t 3), Ko 8 (.bin .geq (.t 7) (Ki 0))]
 (.cond (.t 8) .skip (.exit 0)))
 (.seq (.block 1 (Kr [Km 11 (.t 0), Km 12 (.t 3), Ko 13 (.ld (.t 1)), Km 14 (.t 3), Ko 15 (.ia 5 (.t 13) (.t 14)), Ko 16 (.ldn 5 (.t 15)), Ko 17 (.cv (.t 11) [.t 12, .t 16]), Ko 18 (.un .not (.t 17))]
 (.cond (.t 18) .ret .skip)))
 (.reg [Km 9 (.t 3), Ko 10 (.bin .sub (.t 9) (Ki 1)), Km 3 (.t 10)]))))))⟩
def f106 : IFunc := ⟨29, [.t 4, .t 5, .t 6], (Kr [Km 4 (Ki 0), Km 5 (Ki 0), Km 6 (Ki 0)]
 (.seq (Kr [Km 8 1, Ko 9 (.bin .lss 8 (Ki 0)), Km 10 9, Kg 11 (.mv 1) 10 false, Kg 12 (.mv 0) 10 false, Kg 13 (.len .v 12) 10 false, Kg 14 (.bin .geq 11 13) 10 false, Ko 15 (.pick 10 KT 14)]
 (.cond 15 (Kr [Km 4 (Ki 0), Km 5 (Ki 0), Km 6 (Ki 2)]
 .ret) .skip))
 (Kr [Km 17 0, Km 18 1, Ko 19 (.slv 1 17 (some 18) none none), Ko 20 (.call 100 [19]), Km 16 20, Ko 21 (.ex 16 0), Ko 22 (.ex 16 1), Km 7 21, Km 5 22]
 (.seq (Kr [Km 23 7, Km 24 5, Ko 25 (.call 101 [23, 24])]
 (.cond 25 (Kr [Km 4 (Ki 0), Km 5 (Ki 0), Km 6 (Ki 4)]
 .ret) .skip))
 (Kr [Km 26 7, Ko 27 (.ci .i64 26), Km 28 5, Km 4 27, Km 5 28, Km 6 (Ki 0)]
 .ret)))))⟩
def f108 : IFunc := ⟨38, [.t 2, .t 3], (Kr [Km 2 (Kc 0), Km 3 KF]
 (Kr [Km 4 (Ki 0)]
 (.seq (Kr [Km 8 0, Ko 9 (.csb 5 8), Ko 10 (.len .v 9), Km 11 (Ki 0)]
 (.block 0 (.loop (Kr [Ko 12 (.bin .lss 11 10)]
 (.seq (.cond 12 .skip (.exit 0))
 (.seq (.block 1 (Kr [Ko 13 (.ia 1 9 11), Ko 14 (.ld 13), Km 6 14]
 (Kr [Km 15 6, Ko 16 (.bin .or 15 (Kj 32)), Ko 17 (.call 64 [(.c (.str [48, 49, 50, 51, 52, 53, 54, 55, 56, 57, 97, 98, 99, 100, 101, 102])), 16]), Km 7 17]
 (.seq (Kr [Km 18 7, Ko 19 (.bin .lss 18 (Ki 0)), Km 20 19, Kg 21 (.mv 6) 20 false, Kg 22 (.bin .lss 21 (Kj 48)) 20 false, Ko 23 (.pick 20 KT 22)]
 (.cond 23 (Kr [Km 2 (Kc 0), Km 3 KF]
 .ret) .skip))
 (.reg [Km 24 4, Ko 25 (.bin .mul (Ki 16) 24), Km 26 7, Ko 27 (.bin .add 25 26), Ko 28 (.mn [27, Ki 16777216]), Km 4 28])))))
 (.reg [Ko 29 (.bin .add 11 (Ki 1)), Km 11 29])))))))
 (Kr [Km 30 4, Ko 31 (.ci .i32 30), Km 32 0, Ko 33 (.bin .neq 32 (.c (.str []))), Km 34 33, Kg 35 (.mv 4) 34 true, Kg 36 (.call 51 [35]) 34 true, Ko 37 (.pick 34 36 KF), Km 2 31, Km 3 37]
 .ret))))⟩
def f109 : IFunc := ⟨43, [.t 4], (Kr [Ko 4 (.mv (.c (.str [])))]
 (.seq (Kr [Km 7 0, Ko 8 (.bin .eql 7 (.c (.str []))), Km 9 8, Kg 10 (.mv 1) 9 false, Kg 11 (.bin .eql 10 (.c (.str []))) 9 false, Ko 12 (.pick 9 KT 11)]
 (.cond 12 (Kr [Km 13 0, Km 4 13]
 .ret) .skip))
 (.seq (Kr [Km 14 1, Ko 15 (.len .s 14), Ko 16 (.bin .eql 15 (Ki 1)), Km 17 16, Kg 18 (.mv 1) 17 true, Kg 19 (.ixs 18 (Ki 0)) 17 true, Kg 20 (.bin .lss 19 (Kj 128)) 17 true, Ko 21 (.pick 17 20 KF)]
 (.cond 21 (.seq (.regd [Kd 22 (.mv 0) 0, Kd 23 (.mv 1) 0, Kd 24 (.ixs 23 (Ki 0)) 2, Kd 25 (.call 124 [22, 24]) 7, Kd 26 (.mv 1) 0, Kd 27 (.ixs 26 (Ki 0)) 16, Kd 28 (.call 123 [25, 27]) 63, Kd 4 (.mv 28) 127])
 .ret) .skip))
 (.seq (Kr [Km 30 1, Ko 31 (.call 125 [30]), Km 29 31, Ko 32 (.ex 29 0), Ko 33 (.ex 29 1), Ko 5 (.alloc 164 [.bool false, .bool false, .bool false, .bool false, .bool false, .bool false, .bool false, .bool false, .bool false, .bool false, .bool false, .bool false, .bool false, .bool false, .bool false, .bool false, .bool false, .bool false, .bool false, .bool false, .bool false, .bool false, .bool false, .bool false, .bool false, .bool false, .bool false, .bool false, .bool false, .bool false, .bool false, .bool false, .bool false, .bool false, .bool false, .bool false, .bool false, .bool false, .bool false, .bool false, .bool false, .bool false, .bool false, .bool false, .bool false, .bool false, .bool false, .bool false, .bool false, .bool false, .bool false, .bool false, .bool false, .bool false, .bool false, .bool false, .bool false, .bool false, .bool false, .bool false, .bool false, .bool false, .bool false, .bool false, .bool false, .bool false, .bool false, .bool false, .bool false, .bool false, .bool false, .bool false, .bool false, .bool false, .bool false, .bool false, .bool false, .bool false, .bool false, .bool false, .bool false, .bool false, .bool false, .bool false, .bool false, .bool false, .bool false, .bool false, .bool false, .bool false, .bool false, .bool false, .bool false, .bool false, .bool false, .bool false, .bool false, .bool false, .bool false, .bool false, .bool false, .bool false, .bool false, .bool false, .bool false, .bool false, .bool false, .bool false, .bool false, .bool false, .bool false, .bool false, .bool false, .bool false, .bool false, .bool false, .bool false, .bool false, .bool false, .bool false, .bool false, .bool false, .bool false, .bool false, .bool false, .bool false, .bool false, .bool false, .bool false, .bool false, .bool false, .bool false, .bool false, .bool false, .bool false, .bool false, .bool false, .bool false, .bool false, .bool false, .bool false, .bool false, .bool false, .bool false, .bool false, .bool false, .bool false, .bool false, .bool false, .bool false, .bool false, .bool false, .bool false, .bool false, .bool false, .bool false, .bool false, .bool false, .bool false, .bool false, .bool false, .bool false, .bool false, .bool false, .bool false, .bool false, .bool false, .bool false, .bool false, .bool false, .bool false, .bool false, .bool false, .bool false, .bool false, .bool false, .bool false, .bool false, .bool false, .bool false, .bool false, .bool false, .bool false, .bool false, .bool false, .bool false, .bool false, .bool false, .bool false, .bool false, .bool false, .bool false, .bool false, .bool false, .bool false, .bool false, .bool false, .bool false, .bool false, .bool false, .bool false, .bool false, .bool false, .bool false, .bool false, .bool false, .bool false, .bool false, .bool false, .bool false, .bool false, .bool false, .bool false, .bool false, .bool false, .bool false, .bool false, .bool false, .bool false, .bool false, .bool false, .bool false, .bool false, .bool false, .bool false, .bool false, .bool false, .bool false, .bool false, .bool false, .bool false, .bool false, .bool false, .bool false, .bool false, .bool false, .bool false, .bool false, .bool false, .bool false, .bool false, .bool false, .bool false, .bool false, .bool false, .bool false, .bool false, .bool false, .bool false, .bool false, .bool false, .bool false, .bool false, .bool false, .bool false, .bool false]), Kn (.st 256 5 32), Km 6 33]
 (Kr [Km 34 6]
 (.cond 34 (Kr [Km 35 0, Ko 36 (.call 127 [35, 5]), Ko 37 (.call 126 [36, 5]), Km 4 37]
 .ret) .skip)))
 (Kr [Km 38 0, Km 39 1, Ko 40 (.call 129 [38, 39]), Km 41 1, Ko 42 (.call 128 [40, 41]), Km 4 42]
 .ret)))))⟩
def f110 : IFunc := ⟨37, [.t 4], (Kr [Ko 4 (.mv (.c (.str [])))]
 (.seq (Kr [Km 7 0, Ko 8 (.bin .eql 7 (.c (.str []))), Km 9 8, Kg 10 (.mv 1) 9 false, Kg 11 (.bin .eql 10 (.c (.str []))) 9 false, Ko 12 (.pick 9 KT 11)]
 (.cond 12 (Kr [Km 13 0, Km 4 13]
 .ret) .skip))
 (.seq (Kr [Km 14 1, Ko 15 (.len .s 14), Ko 16 (.bin .eql 15 (Ki 1)), Km 17 16, Kg 18 (.mv 1) 17 true, Kg 19 (.ixs 18 (Ki 0)) 17 true, Kg 20 (.bin .lss 19 (Kj 128)) 17 true, Ko 21 (.pick 17 20 KF)]
 (.cond 21 (Kr [Km 22 0, Km 23 1, Ko 24 (.ixs 23 (Ki 0)), Ko 25 (.call 123 [22, 24]), Km 4 25]
 .ret) .skip))
 (.seq (Kr [Km 27 1, Ko 28 (.call 125 [27]), Km 26 28, Ko 29 (.ex 26 0), Ko 30 (.ex 26 1), Ko 5 (.alloc 164 [.bool false, .bool false, .bool false, .bool false, .bool false, .bool false, .bool false, .bool false, .bool false, .bool false, .bool false, .bool false, .bool false, .bool false, .bool false, .bool false, .bool false, .bool false, .bool false, .bool false, .bool false, .bool false, .bool false, .bool false, .bool false, .bool false, .bool false, .bool false, .bool false, .bool false, .bool false, .bool false, .bool false, .bool false, .bool false, .bool false, .bool false, .bool false, .bool false, .bool false, .bool false, .bool false, .bool false, .bool false, .bool false, .bool false, .bool false, .bool false, .bool false, .bool false, .bool false, .bool false, .bool false, .bool false, .bool false, .bool false, .bool false, .bool false, .bool false, .bool false, .bool false, .bool false, .bool false, .bool false, .bool false, .bool false, .bool false, .bool false, .bool false, .bool false, .bool false, .bool false, .bool false, .bool false, .bool false, .bool false, .bool false, .bool false, .bool false, .bool false, .bool false, .bool false, .bool false, .bool false, .bool false, .bool false, .bool false, .bool false, .bool false, .bool false, .bool false, .bool false, .bool false, .bool false, .bool false, .bool false, .bool false, .bool false, .bool false, .bool false, .bool false, .bool false, .bool false, .bool false, .bool false, .bool false, .bool false, .bool false, .bool false, .bool false, .bool false, .bool false, .bool false, .bool false, .bool false, .bool false, .bool false, .bool false, .bool false, .bool false, .bool false, .bool false, .bool false, .bool false, .bool false, .bool false, .bool false, .bool false, .bool false, .bool false, .bool false, .bool false, .bool false, .bool false, .bool false, .bool false, .bool false, .bool false, .bool false, .bool false, .bool false, .bool false, .bool false, .bool false, .bool false, .bool false, .bool false, .bool false, .bool false, .bool false, .bool false, .bool false, .bool false, .bool false, .bool false, .bool false, .bool false, .bool false, .bool false, .bool false, .bool false, .bool false, .bool false, .bool false, .bool false, .bool false, .bool false, .bool false, .bool false, .bool false, .bool false, .bool false, .bool false, .bool false, .bool false, .bool false, .bool false, .bool false, .bool false, .bool false, .bool false, .bool false, .bool false, .bool false, .bool false, .bool false, .bool false, .bool false, .bool false, .bool false, .bool false, .bool false, .bool false, .bool false, .bool false, .bool false, .bool false, .bool false, .bool false, .bool false, .bool false, .bool false, .bool false, .bool false, .bool false, .bool false, .bool false, .bool false, .bool false, .bool false, .bool false, .bool false, .bool false, .bool false, .bool false, .bool false, .bool false, .bool false, .bool false, .bool false, .bool false, .bool false, .bool false, .bool false, .bool false, .bool false, .bool false, .bool false, .bool false, .bool false, .bool false, .bool false, .bool false, .bool false, .bool false, .bool false, .bool false, .bool false, .bool false, .bool false, .bool false, .bool false, .bool false, .bool false, .bool false, .bool false, .bool false, .bool false, .bool false, .bool false, .bool false, .bool false, .bool false, .bool false, .bool false, .bool false]), Kn (.st 256 5 29), Km 6 30]
 (Kr [Km 31 6]
 (.cond 31 (Kr [Km 32 0, Ko 33 (.call 126 [32, 5]), Km 4 33]
 .ret) .skip)))
 (Kr [Km 34 0, Km 35 1, Ko 36 (.call 128 [34, 35]), Km 4 36]
 .ret)))))⟩
def f111 : IFunc := ⟨15, [.t 2], (Kr [Ko 2 (.mv (.c (.str [])))]
 (.seq (Kr [Km 3 0, Ko 4 (.bin .lss 3 (Ki 10))]
 (.cond 4 (Kr [Km 5 0, Km 6 0, Ko 7 (.bin .add 6 (Ki 1)), Ko 8 (.sls (.c (.str ks1)) (some 5) (some 7)), Km 2 8]
 .ret) .skip))
 (Kr [Km 9 0, Ko 10 (.bin .mul 9 (Ki 2)), Km 11 0, Ko 12 (.bin .mul 11 (Ki 2)), Ko 13 (.bin .add 12 (Ki 2)), Ko 14 (.sls (.c (.str ks0)) (some 10) (some 13)), Km 2 14]
 .ret)))⟩
def f112 : IFunc := ⟨15, [.t 2], (Kr [Km 2 (Ki 0)]
 (Kr [Km 4 0, Ko 5 (.call 131 [4]), Ko 6 (.call 130 [5]), Km 3 6]
 (Kr [Km 7 3, Km 8 0, Km 9 3, Ko 10 (.iaa 20 1 (.c (.gptr 1 0)) 9), Ko 11 (.ld 10), Ko 12 (.bin .geq 8 11), Ko 13 (.call 132 [12]), Ko 14 (.bin .add 7 13), Km 2 14]
 .ret)))⟩
def f113 : IFunc := ⟨167, [], (Kr [Km 17 0, Ko 18 (.len .v 17), Km 4 18]
 (.seq (.block 0 (.loop (.seq (Kr [Km 19 4, Ko 20 (.bin .geq 19 (Ki 8))]
 (.cond 20 .skip (.exit 0)))
 (.block 1 (Kr [Km 21 1, Ko 22 (.bin .rem 21 (Kq 100000000)), Ko 23 (.ci .u32 22), Km 5 23]
 (Kr [Km 24 1, Ko 25 (.bin .quo 24 (Kq 100000000)), Km 1 25]
 (Kr [Km 26 5, Ko 27 (.bin .quo 26 (Ku 10000)), Km 28 5, Ko 29 (.bin .rem 28 (Ku 10000)), Km 6 27, Km 7 29]
 (Kr [Km 30 7, Ko 31 (.bin .quo 30 (Ku 100)), Ko 32 (.bin .mul 31 (Ku 2)), Km 33 7, Ko 34 (.bin .rem 33 (Ku 100)), Ko 35 (.bin .mul 34 (Ku 2)), Km 8 32, Km 9 35]
 (Kr [Km 36 6, Ko 37 (.bin .quo 36 (Ku 100)), Ko 38 (.bin .mul 37 (Ku 2)), Km 39 6, Ko 40 (.bin .rem 39 (Ku 100)), Ko 41 (.bin .mul 40 (Ku 2)), Km 10 38, Km 11 41]
 (.seq (.regd [Kd 42 (.mv 0) 0, Kd 43 (.mv 4) 0, Kd 44 (.bin .sub 43 (Ki 1)) 2, Kd 45 (.mv 0) 0, Kd 46 (.mv 4) 0, Kd 47 (.bin .sub 46 (Ki 2)) 16, Kd 48 (.mv 9) 0, Kd 49 (.bin .add 48 (Ku 1)) 64, Kd 50 (.ixs (.c (.str ks0)) 49) 192, Kd 51 (.mv 9) 0, Kd 52 (.ixs (.c (.str ks0)) 51) 512, Kd 53 (.ia 1 42 44) 455, Kf (.st 1 53 50) 2503, Kd 54 (.ia 1 45 47) 8191, Kf (.st 1 54 52) 16383])
 (.seq (.regd [Kd 55 (.mv 0) 0, Kd 56 (.mv 4) 0, Kd 57 (.bin .sub 56 (Ki 3)) 2, Kd 58 (.mv 0) 0, Kd 59 (.mv 4) 0, Kd 60 (.bin .sub 59 (Ki 4)) 16, Kd 61 (.mv 8) 0, Kd 62 (.bin .add 61 (Ku 1)) 64, Kd 63 (.ixs (.c (.str ks0)) 62) 192, Kd 64 (.mv 8) 0, Kd 65 (.ixs (.c (.str ks0)) 64) 512, Kd 66 (.ia 1 55 57) 455, Kf (.st 1 66 63) 2503, Kd 67 (.ia 1 58 60) 8191, Kf (.st 1 67 65) 16383])
 (.seq (.regd [Kd 68 (.mv 0) 0, Kd 69 (.mv 4) 0, Kd 70 (.bin .sub 69 (Ki 5)) 2, Kd 71 (.mv 0) 0, Kd 72 (.mv 4) 0, Kd 73 (.bin .sub 72 (Ki 6)) 16, Kd 74 (.mv 11) 0, Kd 75 (.bin .add 74 (Ku 1)) 64, Kd 76 (.ixs (.c (.str ks0)) 75) 192, Kd 77 (.mv 11) 0, Kd 78 (.ixs (.c (.str ks0)) 77) 512, Kd 79 (.ia 1 68 70) 455, Kf (.st 1 79 76) 2503, Kd 80 (.ia 1 71 73) 8191, Kf (.st 1 80 78) 16383])
 (.seq (.regd [Kd 81 (.mv 0) 0, Kd 82 (.mv 4) 0, Kd 83 (.bin .sub 82 (Ki 7)) 2, Kd 84 (.mv 0) 0, Kd 85 (.mv 4) 0, Kd 86 (.bin .sub 85 (Ki 8)) 16, Kd 87 (.mv 10) 0, Kd 88 (.bin .add 87 (Ku 1)) 64, Kd 89 (.ixs (.c (.str ks0)) 88) 192, Kd 90 (.mv 10) 0, Kd 91 (.ixs (.c (.str ks0)) 90) 512, Kd 92 (.ia 1 81 83) 455, Kf (.st 1 92 89) 2503, Kd 93 (.ia 1 84 86) 8191, Kf (.st 1 93 91) 16383])
 (.reg [Km 94 4, Ko 95 (.bin .sub 94 (Ki 8)), Km 4 95]))))))))))))))
 (Kr [Km 96 1, Ko 97 (.ci .u32 96), Km 12 97]
 (.seq (Kr [Km 98 4, Ko 99 (.bin .geq 98 (Ki 4))]
 (.cond 99 (Kr [Km 100 12, Ko 101 (.bin .rem 100 (Ku 10000)), Km 13 101]
 (Kr [Km 102 12, Ko 103 (.bin .quo 102 (Ku 10000)), Km 12 103]
 (Kr [Km 104 13, Ko 105 (.bin .quo 104 (Ku 100)), Ko 106 (.bin .mul 105 (Ku 2)), Km 107 13, Ko 108 (.bin .rem 107 (Ku 100)), Ko 109 (.bin .mul 108 (Ku 2)), Km 14 106, Km 15 109]
 (.seq (.regd [Kd 110 (.mv 0) 0, Kd 111 (.mv 4) 0, Kd 112 (.bin .sub 111 (Ki 1)) 2, Kd 113 (.mv 0) 0, Kd 114 (.mv 4) 0, Kd 115 (.bin .sub 114 (Ki 2)) 16, Kd 116 (.mv 15) 0, Kd 117 (.bin .add 116 (Ku 1)) 64, Kd 118 (.ixs (.c (.str ks0)) 117) 192, Kd 119 (.mv 15) 0, Kd 120 (.ixs (.c (.str ks0)) 119) 512, Kd 121 (.ia 1 110 112) 455, Kf (.st 1 121 118) 2503, Kd 122 (.ia 1 113 115) 8191, Kf (.st 1 122 120) 16383])
 (.seq (.regd [Kd 123 (.mv 0) 0, Kd 124 (.mv 4) 0, Kd 125 (.bin .sub 124 (Ki 3)) 2, Kd 126 (.mv 0) 0, Kd 127 (.mv 4) 0, Kd 128 (.bin .sub 127 (Ki 4)) 16, Kd 129 (.mv 14) 0, Kd 130 (.bin .add 129 (Ku 1)) 64, Kd 131 (.ixs (.c (.str ks0)) 130) 192, Kd 132 (.mv 14) 0, Kd 133 (.ixs (.c (.str ks0)) 132) 512, Kd 134 (.ia 1 123 125) 455, Kf (.st 1 134 131) 2503, Kd 135 (.ia 1 126 128) 8191, Kf (.st 1 135 133) 16383])
 (.reg [Km 136 4, Ko 137 (.bin .sub 136 (Ki 4)), Km 4 137])))))) .skip))
 (.seq (Kr [Km 138 4, Ko 139 (.bin .geq 138 (Ki 2))]
 (.cond 139 (Kr [Km 140 12, Ko 141 (.bin .rem 140 (Ku 100)), Ko 142 (.bin .mul 141 (Ku 2)), Km 16 142]
 (Kr [Km 143 12, Ko 144 (.bin .quo 143 (Ku 100)), Km 12 144]
 (.seq (.regd [Kd 145 (.mv 0) 0, Kd 146 (.mv 4) 0, Kd 147 (.bin .sub 146 (Ki 1)) 2, Kd 148 (.mv 0) 0, Kd 149 (.mv 4) 0, Kd 150 (.bin .sub 149 (Ki 2)) 16, Kd 151 (.mv 16) 0, Kd 152 (.bin .add 151 (Ku 1)) 64, Kd 153 (.ixs (.c (.str ks0)) 152) 192, Kd 154 (.mv 16) 0, Kd 155 (.ixs (.c (.str ks0)) 154) 512, Kd 156 (.ia 1 145 147) 455, Kf (.st 1 156 153) 2503, Kd 157 (.ia 1 148 150) 8191, Kf (.st 1 157 155) 16383])
 (.reg [Km 158 4, Ko 159 (.bin .sub 158 (Ki 2)), Km 4 159])))) .skip))
 (Kr [Km 160 4, Ko 161 (.bin .gtr 160 (Ki 0))]
 (.cond 161 (.reg [Km 162 0, Km 163 12, Ko 164 (.bin .add (Ku 48) 163), Ko 165 (.ci .u8 164), Ko 166 (.ia 1 162 (Ki 0)), Kn (.st 1 166 165)]) .skip)))))))⟩
def f114 : IFunc := ⟨102, [.t 10, .t 11], (Kr [Km 10 (.c .nils), Ko 11 (.mv (.c (.str [])))]
 (.seq (Kr [Km 19 2, Ko 20 (.bin .lss 19 (Ki 2)), Km 21 20, Kg 22 (.mv 2) 21 false, Kg 23 (.bin .eql 22 (Ki 10)) 21 false, Ko 24 (.pick 21 KT 23), Km 25 24, Kg 26 (.mv 2) 25 false, Kg 27 (.bin .gtr 26 (Ki 36)) 25 false, Ko 28 (.pick 25 KT 27)]
 (.cond 28 (.reg [Ko 29 (.mif 9 (.c (.str [115, 116, 114, 99, 111, 110, 118, 58, 32, 105, 108, 108, 101, 103, 97, 108, 32, 65, 112, 112, 101, 110, 100, 73, 110, 116, 47, 70, 111, 114, 109, 97, 116, 73, 110, 116, 32, 98, 97, 115, 101]))), Kn .stk]) .skip))
 (Kr [Ko 12 (.alloc 172 [Kw 0, Kw 0, Kw 0, Kw 0, Kw 0, Kw 0, Kw 0, Kw 0, Kw 0, Kw 0, Kw 0, Kw 0, Kw 0, Kw 0, Kw 0, Kw 0, Kw 0, Kw 0, Kw 0, Kw 0, Kw 0, Kw 0, Kw 0, Kw 0, Kw 0, Kw 0, Kw 0, Kw 0, Kw 0, Kw 0, Kw 0, Kw 0, Kw 0, Kw 0, Kw 0, Kw 0, Kw 0, Kw 0, Kw 0, Kw 0, Kw 0, Kw 0, Kw 0, Kw 0, Kw 0, Kw 0, Kw 0, Kw 0, Kw 0, Kw 0, Kw 0, Kw 0, Kw 0, Kw 0, Kw 0, Kw 0, Kw 0, Kw 0, Kw 0, Kw 0, Kw 0, Kw 0, Kw 0, Kw 0, Kw 0])]
 (Kr [Km 13 (Ki 65)]
 (.seq (Kr [Km 30 3]
 (.cond 30 (.reg [Km 31 1, Ko 32 (.un .neg 31), Km 1 32]) .skip))
 (.seq (Kr [Km 33 2, Ko 34 (.call 133 [33])]
 (.cond 34 (Kr [Km 35 2, Ko 36 (.ci .u64 35), Ko 37 (.call 134 [36]), Ko 38 (.ci .u64 37), Km 14 38]
 (Kr [Km 39 2, Ko 40 (.ci .u64 39), Km 15 40]
 (Kr [Km 41 2, Ko 42 (.ci .u64 41), Ko 43 (.bin .sub 42 (Kq 1)), Km 16 43]
 (.seq (.block 0 (.loop (.seq (Kr [Km 44 1, Km 45 15, Ko 46 (.bin .geq 44 45)]
 (.cond 46 .skip (.exit 0)))
 (.block 1 (Kr [Km 47 13, Ko 48 (.bin .sub 47 (Ki 1)), Km 13 48]
 (Kr [Km 49 13, Km 50 1, Km 51 16, Ko 52 (.bin .and 50 51), Ko 53 (.ixs (.c (.str ks1)) 52), Ko 54 (.iaa 65 1 12 49), Kn (.st 1 54 53)]
 (.reg [Km 55 1, Km 56 14, Ko 57 (.bin .shr 55 56), Km 1 57])))))))
 (Kr [Km 58 13, Ko 59 (.bin .sub 58 (Ki 1)), Km 13 59]
 (.reg [Km 60 13, Km 61 1, Ko 62 (.ixs (.c (.str ks1)) 61), Ko 63 (.iaa 65 1 12 60), Kn (.st 1 63 62)])))))) (Kr [Km 64 2, Ko 65 (.ci .u64 64), Km 17 65]
 (.seq (.block 2 (.loop (.seq (Kr [Km 66 1, Km 67 17, Ko 68 (.bin .geq 66 67)]
 (.cond 68 .skip (.exit 2)))
 (.block 3 (Kr [Km 69 13, Ko 70 (.bin .sub 69 (Ki 1)), Km 13 70]
 (Kr [Km 71 1, Km 72 17, Ko 73 (.bin .quo 71 72), Km 18 73]
 (Kr [Km 74 13, Km 75 1, Km 76 18, Km 77 17, Ko 78 (.bin .mul 76 77), Ko 79 (.bin .sub 75 78), Ko 80 (.ixs (.c (.str ks1)) 79), Ko 81 (.iaa 65 1 12 74), Kn (.st 1 81 80)]
 (.reg [Km 82 18, Km 1 82]))))))))
 (Kr [Km 83 13, Ko 84 (.bin .sub 83 (Ki 1)), Km 13 84]
 (.reg [Km 85 13, Km 86 1, Ko 87 (.ixs (.c (.str ks1)) 86), Ko 88 (.iaa 65 1 12 85), Kn (.st 1 88 87)]))))))
 (.seq (Kr [Km 89 3]
 (.cond 89 (Kr [Km 90 13, Ko 91 (.bin .sub 90 (Ki 1)), Km 13 91]
 (.reg [Km 92 13, Ko 93 (.iaa 65 1 12 92), Kn (.st 1 93 (Kj 45))])) .skip))
 (.seq (Kr [Km 94 4]
 (.cond 94 (Kr [Km 95 0, Km 96 13, Ko 97 (.sla 65 1 12 (some 96) none none), Ko 98 (.app 5 1 1 95 97), Km 10 98]
 .ret) .skip))
 (Kr [Km 99 13, Ko 100 (.sla 65 1 12 (some 99) none none), Ko 101 (.cbs 100), Km 11 101]
 .ret)))))))))⟩
def f115 : IFunc := ⟨18, [.t 4], (Kr [Km 4 KF]
 (Kr [Km 5 (.t 0), Ko 6 (.len .s (.t 5)), Km 7 (.t 1), Ko 8 (.len .s (.t 7)), Ko 9 (.bin .geq (.t 6) (.t 8)), Km 10 (.t 9), Kg 11 (.mv (.t 0)) 10 true, Kg 12 (.mv (.t 1)) 10 true, Kg 13 (.len .s (.t 12)) 10 true, Kg 14 (.sls (.t 11) none (some (.t 13))) 10 true, Kg 15 (.mv (.t 1)) 10 true, Kg 16 (.bin .eql (.t 14) (.t 15)) 10 true, Ko 17 (.pick (.t 10) (.t 16) KF), Km 4 (.t 17)]
 .ret))⟩
def f116 : IFunc := ⟨21, [.t 6], (Kr [Km 6 (Ki 0)]
 (.seq (Kr [Km 9 0, Ko 10 (.rs 9)]
 (.block 0 (.loop (Kr [Ko 11 (.ns 10), Ko 12 (.ex 11 0)]
 (.seq (.cond 12 .skip (.exit 0))
 (.block 1 (Kr [Ko 13 (.ex 11 1), Ko 14 (.ex 11 2), Km 7 13, Km 8 14]
 (Kr [Km 15 1, Km 16 8, Ko 17 (.cv 15 [16]), Km 18 2, Ko 19 (.eqk .bool false 17 18)]
 (.cond 19 (Kr [Km 20 7, Km 6 20]
 .ret) .skip)))))))))
 (Kr [Ko 6 (.mv (.c (.int .i64 (.negSucc 0))))]
 .ret)))⟩
def f117 : IFunc := ⟨122, [.t 2, .t 3], (Kr [Km 2 (Kc 0), Km 3 (Ki 0)]
 (Kr [Km 13 0, Ko 14 (.len .v 13), Km 4 14]
 (.seq (Kr [Km 15 4, Ko 16 (.bin .lss 15 (Ki 1))]
 (.cond 16 (Kr [Km 2 (Kc 65533), Km 3 (Ki 0)]
 .ret) .skip))
 (Kr [Km 17 0, Ko 18 (.ia 1 17 (Ki 0)), Ko 19 (.ld 18), Km 5 19]
 (Kr [Km 20 5, Ko 21 (.iaa 256 1 (.c (.gptr 2 0)) 20), Ko 22 (.ld 21), Km 6 22]
 (.seq (Kr [Km 23 6, Ko 24 (.bin .geq 23 (Kj 240))]
 (.cond 24 (Kr [Km 25 6, Ko 26 (.ci .i32 25), Ko 27 (.bin .shl 26 (Kq 31)), Ko 28 (.bin .shr 27 (Kq 31)), Km 7 28]
 (Kr [Km 29 0, Ko 30 (.ia 1 29 (Ki 0)), Ko 31 (.ld 30), Ko 32 (.ci .i32 31), Km 33 7, Ko 34 (.bin .andNot 32 33), Km 35 7, Ko 36 (.bin .and (Kc 65533) 35), Ko 37 (.bin .or 34 36), Km 2 37, Km 3 (Ki 1)]
 .ret)) .skip))
 (Kr [Km 38 6, Ko 39 (.bin .and 38 (Kj 7)), Ko 40 (.ci .i64 39), Km 8 40]
 (Kr [Km 41 6, Ko 42 (.bin .shr 41 (Kq 4)), Ko 43 (.iaa 16 2 (.c (.gptr 3 0)) 42), Ko 44 (.ldn 2 43), Ko 9 (.alloc 176 [Kw 0, Kw 0]), Kn (.st 2 9 44)]
 (.seq (Kr [Km 45 4, Km 46 8, Ko 47 (.bin .lss 45 46)]
 (.cond 47 (Kr [Km 2 (Kc 65533), Km 3 (Ki 1)]
 .ret) .skip))
 (Kr [Km 48 0, Ko 49 (.ia 1 48 (Ki 1)), Ko 50 (.ld 49), Km 10 50]
 (.seq (Kr [Km 51 10, Ko 52 (.fa 0 9), Ko 53 (.ld 52), Ko 54 (.bin .lss 51 53), Km 55 54, Kg 56 (.fa 1 9) 55 false, Kg 57 (.ld 56) 55 false, Kg 58 (.mv 10) 55 false, Kg 59 (.bin .lss 57 58) 55 false, Ko 60 (.pick 55 KT 59)]
 (.cond 60 (Kr [Km 2 (Kc 65533), Km 3 (Ki 1)]
 .ret) .skip))
 (.seq (Kr [Km 61 8, Ko 62 (.bin .leq 61 (Ki 2))]
 (.cond 62 (Kr [Km 63 5, Ko 64 (.bin .and 63 (Kj 31)), Ko 65 (.ci .i32 64), Ko 66 (.bin .shl 65 (Kq 6)), Km 67 10, Ko 68 (.bin .and 67 (Kj 63)), Ko 69 (.ci .i32 68), Ko 70 (.bin .or 66 69), Km 2 70, Km 3 (Ki 2)]
 .ret) .skip))
 (Kr [Km 71 0, Ko 72 (.ia 1 71 (Ki 2)), Ko 73 (.ld 72), Km 11 73]
 (.seq (Kr [Km 74 11, Ko 75 (.bin .lss 74 (Kj 128)), Km 76 75, Kg 77 (.mv 11) 76 false, Kg 78 (.bin .lss (Kj 191) 77) 76 false, Ko 79 (.pick 76 KT 78)]
 (.cond 79 (Kr [Km 2 (Kc 65533), Km 3 (Ki 1)]
 .ret) .skip))
 (.seq (Kr [Km 80 8, Ko 81 (.bin .leq 80 (Ki 3))]
 (.cond 81 (Kr [Km 82 5, Ko 83 (.bin .and 82 (Kj 15)), Ko 84 (.ci .i32 83), Ko 85 (.bin .shl 84 (Kq 12)), Km 86 10, Ko 87 (.bin .and 86 (Kj 63)), Ko 88 (.ci .i32 87), Ko 89 (.bin .shl 88 (Kq 6)), Ko 90 (.bin .or 85 89), Km 91 11, Ko 92 (.bin .and 91 (Kj 63)), Ko 93 (.ci .i32 92), Ko 94 (.bin .or 90 93), Km 2 94, Km 3 (Ki 3)]
 .ret) .skip))
 (Kr [Km 95 0, Ko 96 (.ia 1 95 (Ki 3)), Ko 97 (.ld 96), Km 12 97]
 (.seq (Kr [Km 98 12, Ko 99 (.bin .lss 98 (Kj 128)), Km 100 99, Kg 101 (.mv 12) 100 false, Kg 102 (.bin .lss (Kj 191) 101) 100 false, Ko 103 (.pick 100 KT 102)]
 (.cond 103 (Kr [Km 2 (Kc 65533), Km 3 (Ki 1)]
 .ret) .skip))
 (Kr [Km 104 5, Ko 105 (.bin .and 104 (Kj 7)), Ko 106 (.ci .i32 105), Ko 107 (.bin .shl 106 (Kq 18)), Km 108 10, Ko 109 (.bin .and 108 (Kj 63)), Ko 110 (.ci .i32 109), Ko 111 (.bin .shl 110 (Kq 12)), Ko 112 (.bin .or 107 111), Km 113 11, Ko 114 (.bin .and 113 (Kj 63)), Ko 115 (.ci .i32 114), Ko 116 (.bin .shl 115 (Kq 6)), Ko 117 (.bin .or 112 116), Km 118 12, Ko 119 (.bin .and 118 (Kj 63)), Ko 120 (.ci .i32 119), Ko 121 (.bin .or 117 120), Km 2 121, Km 3 (Ki 4)]
 .ret))))))))))))))))))⟩
def f123 : IFunc := ⟨17, [.t 4], (Kr [Ko 4 (.mv (.c (.str [])))]
 (.seq (.block 0 (.loop (.seq (Kr [Km 5 0, Ko 6 (.len .s 5), Ko 7 (.bin .gtr 6 (Ki 0)), Km 8 7, Kg 9 (.mv 0) 8 true, Kg 10 (.ixs 9 (Ki 0)) 8 true, Kg 11 (.mv 1) 8 true, Kg 12 (.bin .eql 10 11) 8 true, Ko 13 (.pick 8 12 KF)]
 (.cond 13 .skip (.exit 0)))
 (.block 1 (.reg [Km 14 0, Ko 15 (.sls 14 (some (Ki 1)) none), Km 0 15])))))
 (Kr [Km 16 0, Km 4 16]
 .ret)))⟩
def f125 : IFunc := ⟨21, [.cn 2 256, .t 3], (Kr [Ko 2 (.alloc 164 [.bool false, .bool false, .bool false, .bool false, .bool false, .bool false, .bool false, .bool false, .bool false, .bool false, .bool false, .bool false, .bool false, .bool false, .bool false, .bool false, .bool false, .bool false, .bool false, .bool false, .bool false, .bool false, .bool false, .bool false, .bool false, .bool false, .bool false, .bool false, .bool false, .bool false, .bool false, .bool false, .bool false, .bool false, .bool false, .bool false, .bool false, .bool false, .bool false, .bool false, .bool false, .bool false, .bool false, .bool false, .bool false, .bool false, .bool false, .bool false, .bool false, .bool false, .bool false, .bool false, .bool false, .bool false, .bool false, .bool false, .bool false, .bool false, .bool false, .bool false, .bool false, .bool false, .bool false, .bool false, .bool false, .bool false, .bool false, .bool false, .bool false, .bool false, .bool false, .bool false, .bool false, .bool false, .bool false, .bool false, .bool false, .bool false, .bool false, .bool false, .bool false, .bool false, .bool false, .bool false, .bool false, .bool false, .bool false, .bool false, .bool false, .bool false, .bool false, .bool false, .bool false, .bool false, .bool false, .bool false, .bool false, .bool false, .bool false, .bool false, .bool false, .bool false, .bool false, .bool false, .bool false, .bool false, .bool false, .bool false, .bool false, .bool false, .bool false, .bool false, .bool false, .bool false, .bool false, .bool false, .bool false, .bool false, .bool false, .bool false, .bool false, .bool false, .bool false, .bool false, .bool false, .bool false, .bool false, .bool false, .bool false, .bool false, .bool false, .bool false, .bool false, .bool false, .bool false, .bool false, .bool false, .bool false, .bool false, .bool false, .bool false, .bool false, .bool false, .bool false, .bool false, .bool false, .bool false, .bool false, .bool false, .bool false, .bool false, .bool false, .bool false, .bool false, .bool false, .bool false, .bool false, .bool false, .bool false, .bool false, .bool false, .bool false, .bool false, .bool false, .bool false, .bool false, .bool false, .bool false, .bool false, .bool false, .bool false, .bool false, .bool false, .bool false, .bool false, .bool false, .bool false, .bool false, .bool false, .bool false, .bool false, .bool false, .bool false, .bool false, .bool false, .bool false, .bool false, .bool false, .bool false, .bool false, .bool false, .bool false, .bool false, .bool false, .bool false, .bool false, .bool false, .bool false, .bool false, .bool false, .bool false, .bool false, .bool false, .bool false, .bool false, .bool false, .bool false, .bool false, .bool false, .bool false, .bool false, .bool false, .bool false, .bool false, .bool false, .bool false, .bool false, .bool false, .bool false, .bool false, .bool false, .bool false, .bool false, .bool false, .bool false, .bool false, .bool false, .bool false, .bool false, .bool false, .bool false, .bool false, .bool false, .bool false, .bool false, .bool false, .bool false, .bool false, .bool false, .bool false, .bool false, .bool false, .bool false, .bool false, .bool false, .bool false, .bool false, .bool false, .bool false, .bool false, .bool false, .bool false, .bool false, .bool false, .bool false, .bool false]), Km 3 KF]
 (.seq (Kr [Km 4 (Ki 0)]
 (.block 0 (.loop (.seq (Kr [Km 6 4, Km 7 0, Ko 8 (.len .s 7), Ko 9 (.bin .lss 6 8)]
 (.cond 9 .skip (.exit 0)))
 (.seq (.block 1 (Kr [Km 12 0, Km 13 4, Ko 14 (.ixs 12 13), Km 5 14]
 (.seq (Kr [Km 15 5, Ko 16 (.bin .geq 15 (Kj 128))]
 (.cond 16 (Kr [Ko 17 (.ldn 256 2), Kn (.st 256 2 17), Km 3 KF]
 .ret) .skip))
 (.reg [Km 18 5, Ko 19 (.iaa 256 1 2 18), Kn (.st 1 19 KT)]))))
 (.reg [Km 10 4, Ko 11 (.bin .add 10 (Ki 1)), Km 4 11]))))))
 (Kr [Ko 20 (.ldn 256 2), Kn (.st 256 2 20), Km 3 KT]
 .ret)))⟩
def f126 : IFunc := ⟨16, [.t 4], (Kr [Ko 4 (.mv (.c (.str [])))]
 (.seq (.block 0 (.loop (.seq (Kr [Km 5 0, Ko 6 (.len .s 5), Ko 7 (.bin .gtr 6 (Ki 0))]
 (.cond 7 .skip (.exit 0)))
 (.block 1 (.seq (Kr [Km 8 1, Km 9 0, Ko 10 (.ixs 9 (Ki 0)), Ko 11 (.call 138 [8, 10]), Ko 12 (.un .not 11)]
 (.cond 12 (.exit 0) .skip))
 (.reg [Km 13 0, Ko 14 (.sls 13 (some (Ki 1)) none), Km 0 14]))))))
 (Kr [Km 15 0, Km 4 15]
 .ret)))⟩
def f127 : IFunc := ⟨22, [.t 4], (Kr [Ko 4 (.mv (.c (.str [])))]
 (.seq (.block 0 (.loop (.seq (Kr [Km 5 0, Ko 6 (.len .s 5), Ko 7 (.bin .gtr 6 (Ki 0))]
 (.cond 7 .skip (.exit 0)))
 (.block 1 (.seq (Kr [Km 8 1, Km 9 0, Km 10 0, Ko 11 (.len .s 10), Ko 12 (.bin .sub 11 (Ki 1)), Ko 13 (.ixs 9 12), Ko 14 (.call 138 [8, 13]), Ko 15 (.un .not 14)]
 (.cond 15 (.exit 0) .skip))
 (.reg [Km 16 0, Km 17 0, Ko 18 (.len .s 17), Ko 19 (.bin .sub 18 (Ki 1)), Ko 20 (.sls 16 none (some 19)), Km 0 20]))))))
 (Kr [Km 21 0, Km 4 21]
 .ret)))⟩
def f130 : IFunc := ⟨6, [.t 2], (Kr [Km 2 (Ki 0)]
 (Kr [Km 3 0, Ko 4 (.bin .mul 3 (Ki 78913)), Ko 5 (.bin .shr 4 (Kq 18)), Km 2 5]
 .ret))⟩
def f131 : IFunc := ⟨25, [.t 2], (Kr [Km 2 (Ki 0)]
 (.seq (Kr [Km 3 0, Ko 4 (.bin .geq 3 (Kq 4294967296))]
 (.cond 4 (Kr [Km 5 0, Ko 6 (.bin .shr 5 (Kq 32)), Km 0 6]
 (.reg [Km 2 (Ki 32)])) .skip))
 (.seq (Kr [Km 7 0, Ko 8 (.bin .geq 7 (Kq 65536))]
 (.cond 8 (Kr [Km 9 0, Ko 10 (.bin .shr 9 (Kq 16)), Km 0 10]
 (.reg [Km 11 2, Ko 12 (.bin .add 11 (Ki 16)), Km 2 12])) .skip))
 (.seq (Kr [Km 13 0, Ko 14 (.bin .geq 13 (Kq 256))]
 (.cond 14 (Kr [Km 15 0, Ko 16 (.bin .shr 15 (Kq 8)), Km 0 16]
 (.reg [Km 17 2, Ko 18 (.bin .add 17 (Ki 8)), Km 2 18])) .skip))
 (Kr [Km 19 2, Km 20 0, Ko 21 (.ci .u8 20), Ko 22 (.ixs (.c (.str [0, 1, 2, 2, 3, 3, 3, 3, 4, 4, 4, 4, 4, 4, 4, 4, 5, 5, 5, 5, 5, 5, 5, 5, 5, 5, 5, 5, 5, 5, 5, 5, 6, 6, 6, 6, 6, 6, 6, 6, 6, 6, 6, 6, 6, 6, 6, 6, 6, 6, 6, 6, 6, 6, 6, 6, 6, 6, 6, 6, 6, 6, 6, 6, 7, 7, 7, 7, 7, 7, 7, 7, 7, 7, 7, 7, 7, 7, 7, 7, 7, 7, 7, 7, 7, 7, 7, 7, 7, 7, 7, 7, 7, 7, 7, 7, 7, 7, 7, 7, 7, 7, 7, 7, 7, 7, 7, 7, 7, 7, 7, 7, 7, 7, 7, 7, 7, 7, 7, 7, 7, 7, 7, 7, 7, 7, 7, 7, 8, 8, 8, 8, 8, 8, 8, 8, 8, 8, 8, 8, 8, 8, 8, 8, 8, 8, 8, 8, 8, 8, 8, 8, 8, 8, 8, 8, 8, 8, 8, 8, 8, 8, 8, 8, 8, 8, 8, 8, 8, 8, 8, 8, 8, 8, 8, 8, 8, 8, 8, 8, 8, 8, 8, 8, 8, 8, 8, 8, 8, 8, 8, 8, 8, 8, 8, 8, 8, 8, 8, 8, 8, 8, 8, 8, 8, 8, 8, 8, 8, 8, 8, 8, 8, 8, 8, 8, 8, 8, 8, 8, 8, 8, 8, 8, 8, 8, 8, 8, 8, 8, 8, 8, 8, 8, 8, 8, 8, 8, 8, 8, 8, 8, 8, 8, 8, 8, 8, 8, 8, 8, 8, 8, 8, 8, 8, 8])) 21), Ko 23 (.ci .i64 22), Ko 24 (.bin .add 19 23), Km 2 24]
 .ret)))))⟩
def f132 : IFunc := ⟨4, [.t 2], (Kr [Km 2 (Ki 0)]
 (.seq (Kr [Km 3 0]
 (.cond 3 (Kr [Km 2 (Ki 1)]
 .ret) .skip))
 (Kr [Km 2 (Ki 0)]
 .ret)))⟩
def f133 : IFunc := ⟨8, [.t 2], (Kr [Km 2 KF]
 (Kr [Km 3 0, Km 4 0, Ko 5 (.bin .sub 4 (Ki 1)), Ko 6 (.bin .and 3 5), Ko 7 (.bin .eql 6 (Ki 0)), Km 2 7]
 .ret))⟩
def f134 : IFunc := ⟨8, [.t 2], (Kr [Km 2 (Ki 0)]
 (.seq (.cond KF (Kr [Km 3 0, Ko 4 (.ci .u32 3), Ko 5 (.call 142 [4]), Km 2 5]
 .ret) .skip)
 (Kr [Km 6 0, Ko 7 (.call 143 [6]), Km 2 7]
 .ret)))⟩
def f138 : IFunc := ⟨10, [.t 4], (Kr [Km 4 KF]
 (Kr [Km 5 (.t 0), Km 6 (.t 1), Ko 7 (.nck (.t 5)), Ko 8 (.iaa 256 1 (.t 7) (.t 6)), Ko 9 (.ld (.t 8)), Km 4 (.t 9)]
 .ret))⟩
def f143 : IFunc := ⟨14, [.t 2], (Kr [Km 2 (Ki 0)]
 (.seq (Kr [Km 3 0, Ko 4 (.bin .eql 3 (Kq 0))]
 (.cond 4 (Kr [Km 2 (Ki 64)]
 .ret) .skip))
 (Kr [Km 5 0, Km 6 0, Ko 7 (.un .neg 6), Ko 8 (.bin .and 5 7), Ko 9 (.bin .mul 8 (Kq 285870213051353865)), Ko 10 (.bin .shr 9 (Kq 58)), Ko 11 (.iaa 64 1 (.c (.gptr 7 0)) 10), Ko 12 (.ld 11), Ko 13 (.ci .i64 12), Km 2 13]
 .ret)))⟩
abbrev nd (f : IFunc) (l r : Trie IFunc) : Trie IFunc := .node (some f) l r
abbrev nf (f : IFunc) : Trie IFunc := .node (some f) .leaf .leaf
abbrev nz (l r : Trie IFunc) : Trie IFunc := .node none l r
abbrev nl : Trie IFunc := .leaf
def tbl : Trie IFunc := (nz (nz (nz (nz (nd f15 (nd f31 (nd f63 (nf f127) nl) (nf f95)) (nz (nd f79 (nf f143) nl) (nf f111))) (nd f23 (nd f39 (nf f71) (nf f103)) (nd f55 (nf f87) nl))) (nd f11 (nd f19 (nd f35 (nd f67 (nf f131) nl) (nf f99)) (nd f51 (nf f83) (nf f115))) (nd f27 (nd f43 (nf f75) nl) (nd f59 (nf f91) (nf f123))))) (nz (nd f9 (nd f17 (nd f33 (nf f65) (nf f97)) (nd f49 (nf f81) (nf f113))) (nd f25 (nd f41 (nf f73) nl) (nd f57 (nf f89) nl))) (nd f13 (nd f21 (nd f37 (nd f69 (nf f133) nl) (nf f101)) (nz (nf f85) (nf f117))) (nz (nz nl (nf f109)) (nd f61 (nf f93) (nf f125)))))) (nz (nd f4 (nd f8 (nd f16 (nd f32 (nf f64) (nf f96)) (nz (nf f80) (nf f112))) (nd f24 (nd f40 (nf f72) nl) (nd f56 (nf f88) nl))) (nz (nd f20 (nd f36 (nd f68 (nf f132) nl) (nf f100)) (nd f52 nl (nf f116))) (nz (nz (nf f76) (nf f108)) (nd f60 (nf f92) nl)))) (nz (nz (nz (nd f34 (nd f66 (nf f130) nl) (nf f98)) (nd f50 (nf f82) (nf f114))) (nd f26 (nd f42 (nd f74 (nf f138) nl) (nf f106)) (nd f58 (nf f90) nl))) (nz (nz (nd f38 (nd f70 (nf f134) nl) nl) (nf f54)) (nz (nz nl (nf f110)) (nd f62 nl (nf f126)))))))
def globs : List (List AV) := [[], kb .u64 [1, 10, 100, 1000, 10000, 100000, 1000000, 10000000, 100000000, 1000000000, 10000000000, 100000000000, 1000000000000, 10000000000000, 100000000000000, 1000000000000000, 10000000000000000, 100000000000000000, 1000000000000000000, 10000000000000000000], kb .u8 [240, 240, 240, 240, 240, 240, 240, 240, 240, 240, 240, 240, 240, 240, 240, 240, 240, 240, 240, 240, 240, 240, 240, 240, 240, 240, 240, 240, 240, 240, 240, 240, 240, 240, 240, 240, 240, 240, 240, 240, 240, 240, 240, 240, 240, 240, 240, 240, 240, 240, 240, 240, 240, 240, 240, 240, 240, 240, 240, 240, 240, 240, 240, 240, 240, 240, 240, 240, 240, 240, 240, 240, 240, 240, 240, 240, 240, 240, 240, 240, 240, 240, 240, 240, 240, 240, 240, 240, 240, 240, 240, 240, 240, 240, 240, 240, 240, 240, 240, 240, 240, 240, 240, 240, 240, 240, 240, 240, 240, 240, 240, 240, 240, 240, 240, 240, 240, 240, 240, 240, 240, 240, 240, 240, 240, 240, 240, 240, 241, 241, 241, 241, 241, 241, 241, 241, 241, 241, 241, 241, 241, 241, 241, 241, 241, 241, 241, 241, 241, 241, 241, 241, 241, 241, 241, 241, 241, 241, 241, 241, 241, 241, 241, 241, 241, 241, 241, 241, 241, 241, 241, 241, 241, 241, 241, 241, 241, 241, 241, 241, 241, 241, 241, 241, 241, 241, 241, 241, 241, 241, 241, 241, 241, 241, 2, 2, 2, 2, 2, 2, 2, 2, 2, 2, 2, 2, 2, 2, 2, 2, 2, 2, 2, 2, 2, 2, 2, 2, 2, 2, 2, 2, 2, 2, 19, 3, 3, 3, 3, 3, 3, 3, 3, 3, 3, 3, 3, 35, 3, 3, 52, 4, 4, 4, 68, 241, 241, 241, 241, 241, 241, 241, 241, 241, 241, 241], kb .u8 [128, 191, 160, 191, 128, 159, 144, 191, 128, 143, 0, 0, 0, 0, 0, 0, 0, 0, 0, 0, 0, 0, 0, 0, 0, 0, 0, 0, 0, 0, 0, 0], [], [], [], kb .u8 [0, 1, 56, 2, 57, 49, 28, 3, 61, 58, 42, 50, 38, 29, 17, 4, 62, 47, 59, 36, 45, 43, 51, 22, 53, 39, 33, 30, 24, 18, 12, 5, 63, 55, 48, 27, 60, 41, 37, 16, 46, 35, 44, 21, 52, 32, 23, 11, 54, 26, 40, 15, 34, 20, 31, 10, 25, 14, 19, 9, 13, 8, 7, 6]]
def env : Env := ⟨tbl, globs, [], fun f => !(Nat.beq f 36 || Nat.beq f 38 || Nat.beq f 41 || Nat.beq f 74 || Nat.beq f 96)⟩
end Go.Proofs.YthcmnajcjapjbaaGreatDoor.Ev.T

/- Contracts of functions that DatumWrites calls: what a call answers, for all data, by symbolic evaluation. No conditions of its own. -/
import Derived.Test.YthcmnajcjapjbaaGreatDoorWA
import Derived.Test.YthcmnajcjapjbaaGreatDoorEvG
set_option linter.unusedSimpArgs false
set_option linter.unusedVariables false
set_option linter.defProp false
namespace Go.Proofs.YthcmnajcjapjbaaGreatDoor.Ev
open T
set_option maxRecDepth 100000
theorem zxo {a : Nat} (h : a < 256) : binI .and .u8 (.ofNat a) .u8 (.ofNat 31) = some (.int .u8 (.ofNat (a % 32))) := by
 have : ∀ a, a < 256 → bits .and .u8 (.ofNat a) (.ofNat 31) = some (.ofNat (a % 32)) := by decide +kernel
 show (match bits .and .u8 (.ofNat a) (.ofNat 31) with | some n => some (AV.int .u8 n) | none => none) = _
 rw [this a h]
theorem HJ {a : Nat} (h : a < 256) : binI .and .u8 (.ofNat a) .u8 (.ofNat 15) = some (.int .u8 (.ofNat (a % 16))) := by
 have : ∀ a, a < 256 → bits .and .u8 (.ofNat a) (.ofNat 15) = some (.ofNat (a % 16)) := by decide +kernel
 show (match bits .and .u8 (.ofNat a) (.ofNat 15) with | some n => some (AV.int .u8 n) | none => none) = _
 rw [this a h]
theorem and7 {a : Nat} (h : a < 256) : binI .and .u8 (.ofNat a) .u8 (.ofNat 7) = some (.int .u8 (.ofNat (a % 8))) := by
 have : ∀ a, a < 256 → bits .and .u8 (.ofNat a) (.ofNat 7) = some (.ofNat (a % 8)) := by decide +kernel
 show (match bits .and .u8 (.ofNat a) (.ofNat 7) with | some n => some (AV.int .u8 n) | none => none) = _
 rw [this a h]
theorem qI {a : Nat} (h : a < 256) : binI .and .u8 (.ofNat a) .u8 (.ofNat 63) = some (.int .u8 (.ofNat (a % 64))) := by
 have : ∀ a, a < 256 → bits .and .u8 (.ofNat a) (.ofNat 63) = some (.ofNat (a % 64)) := by decide +kernel
 show (match bits .and .u8 (.ofNat a) (.ofNat 63) with | some n => some (AV.int .u8 n) | none => none) = _
 rw [this a h]
theorem L9 {a : Nat} (h : a < 256) : binI .andNot .i32 (.ofNat a) .i32 (.negSucc 0) = some (.int .i32 (.ofNat 0)) := by
 have : ∀ a, a < 256 → bits .andNot .i32 (.ofNat a) (.negSucc 0) = some (.ofNat 0) := by decide +kernel
 show (match bits .andNot .i32 (.ofNat a) (.negSucc 0) with | some n => some (AV.int .i32 n) | none => none) = _
 rw [this a h]
theorem andM : binI .and .i32 (.ofNat 65533) .i32 (.negSucc 0) = some (.int .i32 (.ofNat 65533)) := by
 have : bits .and .i32 (.ofNat 65533) (.negSucc 0) = some (.ofNat 65533) := by decide +kernel
 show (match bits .and .i32 (.ofNat 65533) (.negSucc 0) with | some n => some (AV.int .i32 n) | none => none) = _
 rw [this]
theorem zxq : binI .shl .i32 (.ofNat 241) .u64 (.ofNat 31) = some (.int .i32 (.negSucc 2147483647)) := by
 have : xD .i32 (Int.ofNat 241 * 2 ^ (min (Int.ofNat 31).toNat (IntKind.bits .i32))) = .negSucc 2147483647 := by decide +kernel
 show some (AV.int .i32 _) = _
 rw [this]
theorem zy7 : binI .shr .i32 (.negSucc 2147483647) .u64 (.ofNat 31) = some (.int .i32 (.negSucc 0)) := by
 have : (Int.negSucc 2147483647).fdiv (2 ^ (min (Int.ofNat 31).toNat (IntKind.bits .i32))) = .negSucc 0 := by decide +kernel
 show some (AV.int .i32 _) = _
 rw [this]
theorem shr4 (a : Nat) : binI .shr .u8 (.ofNat a) .u64 (.ofNat 4) = some (.int .u8 (.ofNat (a / 16))) := by
 show some (AV.int .u8 (Int.fdiv (.ofNat a) (.ofNat 16))) = _
 cases a <;> rfl
theorem shl6 (a : Nat) : binI .shl .i32 (.ofNat a) .u64 (.ofNat 6) = some (.int .i32 (xD .i32 (.ofNat (a * 64)))) := rfl
theorem p4 (a : Nat) : binI .shl .i32 (.ofNat a) .u64 (.ofNat 12) = some (.int .i32 (xD .i32 (.ofNat (a * 4096)))) := rfl
theorem KM (a : Nat) : binI .shl .i32 (.ofNat a) .u64 (.ofNat 18) = some (.int .i32 (xD .i32 (.ofNat (a * 262144)))) := rfl
theorem VO {n : Nat} (h : n < 2147483648) : IntKind.wrap .i32 ((n : Nat) : Int) = .ofNat n := by
 have h1 : ((n : Nat) : Int) % (2 ^ IntKind.bits .i32 : Int) = (n : Int) := by
  show (n : Int) % 4294967296 = _
  omega
 have h2 : ¬ ((n : Nat) : Int) ≥ (2 ^ (IntKind.bits .i32 - 1) : Int) := by
  show ¬ (n : Int) ≥ 2147483648
  omega
 unfold IntKind.wrap
 simp only [h1, h2, decide_false, Bool.and_false, Bool.false_eq_true, if_false]
 rfl
theorem orN {a b : Nat} (h : a < 16777216) (h' : b < 16777216) : binI .or .i32 (.ofNat a) .i32 (.ofNat b) = some (.int .i32 (.ofNat (a ||| b))) := by
 have e : ∀ n, n < 16777216 → BitVec.ofInt 32 (Int.ofNat n) = BitVec.ofNat 32 n := fun n _ => rfl
 have hor : a ||| b < 16777216 := Nat.or_lt_two_pow (n := 24) h h'
 have : bits .or .i32 (.ofNat a) (.ofNat b) = some (.ofNat (a ||| b)) := by
  show some (IntKind.wrap .i32 _) = _
  congr 1
  have : ((BitVec.ofInt (IntKind.bits .i32) (Int.ofNat a)) ||| (BitVec.ofInt (IntKind.bits .i32) (Int.ofNat b))).toNat = a ||| b := by
   show ((BitVec.ofNat 32 a) ||| (BitVec.ofNat 32 b)).toNat = _
   rw [BitVec.toNat_or, BitVec.toNat_ofNat, BitVec.toNat_ofNat, Nat.mod_eq_of_lt (by omega), Nat.mod_eq_of_lt (by omega)]
  rw [this]
  exact VO (by omega)
 show (match bits .or .i32 (.ofNat a) (.ofNat b) with | some n => some (AV.int .i32 n) | none => none) = _
 rw [this]
theorem or2 {a b : Nat} (h : b < 64) : a * 64 ||| b = a * 64 + b := by
 have := Nat.two_pow_add_eq_or_of_lt (i := 6) h a
 rw [Nat.mul_comm a 64]; exact this.symm
theorem or12 {a b : Nat} (h : b < 64) : a * 4096 ||| b * 64 = a * 4096 + b * 64 := by
 have e1 := Nat.two_pow_add_eq_or_of_lt (i := 12) (b := b * 64) (by omega) a
 rw [Nat.mul_comm a 4096]; exact e1.symm
theorem GB {a b c : Nat} (h : c < 64) : (a * 4096 + b * 64) ||| c = a * 4096 + b * 64 + c := by
 have := or2 (a := a * 64 + b) h
 rw [show (a * 64 + b) * 64 = a * 4096 + b * 64 by omega] at this; exact this
theorem or18 {a b : Nat} (h : b < 64) : a * 262144 ||| b * 4096 = a * 262144 + b * 4096 := by
 have e1 := Nat.two_pow_add_eq_or_of_lt (i := 18) (b := b * 4096) (by omega) a
 rw [Nat.mul_comm a 262144]; exact e1.symm
theorem GL {a b c : Nat} (h : c < 64) : (a * 262144 + b * 4096) ||| c * 64 = a * 262144 + b * 4096 + c * 64 := by
 have := or12 (a := a * 64 + b) h
 rw [show (a * 64 + b) * 4096 = a * 262144 + b * 4096 by omega] at this; exact this
theorem Gf {a b c d : Nat} (h : d < 64) : (a * 262144 + b * 4096 + c * 64) ||| d = a * 262144 + b * 4096 + c * 64 + d := by
 have := or2 (a := a * 4096 + b * 64 + c) h
 rw [show (a * 4096 + b * 64 + c) * 64 = a * 262144 + b * 4096 + c * 64 by omega] at this; exact this
def xM (c : Nat) : Nat := if c < 128 then 240 else if c < 194 then 241 else if c < 224 then 2 else if c = 224 then 19 else if c < 237 then 3 else if c = 237 then 35 else if c < 240 then 3 else if c = 240 then 52 else if c < 244 then 4 else if c = 244 then 68 else 241
def u8V (v : Option AV) (n : Nat) : Bool := match v with
 | some (.int .u8 (.ofNat m)) => Nat.beq m n
 | _ => false
theorem zyx {v : Option AV} {n : Nat} (h : u8V v n = true) : v = some (.int .u8 (.ofNat n)) := by
 unfold u8V at h
 split at h
 ·rw [zn.1 h]
 ·cases h
theorem gG {c : Nat} (h : c < 256) (s : St) : vLd env.globs s (.gptr 2 c) = some (.int .u8 (.ofNat (xM c))) := by
 have key : (List.range 256).all (fun c => u8V (vLd env.globs s0 (.gptr 2 c)) (xM c)) = true := by decide +kernel
 have := zyx (List.all_eq_true.1 key c (List.mem_range.2 h))
 rw [← this]; rfl
theorem gI (s : St) : vLdn env.globs s 2 (.gptr 3 0) = some (.agg [.int .u8 (.ofNat 128), .int .u8 (.ofNat 191)]) ∧ vLdn env.globs s 2 (.gptr 3 2) = some (.agg [.int .u8 (.ofNat 160), .int .u8 (.ofNat 191)]) ∧ vLdn env.globs s 2 (.gptr 3 4) = some (.agg [.int .u8 (.ofNat 128), .int .u8 (.ofNat 159)]) ∧ vLdn env.globs s 2 (.gptr 3 6) = some (.agg [.int .u8 (.ofNat 144), .int .u8 (.ofNat 191)]) ∧ vLdn env.globs s 2 (.gptr 3 8) = some (.agg [.int .u8 (.ofNat 128), .int .u8 (.ofNat 143)]) :=
 ⟨rfl, rfl, rfl, rfl, rfl⟩
theorem zB {n esz g off i : Nat} {k : IntKind} (h : i < n) : vIaa n esz (.gptr g off) (.int k (.ofNat i)) = some (.gptr g (off + i * esz)) := by
 simp only [vIaa, Hj k h]; rfl
noncomputable def zA (l : List Nat) : AV := .tup [.int .i32 (.ofNat (decL l).1), .int .i64 (.ofNat (decL l).2)]
theorem lN (l : List Nat) : zy (zA l) = true := by simp only [zA, wz, zD, yJ, zJ, Bool.and_self]
open Nat (reduceEqDiff reduceLeDiff reduceLT reduceAdd reduceMul reduceSub reduceMod reducePow reduceDiv reduceOr reduceShiftLeft reduceGT reduceSucc)
open List (length_cons length_nil length_take length_drop)
open Int (reduceOfNat reduceNegSucc)
set_option maxRecDepth 100000
set_option maxHeartbeats 2000000
theorem Gd {P : Program} {w0 : World} (B : Bx P w0) {O : Orc} (hO : OrcOk P w0 O) (b0 : Nat) (r : List Nat) (hb : Byt (b0 :: r)) (hc : 128 ≤ b0 ∧ (b0 < 194 ∨ 244 < b0)) (hlen : (b0 :: r).length < 1000000) :
  SC P w0 117 (encB (b0 :: r)) (H [] 0 true) (zA (b0 :: r)) (H [] 0 true) := by
 refine Is.sc hO B.mixed B.glob B.env 0 (show env.funs.get 117 = some f117 from rfl) (Nat.le_of_ble_eq_true rfl) z8 fun C k => ?_
 have h0 : b0 < 256 := hb b0 (by simp)
 have hx : xM b0 = 241 := by
  unfold xM
  repeat' split
  all_goals omega
 have hl2 := fun s => gG (c := b0) h0 s
 rw [hx] at hl2
 have hl3 := fun s => gI s
 unfold f117
 simp only [Ko, Kg, Kn, Ki]
 have hd : decL (b0 :: r) = (65533, 1) := by
  match r with
  | [] => rw [qf]; (repeat' split); all_goals first | rfl | (exfalso; (try simp only [zi, zk, zp, zf] at *); omega)
  | [b1] => rw [wq]; (repeat' split); all_goals first | rfl | (exfalso; (try simp only [zi] at *); omega)
  | [b1, b2] => rw [yx]; (repeat' split); all_goals first | rfl | (exfalso; (try simp only [zi, zk, zf] at *); omega)
  | b1 :: b2 :: b3 :: r => rw [zL]; (repeat' split); all_goals first | rfl | (exfalso; (try simp only [zi, zk, zp, zf] at *); omega)
 rw [zA, hd]
 refine k.eval (by simp (disch := first | exact dis | fail) only [go_sem, seval, -reduceOfNat, -reduceNegSucc, encB, zB, hl2, zxq, zy7, L9, andM, orN, Nat.zero_or]; exact rfl) ?_
 try simp only [za]
 apply zd (Or.inr rfl)
 iterate 5 (simp (disch := first | exact dis | fail) only [go_sem, seval, -reduceOfNat, -reduceNegSucc] <;> exact rfl)
theorem LL {P : Program} {w0 : World} (B : Bx P w0) {O : Orc} (hO : OrcOk P w0 O) (b0 : Nat) (r : List Nat) (hb : Byt (b0 :: r)) (hc : 128 ≤ b0 ∧ (194 ≤ b0 ∧ b0 < 224)) (hlen : (b0 :: r).length < 1000000) :
  SC P w0 117 (encB (b0 :: r)) (H [] 0 true) (zA (b0 :: r)) (H [] 0 true) := by
 refine Is.sc hO B.mixed B.glob B.env 0 (show env.funs.get 117 = some f117 from rfl) (Nat.le_of_ble_eq_true rfl) z8 fun C k => ?_
 have h0 : b0 < 256 := hb b0 (by simp)
 have hx : xM b0 = 2 := by
  unfold xM
  repeat' split
  all_goals omega
 have hl2 := fun s => gG (c := b0) h0 s
 rw [hx] at hl2
 have hl3 := fun s => gI s
 unfold f117
 simp only [Ko, Kg, Kn, Ki]
 match r, hb, hlen with
 | [], hb, hlen =>
  rw [zA, show decL [b0] = (65533, 1) from by rw [qf]; (repeat' split); all_goals first | rfl | (exfalso; (try simp only [zi, zk, zp, zf] at *); omega)]
  refine k.eval (by simp (disch := first | exact dis | fail) only [go_sem, seval, -reduceOfNat, -reduceNegSucc, encB, zB, hl2, hl3, and7, shr4]; exact rfl) ?_
  try simp only [za]
  apply zd (Or.inr rfl)
  iterate 5 (simp (disch := first | exact dis | fail) only [go_sem, seval, -reduceOfNat, -reduceNegSucc] <;> exact rfl)
 | b1 :: r, hb, hlen =>
  have h1 : b1 < 256 := hb b1 (by simp)
  simp only [List.length_cons] at hlen
  have hlr : r.length < 1000000 := by omega
  by_cases g1 : b1 < 128
 
  case pos =>
   have hd : decL (b0 :: b1 :: r) = (65533, 1) := (by match r, hb with
     | [], hb => rw [wq]; (repeat' split); all_goals first | rfl | (exfalso; (try simp only [zi] at *); omega)
     | [b2], hb => rw [yx]; (repeat' split); all_goals first | rfl | (exfalso; (try simp only [zi, zk, zf] at *); omega)
     | b2 :: b3 :: r, hb => rw [zL]; (repeat' split); all_goals first | rfl | (exfalso; (try simp only [zi, zk, zp, zf] at *); omega))
   rw [zA, hd]
   refine k.eval (by simp (disch := first | exact dis | fail) only [go_sem, seval, -reduceOfNat, -reduceNegSucc, encB, zB, hl2, hl3, and7, shr4, g1]; exact rfl) ?_
   try simp only [za]
   apply zd (Or.inr rfl)
   iterate 5 (simp (disch := first | exact dis | fail) only [go_sem, seval, -reduceOfNat, -reduceNegSucc] <;> exact rfl)
  by_cases g2 : 191 < b1
  case pos =>
   have hd : decL (b0 :: b1 :: r) = (65533, 1) := (by match r, hb with
     | [], hb => rw [wq]; (repeat' split); all_goals first | rfl | (exfalso; (try simp only [zi] at *); omega)
     | [b2], hb => rw [yx]; (repeat' split); all_goals first | rfl | (exfalso; (try simp only [zi, zk, zf] at *); omega)
     | b2 :: b3 :: r, hb => rw [zL]; (repeat' split); all_goals first | rfl | (exfalso; (try simp only [zi, zk, zp, zf] at *); omega))
   rw [zA, hd]
   refine k.eval (by simp (disch := first | exact dis | fail) only [go_sem, seval, -reduceOfNat, -reduceNegSucc, encB, zB, hl2, hl3, and7, shr4, g1, g2]; exact rfl) ?_
   try simp only [za]
   apply zd (Or.inr rfl)
   iterate 5 (simp (disch := first | exact dis | fail) only [go_sem, seval, -reduceOfNat, -reduceNegSucc] <;> exact rfl)
  have hd : decL (b0 :: b1 :: r) = (dec2 b0 b1, 2) := (by match r, hb with
     | [], hb => rw [wq]; (repeat' split); all_goals first | rfl | (exfalso; (try simp only [zi] at *); omega)
     | [b2], hb => rw [yx]; (repeat' split); all_goals first | rfl | (exfalso; (try simp only [zi, zk, zf] at *); omega)
     | b2 :: b3 :: r, hb => rw [zL]; (repeat' split); all_goals first | rfl | (exfalso; (try simp only [zi, zk, zp, zf] at *); omega))
  rw [zA, hd]
  refine k.eval (by simp (disch := first | exact dis | fail) only [go_sem, seval, -reduceOfNat, -reduceNegSucc, encB, zB, hl2, hl3, and7, shr4, g1, g2, zxo, qI, shl6, orN, or2]; exact rfl) ?_
  try simp only [za]
  apply zd (Or.inr rfl)
  iterate 5 (simp (disch := first | exact dis | fail) only [go_sem, seval, -reduceOfNat, -reduceNegSucc, zi] <;> exact rfl)
theorem US {P : Program} {w0 : World} (B : Bx P w0) {O : Orc} (hO : OrcOk P w0 O) (b0 : Nat) (r : List Nat) (hb : Byt (b0 :: r)) (hc : 128 ≤ b0 ∧ (b0 = 224)) (hlen : (b0 :: r).length < 1000000) :
  SC P w0 117 (encB (b0 :: r)) (H [] 0 true) (zA (b0 :: r)) (H [] 0 true) := by
 refine Is.sc hO B.mixed B.glob B.env 0 (show env.funs.get 117 = some f117 from rfl) (Nat.le_of_ble_eq_true rfl) z8 fun C k => ?_
 have h0 : b0 < 256 := hb b0 (by simp)
 have hx : xM b0 = 19 := by
  unfold xM
  repeat' split
  all_goals omega
 have hl2 := fun s => gG (c := b0) h0 s
 rw [hx] at hl2
 have hl3 := fun s => gI s
 unfold f117
 simp only [Ko, Kg, Kn, Ki]
 match r, hb, hlen with
 | [], hb, hlen =>
  rw [zA, show decL [b0] = (65533, 1) from by rw [qf]; (repeat' split); all_goals first | rfl | (exfalso; (try simp only [zi, zk, zp, zf] at *); omega)]
  refine k.eval (by simp (disch := first | exact dis | fail) only [go_sem, seval, -reduceOfNat, -reduceNegSucc, encB, zB, hl2, hl3, and7, shr4]; exact rfl) ?_
  try simp only [za]
  apply zd (Or.inr rfl)
  iterate 5 (simp (disch := first | exact dis | fail) only [go_sem, seval, -reduceOfNat, -reduceNegSucc] <;> exact rfl)
 | [b1], hb, hlen =>
  have h1 : b1 < 256 := hb b1 (by simp)
  rw [zA, show decL [b0, b1] = (65533, 1) from by rw [wq]; (repeat' split); all_goals first | rfl | (exfalso; (try simp only [zi] at *); omega)]
  refine k.eval (by simp (disch := first | exact dis | fail) only [go_sem, seval, -reduceOfNat, -reduceNegSucc, encB, zB, hl2, hl3, and7, shr4]; exact rfl) ?_
  try simp only [za]
  apply zd (Or.inr rfl)
  iterate 5 (simp (disch := first | exact dis | fail) only [go_sem, seval, -reduceOfNat, -reduceNegSucc] <;> exact rfl)
 | b1 :: b2 :: r, hb, hlen =>
  have h1 : b1 < 256 := hb b1 (by simp)
  have h2 : b2 < 256 := hb b2 (by simp)
  simp only [List.length_cons] at hlen
  have hlr : r.length < 1000000 := by omega
  by_cases g1 : b1 < 160
 
  case pos =>
   have hd : decL (b0 :: b1 :: b2 :: r) = (65533, 1) := (by match r, hb with
     | [], hb => rw [yx]; (repeat' split); all_goals first | rfl | (exfalso; (try simp only [zi, zk, zf] at *); omega)
     | b3 :: r, hb => rw [zL]; (repeat' split); all_goals first | rfl | (exfalso; (try simp only [zi, zk, zp, zf] at *); omega))
   rw [zA, hd]
   refine k.eval (by simp (disch := first | exact dis | fail) only [go_sem, seval, -reduceOfNat, -reduceNegSucc, encB, zB, hl2, hl3, and7, shr4, g1]; exact rfl) ?_
   try simp only [za]
   apply zd (Or.inr rfl)
   iterate 5 (simp (disch := first | exact dis | fail) only [go_sem, seval, -reduceOfNat, -reduceNegSucc] <;> exact rfl)
  by_cases g2 : 191 < b1
  case pos =>
   have hd : decL (b0 :: b1 :: b2 :: r) = (65533, 1) := (by match r, hb with
     | [], hb => rw [yx]; (repeat' split); all_goals first | rfl | (exfalso; (try simp only [zi, zk, zf] at *); omega)
     | b3 :: r, hb => rw [zL]; (repeat' split); all_goals first | rfl | (exfalso; (try simp only [zi, zk, zp, zf] at *); omega))
   rw [zA, hd]
   refine k.eval (by simp (disch := first | exact dis | fail) only [go_sem, seval, -reduceOfNat, -reduceNegSucc, encB, zB, hl2, hl3, and7, shr4, g1, g2]; exact rfl) ?_
   try simp only [za]
   apply zd (Or.inr rfl)
   iterate 5 (simp (disch := first | exact dis | fail) only [go_sem, seval, -reduceOfNat, -reduceNegSucc] <;> exact rfl)
  by_cases g3 : b2 < 128
  case pos =>
   have hd : decL (b0 :: b1 :: b2 :: r) = (65533, 1) := (by match r, hb with
     | [], hb => rw [yx]; (repeat' split); all_goals first | rfl | (exfalso; (try simp only [zi, zk, zf] at *); omega)
     | b3 :: r, hb => rw [zL]; (repeat' split); all_goals first | rfl | (exfalso; (try simp only [zi, zk, zp, zf] at *); omega))
   rw [zA, hd]
   refine k.eval (by simp (disch := first | exact dis | fail) only [go_sem, seval, -reduceOfNat, -reduceNegSucc, encB, zB, hl2, hl3, and7, shr4, g1, g2, g3]; exact rfl) ?_
   try simp only [za]
   apply zd (Or.inr rfl)
   iterate 5 (simp (disch := first | exact dis | fail) only [go_sem, seval, -reduceOfNat, -reduceNegSucc] <;> exact rfl)
  by_cases g4 : 191 < b2
  case pos =>
   have hd : decL (b0 :: b1 :: b2 :: r) = (65533, 1) := (by match r, hb with
     | [], hb => rw [yx]; (repeat' split); all_goals first | rfl | (exfalso; (try simp only [zi, zk, zf] at *); omega)
     | b3 :: r, hb => rw [zL]; (repeat' split); all_goals first | rfl | (exfalso; (try simp only [zi, zk, zp, zf] at *); omega))
   rw [zA, hd]
   refine k.eval (by simp (disch := first | exact dis | fail) only [go_sem, seval, -reduceOfNat, -reduceNegSucc, encB, zB, hl2, hl3, and7, shr4, g1, g2, g3, g4]; exact rfl) ?_
   try simp only [za]
   apply zd (Or.inr rfl)
   iterate 5 (simp (disch := first | exact dis | fail) only [go_sem, seval, -reduceOfNat, -reduceNegSucc] <;> exact rfl)
  have hd : decL (b0 :: b1 :: b2 :: r) = (dec3 b0 b1 b2, 3) := (by match r, hb with
     | [], hb => rw [yx]; (repeat' split); all_goals first | rfl | (exfalso; (try simp only [zi, zk, zf] at *); omega)
     | b3 :: r, hb => rw [zL]; (repeat' split); all_goals first | rfl | (exfalso; (try simp only [zi, zk, zp, zf] at *); omega))
  rw [zA, hd]
  refine k.eval (by simp (disch := first | exact dis | fail) only [go_sem, seval, -reduceOfNat, -reduceNegSucc, encB, zB, hl2, hl3, and7, shr4, g1, g2, g3, g4, HJ, qI, shl6, p4, orN, or12, GB]; exact rfl) ?_
  try simp only [za]
  apply zd (Or.inr rfl)
  iterate 5 (simp (disch := first | exact dis | fail) only [go_sem, seval, -reduceOfNat, -reduceNegSucc, zk] <;> exact rfl)
theorem UR {P : Program} {w0 : World} (B : Bx P w0) {O : Orc} (hO : OrcOk P w0 O) (b0 : Nat) (r : List Nat) (hb : Byt (b0 :: r)) (hc : 128 ≤ b0 ∧ ((225 ≤ b0 ∧ b0 < 237) ∨ (238 ≤ b0 ∧ b0 < 240))) (hlen : (b0 :: r).length < 1000000) :
  SC P w0 117 (encB (b0 :: r)) (H [] 0 true) (zA (b0 :: r)) (H [] 0 true) := by
 refine Is.sc hO B.mixed B.glob B.env 0 (show env.funs.get 117 = some f117 from rfl) (Nat.le_of_ble_eq_true rfl) z8 fun C k => ?_
 have h0 : b0 < 256 := hb b0 (by simp)
 have hx : xM b0 = 3 := by
  unfold xM
  repeat' split
  all_goals omega
 have hl2 := fun s => gG (c := b0) h0 s
 rw [hx] at hl2
 have hl3 := fun s => gI s
 unfold f117
 simp only [Ko, Kg, Kn, Ki]
 match r, hb, hlen with
 | [], hb, hlen =>
  rw [zA, show decL [b0] = (65533, 1) from by rw [qf]; (repeat' split); all_goals first | rfl | (exfalso; (try simp only [zi, zk, zp, zf] at *); omega)]
  refine k.eval (by simp (disch := first | exact dis | fail) only [go_sem, seval, -reduceOfNat, -reduceNegSucc, encB, zB, hl2, hl3, and7, shr4]; exact rfl) ?_
  try simp only [za]
  apply zd (Or.inr rfl)
  iterate 5 (simp (disch := first | exact dis | fail) only [go_sem, seval, -reduceOfNat, -reduceNegSucc] <;> exact rfl)
 | [b1], hb, hlen =>
  have h1 : b1 < 256 := hb b1 (by simp)
  rw [zA, show decL [b0, b1] = (65533, 1) from by rw [wq]; (repeat' split); all_goals first | rfl | (exfalso; (try simp only [zi] at *); omega)]
  refine k.eval (by simp (disch := first | exact dis | fail) only [go_sem, seval, -reduceOfNat, -reduceNegSucc, encB, zB, hl2, hl3, and7, shr4]; exact rfl) ?_
  try simp only [za]
  apply zd (Or.inr rfl)
  iterate 5 (simp (disch := first | exact dis | fail) only [go_sem, seval, -reduceOfNat, -reduceNegSucc] <;> exact rfl)
 | b1 :: b2 :: r, hb, hlen =>
  have h1 : b1 < 256 := hb b1 (by simp)
  have h2 : b2 < 256 := hb b2 (by simp)
  simp only [List.length_cons] at hlen
  have hlr : r.length < 1000000 := by omega
  by_cases g1 : b1 < 128
 
  case pos =>
   have hd : decL (b0 :: b1 :: b2 :: r) = (65533, 1) := (by match r, hb with
     | [], hb => rw [yx]; (repeat' split); all_goals first | rfl | (exfalso; (try simp only [zi, zk, zf] at *); omega)
     | b3 :: r, hb => rw [zL]; (repeat' split); all_goals first | rfl | (exfalso; (try simp only [zi, zk, zp, zf] at *); omega))
   rw [zA, hd]
   refine k.eval (by simp (disch := first | exact dis | fail) only [go_sem, seval, -reduceOfNat, -reduceNegSucc, encB, zB, hl2, hl3, and7, shr4, g1]; exact rfl) ?_
   try simp only [za]
   apply zd (Or.inr rfl)
   iterate 5 (simp (disch := first | exact dis | fail) only [go_sem, seval, -reduceOfNat, -reduceNegSucc] <;> exact rfl)
  by_cases g2 : 191 < b1
  case pos =>
   have hd : decL (b0 :: b1 :: b2 :: r) = (65533, 1) := (by match r, hb with
     | [], hb => rw [yx]; (repeat' split); all_goals first | rfl | (exfalso; (try simp only [zi, zk, zf] at *); omega)
     | b3 :: r, hb => rw [zL]; (repeat' split); all_goals first | rfl | (exfalso; (try simp only [zi, zk, zp, zf] at *); omega))
   rw [zA, hd]
   refine k.eval (by simp (disch := first | exact dis | fail) only [go_sem, seval, -reduceOfNat, -reduceNegSucc, encB, zB, hl2, hl3, and7, shr4, g1, g2]; exact rfl) ?_
   try simp only [za]
   apply zd (Or.inr rfl)
   iterate 5 (simp (disch := first | exact dis | fail) only [go_sem, seval, -reduceOfNat, -reduceNegSucc] <;> exact rfl)
  by_cases g3 : b2 < 128
  case pos =>
   have hd : decL (b0 :: b1 :: b2 :: r) = (65533, 1) := (by match r, hb with
     | [], hb => rw [yx]; (repeat' split); all_goals first | rfl | (exfalso; (try simp only [zi, zk, zf] at *); omega)
     | b3 :: r, hb => rw [zL]; (repeat' split); all_goals first | rfl | (exfalso; (try simp only [zi, zk, zp, zf] at *); omega))
   rw [zA, hd]
   refine k.eval (by simp (disch := first | exact dis | fail) only [go_sem, seval, -reduceOfNat, -reduceNegSucc, encB, zB, hl2, hl3, and7, shr4, g1, g2, g3]; exact rfl) ?_
   try simp only [za]
   apply zd (Or.inr rfl)
   iterate 5 (simp (disch := first | exact dis | fail) only [go_sem, seval, -reduceOfNat, -reduceNegSucc] <;> exact rfl)
  by_cases g4 : 191 < b2
  case pos =>
   have hd : decL (b0 :: b1 :: b2 :: r) = (65533, 1) := (by match r, hb with
     | [], hb => rw [yx]; (repeat' split); all_goals first | rfl | (exfalso; (try simp only [zi, zk, zf] at *); omega)
     | b3 :: r, hb => rw [zL]; (repeat' split); all_goals first | rfl | (exfalso; (try simp only [zi, zk, zp, zf] at *); omega))
   rw [zA, hd]
   refine k.eval (by simp (disch := first | exact dis | fail) only [go_sem, seval, -reduceOfNat, -reduceNegSucc, encB, zB, hl2, hl3, and7, shr4, g1, g2, g3, g4]; exact rfl) ?_
   try simp only [za]
   apply zd (Or.inr rfl)
   iterate 5 (simp (disch := first | exact dis | fail) only [go_sem, seval, -reduceOfNat, -reduceNegSucc] <;> exact rfl)
  have hd : decL (b0 :: b1 :: b2 :: r) = (dec3 b0 b1 b2, 3) := (by match r, hb with
     | [], hb => rw [yx]; (repeat' split); all_goals first | rfl | (exfalso; (try simp only [zi, zk, zf] at *); omega)
     | b3 :: r, hb => rw [zL]; (repeat' split); all_goals first | rfl | (exfalso; (try simp only [zi, zk, zp, zf] at *); omega))
  rw [zA, hd]
  refine k.eval (by simp (disch := first | exact dis | fail) only [go_sem, seval, -reduceOfNat, -reduceNegSucc, encB, zB, hl2, hl3, and7, shr4, g1, g2, g3, g4, HJ, qI, shl6, p4, orN, or12, GB]; exact rfl) ?_
  try simp only [za]
  apply zd (Or.inr rfl)
  iterate 5 (simp (disch := first | exact dis | fail) only [go_sem, seval, -reduceOfNat, -reduceNegSucc, zk] <;> exact rfl)
theorem UA {P : Program} {w0 : World} (B : Bx P w0) {O : Orc} (hO : OrcOk P w0 O) (b0 : Nat) (r : List Nat) (hb : Byt (b0 :: r)) (hc : 128 ≤ b0 ∧ (b0 = 237)) (hlen : (b0 :: r).length < 1000000) :
  SC P w0 117 (encB (b0 :: r)) (H [] 0 true) (zA (b0 :: r)) (H [] 0 true) := by
 refine Is.sc hO B.mixed B.glob B.env 0 (show env.funs.get 117 = some f117 from rfl) (Nat.le_of_ble_eq_true rfl) z8 fun C k => ?_
 have h0 : b0 < 256 := hb b0 (by simp)
 have hx : xM b0 = 35 := by
  unfold xM
  repeat' split
  all_goals omega
 have hl2 := fun s => gG (c := b0) h0 s
 rw [hx] at hl2
 have hl3 := fun s => gI s
 unfold f117
 simp only [Ko, Kg, Kn, Ki]
 match r, hb, hlen with
 | [], hb, hlen =>
  rw [zA, show decL [b0] = (65533, 1) from by rw [qf]; (repeat' split); all_goals first | rfl | (exfalso; (try simp only [zi, zk, zp, zf] at *); omega)]
  refine k.eval (by simp (disch := first | exact dis | fail) only [go_sem, seval, -reduceOfNat, -reduceNegSucc, encB, zB, hl2, hl3, and7, shr4]; exact rfl) ?_
  try simp only [za]
  apply zd (Or.inr rfl)
  iterate 5 (simp (disch := first | exact dis | fail) only [go_sem, seval, -reduceOfNat, -reduceNegSucc] <;> exact rfl)
 | [b1], hb, hlen =>
  have h1 : b1 < 256 := hb b1 (by simp)
  rw [zA, show decL [b0, b1] = (65533, 1) from by rw [wq]; (repeat' split); all_goals first | rfl | (exfalso; (try simp only [zi] at *); omega)]
  refine k.eval (by simp (disch := first | exact dis | fail) only [go_sem, seval, -reduceOfNat, -reduceNegSucc, encB, zB, hl2, hl3, and7, shr4]; exact rfl) ?_
  try simp only [za]
  apply zd (Or.inr rfl)
  iterate 5 (simp (disch := first | exact dis | fail) only [go_sem, seval, -reduceOfNat, -reduceNegSucc] <;> exact rfl)
 | b1 :: b2 :: r, hb, hlen =>
  have h1 : b1 < 256 := hb b1 (by simp)
  have h2 : b2 < 256 := hb b2 (by simp)
  simp only [List.length_cons] at hlen
  have hlr : r.length < 1000000 := by omega
  by_cases g1 : b1 < 128
 
  case pos =>
   have hd : decL (b0 :: b1 :: b2 :: r) = (65533, 1) := (by match r, hb with
     | [], hb => rw [yx]; (repeat' split); all_goals first | rfl | (exfalso; (try simp only [zi, zk, zf] at *); omega)
     | b3 :: r, hb => rw [zL]; (repeat' split); all_goals first | rfl | (exfalso; (try simp only [zi, zk, zp, zf] at *); omega))
   rw [zA, hd]
   refine k.eval (by simp (disch := first | exact dis | fail) only [go_sem, seval, -reduceOfNat, -reduceNegSucc, encB, zB, hl2, hl3, and7, shr4, g1]; exact rfl) ?_
   try simp only [za]
   apply zd (Or.inr rfl)
   iterate 5 (simp (disch := first | exact dis | fail) only [go_sem, seval, -reduceOfNat, -reduceNegSucc] <;> exact rfl)
  by_cases g2 : 159 < b1
  case pos =>
   have hd : decL (b0 :: b1 :: b2 :: r) = (65533, 1) := (by match r, hb with
     | [], hb => rw [yx]; (repeat' split); all_goals first | rfl | (exfalso; (try simp only [zi, zk, zf] at *); omega)
     | b3 :: r, hb => rw [zL]; (repeat' split); all_goals first | rfl | (exfalso; (try simp only [zi, zk, zp, zf] at *); omega))
   rw [zA, hd]
   refine k.eval (by simp (disch := first | exact dis | fail) only [go_sem, seval, -reduceOfNat, -reduceNegSucc, encB, zB, hl2, hl3, and7, shr4, g1, g2]; exact rfl) ?_
   try simp only [za]
   apply zd (Or.inr rfl)
   iterate 5 (simp (disch := first | exact dis | fail) only [go_sem, seval, -reduceOfNat, -reduceNegSucc] <;> exact rfl)
  by_cases g3 : b2 < 128
  case pos =>
   have hd : decL (b0 :: b1 :: b2 :: r) = (65533, 1) := (by match r, hb with
     | [], hb => rw [yx]; (repeat' split); all_goals first | rfl | (exfalso; (try simp only [zi, zk, zf] at *); omega)
     | b3 :: r, hb => rw [zL]; (repeat' split); all_goals first | rfl | (exfalso; (try simp only [zi, zk, zp, zf] at *); omega))
   rw [zA, hd]
   refine k.eval (by simp (disch := first | exact dis | fail) only [go_sem, seval, -reduceOfNat, -reduceNegSucc, encB, zB, hl2, hl3, and7, shr4, g1, g2, g3]; exact rfl) ?_
   try simp only [za]
   apply zd (Or.inr rfl)
   iterate 5 (simp (disch := first | exact dis | fail) only [go_sem, seval, -reduceOfNat, -reduceNegSucc] <;> exact rfl)
  by_cases g4 : 191 < b2
  case pos =>
   have hd : decL (b0 :: b1 :: b2 :: r) = (65533, 1) := (by match r, hb with
     | [], hb => rw [yx]; (repeat' split); all_goals first | rfl | (exfalso; (try simp only [zi, zk, zf] at *); omega)
     | b3 :: r, hb => rw [zL]; (repeat' split); all_goals first | rfl | (exfalso; (try simp only [zi, zk, zp, zf] at *); omega))
   rw [zA, hd]
   refine k.eval (by simp (disch := first | exact dis | fail) only [go_sem, seval, -reduceOfNat, -reduceNegSucc, encB, zB, hl2, hl3, and7, shr4, g1, g2, g3, g4]; exact rfl) ?_
   try simp only [za]
   apply zd (Or.inr rfl)
   iterate 5 (simp (disch := first | exact dis | fail) only [go_sem, seval, -reduceOfNat, -reduceNegSucc] <;> exact rfl)
  have hd : decL (b0 :: b1 :: b2 :: r) = (dec3 b0 b1 b2, 3) := (by match r, hb with
     | [], hb => rw [yx]; (repeat' split); all_goals first | rfl | (exfalso; (try simp only [zi, zk, zf] at *); omega)
     | b3 :: r, hb => rw [zL]; (repeat' split); all_goals first | rfl | (exfalso; (try simp only [zi, zk, zp, zf] at *); omega))
  rw [zA, hd]
  refine k.eval (by simp (disch := first | exact dis | fail) only [go_sem, seval, -reduceOfNat, -reduceNegSucc, encB, zB, hl2, hl3, and7, shr4, g1, g2, g3, g4, HJ, qI, shl6, p4, orN, or12, GB]; exact rfl) ?_
  try simp only [za]
  apply zd (Or.inr rfl)
  iterate 5 (simp (disch := first | exact dis | fail) only [go_sem, seval, -reduceOfNat, -reduceNegSucc, zk] <;> exact rfl)
theorem VP {P : Program} {w0 : World} (B : Bx P w0) {O : Orc} (hO : OrcOk P w0 O) (b0 : Nat) (r : List Nat) (hb : Byt (b0 :: r)) (hc : 128 ≤ b0 ∧ (b0 = 240)) (hlen : (b0 :: r).length < 1000000) :
  SC P w0 117 (encB (b0 :: r)) (H [] 0 true) (zA (b0 :: r)) (H [] 0 true) := by
 refine Is.sc hO B.mixed B.glob B.env 0 (show env.funs.get 117 = some f117 from rfl) (Nat.le_of_ble_eq_true rfl) z8 fun C k => ?_
 have h0 : b0 < 256 := hb b0 (by simp)
 have hx : xM b0 = 52 := by
  unfold xM
  repeat' split
  all_goals omega
 have hl2 := fun s => gG (c := b0) h0 s
 rw [hx] at hl2
 have hl3 := fun s => gI s
 unfold f117
 simp only [Ko, Kg, Kn, Ki]
 match r, hb, hlen with
 | [], hb, hlen =>
  rw [zA, show decL [b0] = (65533, 1) from by rw [qf]; (repeat' split); all_goals first | rfl | (exfalso; (try simp only [zi, zk, zp, zf] at *); omega)]
  refine k.eval (by simp (disch := first | exact dis | fail) only [go_sem, seval, -reduceOfNat, -reduceNegSucc, encB, zB, hl2, hl3, and7, shr4]; exact rfl) ?_
  try simp only [za]
  apply zd (Or.inr rfl)
  iterate 5 (simp (disch := first | exact dis | fail) only [go_sem, seval, -reduceOfNat, -reduceNegSucc] <;> exact rfl)
 | [b1], hb, hlen =>
  have h1 : b1 < 256 := hb b1 (by simp)
  rw [zA, show decL [b0, b1] = (65533, 1) from by rw [wq]; (repeat' split); all_goals first | rfl | (exfalso; (try simp only [zi] at *); omega)]
  refine k.eval (by simp (disch := first | exact dis | fail) only [go_sem, seval, -reduceOfNat, -reduceNegSucc, encB, zB, hl2, hl3, and7, shr4]; exact rfl) ?_
  try simp only [za]
  apply zd (Or.inr rfl)
  iterate 5 (simp (disch := first | exact dis | fail) only [go_sem, seval, -reduceOfNat, -reduceNegSucc] <;> exact rfl)
 | [b1, b2], hb, hlen =>
  have h1 : b1 < 256 := hb b1 (by simp)
  have h2 : b2 < 256 := hb b2 (by simp)
  rw [zA, show decL [b0, b1, b2] = (65533, 1) from by rw [yx]; (repeat' split); all_goals first | rfl | (exfalso; (try simp only [zi, zk, zf] at *); omega)]
  refine k.eval (by simp (disch := first | exact dis | fail) only [go_sem, seval, -reduceOfNat, -reduceNegSucc, encB, zB, hl2, hl3, and7, shr4]; exact rfl) ?_
  try simp only [za]
  apply zd (Or.inr rfl)
  iterate 5 (simp (disch := first | exact dis | fail) only [go_sem, seval, -reduceOfNat, -reduceNegSucc] <;> exact rfl)
 | b1 :: b2 :: b3 :: r, hb, hlen =>
  have h1 : b1 < 256 := hb b1 (by simp)
  have h2 : b2 < 256 := hb b2 (by simp)
  have h3 : b3 < 256 := hb b3 (by simp)
  simp only [List.length_cons] at hlen
  have hlr : r.length < 1000000 := by omega
  by_cases g1 : b1 < 144
 
  case pos =>
   have hd : decL (b0 :: b1 :: b2 :: b3 :: r) = (65533, 1) := (by rw [zL]; (repeat' split); all_goals first | rfl | (exfalso; (try simp only [zi, zk, zp, zf] at *); omega))
   rw [zA, hd]
   refine k.eval (by simp (disch := first | exact dis | fail) only [go_sem, seval, -reduceOfNat, -reduceNegSucc, encB, zB, hl2, hl3, and7, shr4, g1]; exact rfl) ?_
   try simp only [za]
   apply zd (Or.inr rfl)
   iterate 5 (simp (disch := first | exact dis | fail) only [go_sem, seval, -reduceOfNat, -reduceNegSucc] <;> exact rfl)
  by_cases g2 : 191 < b1
  case pos =>
   have hd : decL (b0 :: b1 :: b2 :: b3 :: r) = (65533, 1) := (by rw [zL]; (repeat' split); all_goals first | rfl | (exfalso; (try simp only [zi, zk, zp, zf] at *); omega))
   rw [zA, hd]
   refine k.eval (by simp (disch := first | exact dis | fail) only [go_sem, seval, -reduceOfNat, -reduceNegSucc, encB, zB, hl2, hl3, and7, shr4, g1, g2]; exact rfl) ?_
   try simp only [za]
   apply zd (Or.inr rfl)
   iterate 5 (simp (disch := first | exact dis | fail) only [go_sem, seval, -reduceOfNat, -reduceNegSucc] <;> exact rfl)
  by_cases g3 : b2 < 128
  case pos =>
   have hd : decL (b0 :: b1 :: b2 :: b3 :: r) = (65533, 1) := (by rw [zL]; (repeat' split); all_goals first | rfl | (exfalso; (try simp only [zi, zk, zp, zf] at *); omega))
   rw [zA, hd]
   refine k.eval (by simp (disch := first | exact dis | fail) only [go_sem, seval, -reduceOfNat, -reduceNegSucc, encB, zB, hl2, hl3, and7, shr4, g1, g2, g3]; exact rfl) ?_
   try simp only [za]
   apply zd (Or.inr rfl)
   iterate 5 (simp (disch := first | exact dis | fail) only [go_sem, seval, -reduceOfNat, -reduceNegSucc] <;> exact rfl)
  by_cases g4 : 191 < b2
  case pos =>
   have hd : decL (b0 :: b1 :: b2 :: b3 :: r) = (65533, 1) := (by rw [zL]; (repeat' split); all_goals first | rfl | (exfalso; (try simp only [zi, zk, zp, zf] at *); omega))
   rw [zA, hd]
   refine k.eval (by simp (disch := first | exact dis | fail) only [go_sem, seval, -reduceOfNat, -reduceNegSucc, encB, zB, hl2, hl3, and7, shr4, g1, g2, g3, g4]; exact rfl) ?_
   try simp only [za]
   apply zd (Or.inr rfl)
   iterate 5 (simp (disch := first | exact dis | fail) only [go_sem, seval, -reduceOfNat, -reduceNegSucc] <;> exact rfl)
  by_cases g5 : b3 < 128
  case pos =>
   have hd : decL (b0 :: b1 :: b2 :: b3 :: r) = (65533, 1) := (by rw [zL]; (repeat' split); all_goals first | rfl | (exfalso; (try simp only [zi, zk, zp, zf] at *); omega))
   rw [zA, hd]
   refine k.eval (by simp (disch := first | exact dis | fail) only [go_sem, seval, -reduceOfNat, -reduceNegSucc, encB, zB, hl2, hl3, and7, shr4, g1, g2, g3, g4, g5]; exact rfl) ?_
   try simp only [za]
   apply zd (Or.inr rfl)
   iterate 5 (simp (disch := first | exact dis | fail) only [go_sem, seval, -reduceOfNat, -reduceNegSucc] <;> exact rfl)
  by_cases g6 : 191 < b3
  case pos =>
   have hd : decL (b0 :: b1 :: b2 :: b3 :: r) = (65533, 1) := (by rw [zL]; (repeat' split); all_goals first | rfl | (exfalso; (try simp only [zi, zk, zp, zf] at *); omega))
   rw [zA, hd]
   refine k.eval (by simp (disch := first | exact dis | fail) only [go_sem, seval, -reduceOfNat, -reduceNegSucc, encB, zB, hl2, hl3, and7, shr4, g1, g2, g3, g4, g5, g6]; exact rfl) ?_
   try simp only [za]
   apply zd (Or.inr rfl)
   iterate 5 (simp (disch := first | exact dis | fail) only [go_sem, seval, -reduceOfNat, -reduceNegSucc] <;> exact rfl)
  have hd : decL (b0 :: b1 :: b2 :: b3 :: r) = (dec4 b0 b1 b2 b3, 4) := (by rw [zL]; (repeat' split); all_goals first | rfl | (exfalso; (try simp only [zi, zk, zp, zf] at *); omega))
  rw [zA, hd]
  refine k.eval (by simp (disch := first | exact dis | fail) only [go_sem, seval, -reduceOfNat, -reduceNegSucc, encB, zB, hl2, hl3, and7, shr4, g1, g2, g3, g4, g5, g6, and7, qI, shl6, p4, KM, orN, or18, GL, Gf]; exact rfl) ?_
  try simp only [za]
  apply zd (Or.inr rfl)
  iterate 5 (simp (disch := first | exact dis | fail) only [go_sem, seval, -reduceOfNat, -reduceNegSucc, zp] <;> exact rfl)
theorem Jg {P : Program} {w0 : World} (B : Bx P w0) {O : Orc} (hO : OrcOk P w0 O) (b0 : Nat) (r : List Nat) (hb : Byt (b0 :: r)) (hc : 128 ≤ b0 ∧ (241 ≤ b0 ∧ b0 < 244)) (hlen : (b0 :: r).length < 1000000) :
  SC P w0 117 (encB (b0 :: r)) (H [] 0 true) (zA (b0 :: r)) (H [] 0 true) := by
 refine Is.sc hO B.mixed B.glob B.env 0 (show env.funs.get 117 = some f117 from rfl) (Nat.le_of_ble_eq_true rfl) z8 fun C k => ?_
 have h0 : b0 < 256 := hb b0 (by simp)
 have hx : xM b0 = 4 := by
  unfold xM
  repeat' split
  all_goals omega
 have hl2 := fun s => gG (c := b0) h0 s
 rw [hx] at hl2
 have hl3 := fun s => gI s
 unfold f117
 simp only [Ko, Kg, Kn, Ki]
 match r, hb, hlen with
 | [], hb, hlen =>
  rw [zA, show decL [b0] = (65533, 1) from by rw [qf]; (repeat' split); all_goals first | rfl | (exfalso; (try simp only [zi, zk, zp, zf] at *); omega)]
  refine k.eval (by simp (disch := first | exact dis | fail) only [go_sem, seval, -reduceOfNat, -reduceNegSucc, encB, zB, hl2, hl3, and7, shr4]; exact rfl) ?_
  try simp only [za]
  apply zd (Or.inr rfl)
  iterate 5 (simp (disch := first | exact dis | fail) only [go_sem, seval, -reduceOfNat, -reduceNegSucc] <;> exact rfl)
 | [b1], hb, hlen =>
  have h1 : b1 < 256 := hb b1 (by simp)
  rw [zA, show decL [b0, b1] = (65533, 1) from by rw [wq]; (repeat' split); all_goals first | rfl | (exfalso; (try simp only [zi] at *); omega)]
  refine k.eval (by simp (disch := first | exact dis | fail) only [go_sem, seval, -reduceOfNat, -reduceNegSucc, encB, zB, hl2, hl3, and7, shr4]; exact rfl) ?_
  try simp only [za]
  apply zd (Or.inr rfl)
  iterate 5 (simp (disch := first | exact dis | fail) only [go_sem, seval, -reduceOfNat, -reduceNegSucc] <;> exact rfl)
 | [b1, b2], hb, hlen =>
  have h1 : b1 < 256 := hb b1 (by simp)
  have h2 : b2 < 256 := hb b2 (by simp)
  rw [zA, show decL [b0, b1, b2] = (65533, 1) from by rw [yx]; (repeat' split); all_goals first | rfl | (exfalso; (try simp only [zi, zk, zf] at *); omega)]
  refine k.eval (by simp (disch := first | exact dis | fail) only [go_sem, seval, -reduceOfNat, -reduceNegSucc, encB, zB, hl2, hl3, and7, shr4]; exact rfl) ?_
  try simp only [za]
  apply zd (Or.inr rfl)
  iterate 5 (simp (disch := first | exact dis | fail) only [go_sem, seval, -reduceOfNat, -reduceNegSucc] <;> exact rfl)
 | b1 :: b2 :: b3 :: r, hb, hlen =>
  have h1 : b1 < 256 := hb b1 (by simp)
  have h2 : b2 < 256 := hb b2 (by simp)
  have h3 : b3 < 256 := hb b3 (by simp)
  simp only [List.length_cons] at hlen
  have hlr : r.length < 1000000 := by omega
  by_cases g1 : b1 < 128
 
  case pos =>
   have hd : decL (b0 :: b1 :: b2 :: b3 :: r) = (65533, 1) := (by rw [zL]; (repeat' split); all_goals first | rfl | (exfalso; (try simp only [zi, zk, zp, zf] at *); omega))
   rw [zA, hd]
   refine k.eval (by simp (disch := first | exact dis | fail) only [go_sem, seval, -reduceOfNat, -reduceNegSucc, encB, zB, hl2, hl3, and7, shr4, g1]; exact rfl) ?_
   try simp only [za]
   apply zd (Or.inr rfl)
   iterate 5 (simp (disch := first | exact dis | fail) only [go_sem, seval, -reduceOfNat, -reduceNegSucc] <;> exact rfl)
  by_cases g2 : 191 < b1
  case pos =>
   have hd : decL (b0 :: b1 :: b2 :: b3 :: r) = (65533, 1) := (by rw [zL]; (repeat' split); all_goals first | rfl | (exfalso; (try simp only [zi, zk, zp, zf] at *); omega))
   rw [zA, hd]
   refine k.eval (by simp (disch := first | exact dis | fail) only [go_sem, seval, -reduceOfNat, -reduceNegSucc, encB, zB, hl2, hl3, and7, shr4, g1, g2]; exact rfl) ?_
   try simp only [za]
   apply zd (Or.inr rfl)
   iterate 5 (simp (disch := first | exact dis | fail) only [go_sem, seval, -reduceOfNat, -reduceNegSucc] <;> exact rfl)
  by_cases g3 : b2 < 128
  case pos =>
   have hd : decL (b0 :: b1 :: b2 :: b3 :: r) = (65533, 1) := (by rw [zL]; (repeat' split); all_goals first | rfl | (exfalso; (try simp only [zi, zk, zp, zf] at *); omega))
   rw [zA, hd]
   refine k.eval (by simp (disch := first | exact dis | fail) only [go_sem, seval, -reduceOfNat, -reduceNegSucc, encB, zB, hl2, hl3, and7, shr4, g1, g2, g3]; exact rfl) ?_
   try simp only [za]
   apply zd (Or.inr rfl)
   iterate 5 (simp (disch := first | exact dis | fail) only [go_sem, seval, -reduceOfNat, -reduceNegSucc] <;> exact rfl)
  by_cases g4 : 191 < b2
  case pos =>
   have hd : decL (b0 :: b1 :: b2 :: b3 :: r) = (65533, 1) := (by rw [zL]; (repeat' split); all_goals first | rfl | (exfalso; (try simp only [zi, zk, zp, zf] at *); omega))
   rw [zA, hd]
   refine k.eval (by simp (disch := first | exact dis | fail) only [go_sem, seval, -reduceOfNat, -reduceNegSucc, encB, zB, hl2, hl3, and7, shr4, g1, g2, g3, g4]; exact rfl) ?_
   try simp only [za]
   apply zd (Or.inr rfl)
   iterate 5 (simp (disch := first | exact dis | fail) only [go_sem, seval, -reduceOfNat, -reduceNegSucc] <;> exact rfl)
  by_cases g5 : b3 < 128
  case pos =>
   have hd : decL (b0 :: b1 :: b2 :: b3 :: r) = (65533, 1) := (by rw [zL]; (repeat' split); all_goals first | rfl | (exfalso; (try simp only [zi, zk, zp, zf] at *); omega))
   rw [zA, hd]
   refine k.eval (by simp (disch := first | exact dis | fail) only [go_sem, seval, -reduceOfNat, -reduceNegSucc, encB, zB, hl2, hl3, and7, shr4, g1, g2, g3, g4, g5]; exact rfl) ?_
   try simp only [za]
   apply zd (Or.inr rfl)
   iterate 5 (simp (disch := first | exact dis | fail) only [go_sem, seval, -reduceOfNat, -reduceNegSucc] <;> exact rfl)
  by_cases g6 : 191 < b3
  case pos =>
   have hd : decL (b0 :: b1 :: b2 :: b3 :: r) = (65533, 1) := (by rw [zL]; (repeat' split); all_goals first | rfl | (exfalso; (try simp only [zi, zk, zp, zf] at *); omega))
   rw [zA, hd]
   refine k.eval (by simp (disch := first | exact dis | fail) only [go_sem, seval, -reduceOfNat, -reduceNegSucc, encB, zB, hl2, hl3, and7, shr4, g1, g2, g3, g4, g5, g6]; exact rfl) ?_
   try simp only [za]
   apply zd (Or.inr rfl)
   iterate 5 (simp (disch := first | exact dis | fail) only [go_sem, seval, -reduceOfNat, -reduceNegSucc] <;> exact rfl)
  have hd : decL (b0 :: b1 :: b2 :: b3 :: r) = (dec4 b0 b1 b2 b3, 4) := (by rw [zL]; (repeat' split); all_goals first | rfl | (exfalso; (try simp only [zi, zk, zp, zf] at *); omega))
  rw [zA, hd]
  refine k.eval (by simp (disch := first | exact dis | fail) only [go_sem, seval, -reduceOfNat, -reduceNegSucc, encB, zB, hl2, hl3, and7, shr4, g1, g2, g3, g4, g5, g6, and7, qI, shl6, p4, KM, orN, or18, GL, Gf]; exact rfl) ?_
  try simp only [za]
  apply zd (Or.inr rfl)
  iterate 5 (simp (disch := first | exact dis | fail) only [go_sem, seval, -reduceOfNat, -reduceNegSucc, zp] <;> exact rfl)
theorem JU {P : Program} {w0 : World} (B : Bx P w0) {O : Orc} (hO : OrcOk P w0 O) (b0 : Nat) (r : List Nat) (hb : Byt (b0 :: r)) (hc : 128 ≤ b0 ∧ (b0 = 244)) (hlen : (b0 :: r).length < 1000000) :
  SC P w0 117 (encB (b0 :: r)) (H [] 0 true) (zA (b0 :: r)) (H [] 0 true) := by
 refine Is.sc hO B.mixed B.glob B.env 0 (show env.funs.get 117 = some f117 from rfl) (Nat.le_of_ble_eq_true rfl) z8 fun C k => ?_
 have h0 : b0 < 256 := hb b0 (by simp)
 have hx : xM b0 = 68 := by
  unfold xM
  repeat' split
  all_goals omega
 have hl2 := fun s => gG (c := b0) h0 s
 rw [hx] at hl2
 have hl3 := fun s => gI s
 unfold f117
 simp only [Ko, Kg, Kn, Ki]
 match r, hb, hlen with
 | [], hb, hlen =>
  rw [zA, show decL [b0] = (65533, 1) from by rw [qf]; (repeat' split); all_goals first | rfl | (exfalso; (try simp only [zi, zk, zp, zf] at *); omega)]
  refine k.eval (by simp (disch := first | exact dis | fail) only [go_sem, seval, -reduceOfNat, -reduceNegSucc, encB, zB, hl2, hl3, and7, shr4]; exact rfl) ?_
  try simp only [za]
  apply zd (Or.inr rfl)
  iterate 5 (simp (disch := first | exact dis | fail) only [go_sem, seval, -reduceOfNat, -reduceNegSucc] <;> exact rfl)
 | [b1], hb, hlen =>
  have h1 : b1 < 256 := hb b1 (by simp)
  rw [zA, show decL [b0, b1] = (65533, 1) from by rw [wq]; (repeat' split); all_goals first | rfl | (exfalso; (try simp only [zi] at *); omega)]
  refine k.eval (by simp (disch := first | exact dis | fail) only [go_sem, seval, -reduceOfNat, -reduceNegSucc, encB, zB, hl2, hl3, and7, shr4]; exact rfl) ?_
  try simp only [za]
  apply zd (Or.inr rfl)
  iterate 5 (simp (disch := first | exact dis | fail) only [go_sem, seval, -reduceOfNat, -reduceNegSucc] <;> exact rfl)
 | [b1, b2], hb, hlen =>
  have h1 : b1 < 256 := hb b1 (by simp)
  have h2 : b2 < 256 := hb b2 (by simp)
  rw [zA, show decL [b0, b1, b2] = (65533, 1) from by rw [yx]; (repeat' split); all_goals first | rfl | (exfalso; (try simp only [zi, zk, zf] at *); omega)]
  refine k.eval (by simp (disch := first | exact dis | fail) only [go_sem, seval, -reduceOfNat, -reduceNegSucc, encB, zB, hl2, hl3, and7, shr4]; exact rfl) ?_
  try simp only [za]
  apply zd (Or.inr rfl)
  iterate 5 (simp (disch := first | exact dis | fail) only [go_sem, seval, -reduceOfNat, -reduceNegSucc] <;> exact rfl)
 | b1 :: b2 :: b3 :: r, hb, hlen =>
  have h1 : b1 < 256 := hb b1 (by simp)
  have h2 : b2 < 256 := hb b2 (by simp)
  have h3 : b3 < 256 := hb b3 (by simp)
  simp only [List.length_cons] at hlen
  have hlr : r.length < 1000000 := by omega
  by_cases g1 : b1 < 128
 
  case pos =>
   have hd : decL (b0 :: b1 :: b2 :: b3 :: r) = (65533, 1) := (by rw [zL]; (repeat' split); all_goals first | rfl | (exfalso; (try simp only [zi, zk, zp, zf] at *); omega))
   rw [zA, hd]
   refine k.eval (by simp (disch := first | exact dis | fail) only [go_sem, seval, -reduceOfNat, -reduceNegSucc, encB, zB, hl2, hl3, and7, shr4, g1]; exact rfl) ?_
   try simp only [za]
   apply zd (Or.inr rfl)
   iterate 5 (simp (disch := first | exact dis | fail) only [go_sem, seval, -reduceOfNat, -reduceNegSucc] <;> exact rfl)
  by_cases g2 : 143 < b1
  case pos =>
   have hd : decL (b0 :: b1 :: b2 :: b3 :: r) = (65533, 1) := (by rw [zL]; (repeat' split); all_goals first | rfl | (exfalso; (try simp only [zi, zk, zp, zf] at *); omega))
   rw [zA, hd]
   refine k.eval (by simp (disch := first | exact dis | fail) only [go_sem, seval, -reduceOfNat, -reduceNegSucc, encB, zB, hl2, hl3, and7, shr4, g1, g2]; exact rfl) ?_
   try simp only [za]
   apply zd (Or.inr rfl)
   iterate 5 (simp (disch := first | exact dis | fail) only [go_sem, seval, -reduceOfNat, -reduceNegSucc] <;> exact rfl)
  by_cases g3 : b2 < 128
  case pos =>
   have hd : decL (b0 :: b1 :: b2 :: b3 :: r) = (65533, 1) := (by rw [zL]; (repeat' split); all_goals first | rfl | (exfalso; (try simp only [zi, zk, zp, zf] at *); omega))
   rw [zA, hd]
   refine k.eval (by simp (disch := first | exact dis | fail) only [go_sem, seval, -reduceOfNat, -reduceNegSucc, encB, zB, hl2, hl3, and7, shr4, g1, g2, g3]; exact rfl) ?_
   try simp only [za]
   apply zd (Or.inr rfl)
   iterate 5 (simp (disch := first | exact dis | fail) only [go_sem, seval, -reduceOfNat, -reduceNegSucc] <;> exact rfl)
  by_cases g4 : 191 < b2
  case pos =>
   have hd : decL (b0 :: b1 :: b2 :: b3 :: r) = (65533, 1) := (by rw [zL]; (repeat' split); all_goals first | rfl | (exfalso; (try simp only [zi, zk, zp, zf] at *); omega))
   rw [zA, hd]
   refine k.eval (by simp (disch := first | exact dis | fail) only [go_sem, seval, -reduceOfNat, -reduceNegSucc, encB, zB, hl2, hl3, and7, shr4, g1, g2, g3, g4]; exact rfl) ?_
   try simp only [za]
   apply zd (Or.inr rfl)
   iterate 5 (simp (disch := first | exact dis | fail) only [go_sem, seval, -reduceOfNat, -reduceNegSucc] <;> exact rfl)
  by_cases g5 : b3 < 128
  case pos =>
   have hd : decL (b0 :: b1 :: b2 :: b3 :: r) = (65533, 1) := (by rw [zL]; (repeat' split); all_goals first | rfl | (exfalso; (try simp only [zi, zk, zp, zf] at *); omega))
   rw [zA, hd]
   refine k.eval (by simp (disch := first | exact dis | fail) only [go_sem, seval, -reduceOfNat, -reduceNegSucc, encB, zB, hl2, hl3, and7, shr4, g1, g2, g3, g4, g5]; exact rfl) ?_
   try simp only [za]
   apply zd (Or.inr rfl)
   iterate 5 (simp (disch := first | exact dis | fail) only [go_sem, seval, -reduceOfNat, -reduceNegSucc] <;> exact rfl)
  by_cases g6 : 191 < b3
  case pos =>
   have hd : decL (b0 :: b1 :: b2 :: b3 :: r) = (65533, 1) := (by rw [zL]; (repeat' split); all_goals first | rfl | (exfalso; (try simp only [zi, zk, zp, zf] at *); omega))
   rw [zA, hd]
   refine k.eval (by simp (disch := first | exact dis | fail) only [go_sem, seval, -reduceOfNat, -reduceNegSucc, encB, zB, hl2, hl3, and7, shr4, g1, g2, g3, g4, g5, g6]; exact rfl) ?_
   try simp only [za]
   apply zd (Or.inr rfl)
   iterate 5 (simp (disch := first | exact dis | fail) only [go_sem, seval, -reduceOfNat, -reduceNegSucc] <;> exact rfl)
  have hd : decL (b0 :: b1 :: b2 :: b3 :: r) = (dec4 b0 b1 b2 b3, 4) := (by rw [zL]; (repeat' split); all_goals first | rfl | (exfalso; (try simp only [zi, zk, zp, zf] at *); omega))
  rw [zA, hd]
  refine k.eval (by simp (disch := first | exact dis | fail) only [go_sem, seval, -reduceOfNat, -reduceNegSucc, encB, zB, hl2, hl3, and7, shr4, g1, g2, g3, g4, g5, g6, and7, qI, shl6, p4, KM, orN, or18, GL, Gf]; exact rfl) ?_
  try simp only [za]
  apply zd (Or.inr rfl)
  iterate 5 (simp (disch := first | exact dis | fail) only [go_sem, seval, -reduceOfNat, -reduceNegSucc, zp] <;> exact rfl)
set_option maxRecDepth 100000
theorem Pl {P : Program} {w0 : World} (B : Bx P w0) {O : Orc} (hO : OrcOk P w0 O) (b0 : Nat) (r : List Nat) (hb : Byt (b0 :: r)) (hc : 128 ≤ b0) (hlen : (b0 :: r).length < 1000000) :
  SC P w0 117 (encB (b0 :: r)) (H [] 0 true) (zA (b0 :: r)) (H [] 0 true) := by
 have h0 : b0 < 256 := hb b0 (by simp)
 by_cases c1 : b0 < 194 ∨ 244 < b0
 ·exact Gd B hO b0 r hb ⟨hc, c1⟩ hlen
 by_cases c2 : b0 < 224
 ·exact LL B hO b0 r hb ⟨hc, by omega, c2⟩ hlen
 by_cases c3 : b0 = 224
 ·exact US B hO b0 r hb ⟨hc, c3⟩ hlen
 by_cases c4 : b0 = 237
 ·exact UA B hO b0 r hb ⟨hc, c4⟩ hlen
 by_cases c5 : b0 < 240
 ·exact UR B hO b0 r hb ⟨hc, by omega⟩ hlen
 by_cases c6 : b0 = 240
 ·exact VP B hO b0 r hb ⟨hc, c6⟩ hlen
 by_cases c7 : b0 = 244
 ·exact JU B hO b0 r hb ⟨hc, c7⟩ hlen
 exact Jg B hO b0 r hb ⟨hc, by omega, by omega⟩ hlen
def PS (l : List Nat) : Prop := ∃ b0 r, l = b0 :: r ∧ Byt l ∧ 128 ≤ b0 ∧ l.length < 1000000
noncomputable def X7 : List AV → St → Option (AV × St) := orc0 encB PS zA
theorem J4 {O : Orc} (h : O 117 = some X7) {b0 : Nat} {r : List Nat} (hb : Byt (b0 :: r)) (h1 : 128 ≤ b0) (h2 : (b0 :: r).length < 1000000) (e : Bool) (s : St) : (evW env O).call 117 [.lst (r.length + 1) e (.int .u8 (.ofNat b0) :: zh r)] s = some (zA (b0 :: r), s) := by
 rw [zq h, X7]; exact zT uG s (b0 :: r) ⟨b0, r, rfl, hb, h1, h2⟩ (j6 (b0 :: r) e)
def zxn (l : List Nat) : Prop := l ≠ [] ∧ Byt l ∧ l.length < 1000000
noncomputable def gDr : List AV → St → Option (AV × St) := orc0 encB zxn zA
theorem zzn {O : Orc} (h : O 100 = some gDr) {l : List Nat} (h0 : l ≠ []) (hb : Byt l) (h2 : l.length < 1000000) {n : Nat} (hn : n = l.length) (e : Bool) (s : St) : (evW env O).call 100 [.lst n e (zh l)] s = some (zA l, s) := by
 subst hn
 rw [zq h, gDr, zT uG s l ⟨h0, hb, h2⟩ (j6 l e)]
theorem lI {b0 : Nat} (h : b0 < 128) (r : List Nat) : decL (b0 :: r) = (b0, 1) := by
 simp only [decL, wK, if_pos h]
theorem zxk {P : Program} {w0 : World} (B : Bx P w0) {O : Orc} (hO : OrcOk P w0 O) (h117 : O 117 = some X7) (l : List Nat) (hl : l ≠ []) (hb : Byt l) (hlen : l.length < 1000000) :
  SC P w0 100 (encB l) (H [] 0 true) (zA l) (H [] 0 true) := by
 refine Is.sc hO B.mixed B.glob B.env 0 (show env.funs.get 100 = some f100 from rfl) (Nat.le_of_ble_eq_true rfl) z8 fun C k => ?_
 match l, hl, hb, hlen with
 | b0 :: r, _, hb, hlen =>
 have h0 : b0 < 256 := hb b0 (by simp)
 unfold f100
 simp only [Ko, Ki]
 refine ze (k.eval (by simp (disch := first | exact dis | fail) only [go_sem, seval, -reduceOfNat, -reduceNegSucc, encB]; exact rfl) ?_)
 simp only [za]
 by_cases h1 : b0 < 128
 ·rw [zA, lI h1]
  refine ze ?_
  refine ze (k.eval (by simp (disch := first | exact dis | fail) only [go_sem, seval, -reduceOfNat, -reduceNegSucc]; exact rfl) ?_)
  simp only [za]
  refine zw (zI (yI (k.ev ?_)))
  simp (disch := first | exact dis | fail) only [go_sem, seval, -reduceOfNat, -reduceNegSucc, h1]
  refine ⟨_, rfl, ?_⟩
  simp only [za, zg]
  apply zd (Or.inr rfl)
  iterate 5 (simp (disch := first | exact dis | fail) only [go_sem, seval, -reduceOfNat, -reduceNegSucc] <;> exact rfl)
 ·have hs := J4 h117 (b0 := b0) (r := r) hb (by omega) hlen
  rw [zA] at hs ⊢
  refine ze ?_
  refine ze (k.eval (by simp (disch := first | exact dis | fail) only [go_sem, seval, -reduceOfNat, -reduceNegSucc]; exact rfl) ?_)
  simp only [za]
  refine zw (zI (yI (k.ev ?_)))
  simp (disch := first | exact dis | fail) only [go_sem, seval, -reduceOfNat, -reduceNegSucc, h1]
  refine ⟨_, rfl, ?_⟩
  simp only [za, zg]
  refine k.eval (by simp (disch := first | exact dis | fail) only [go_sem, seval, -reduceOfNat, -reduceNegSucc, hs]; exact rfl) ?_
  try simp only [za, zg, Cut, if_true]
  apply zd (Or.inr rfl)
  iterate 5 (simp (disch := first | exact dis | fail) only [go_sem, seval, -reduceOfNat, -reduceNegSucc] <;> exact rfl)
set_option maxRecDepth 100000
theorem ww : ∀ {l : List Nat}, l ≠ [] → 1 ≤ (decL l).2 ∧ (decL l).2 ≤ l.length ∧ zr (decL l).1 = true
 | [], h => absurd rfl h
 | [a], _ => by
  rw [qf]
  split
  ·exact ⟨Nat.le_refl _, by simp, zf.2 (by omega)⟩
  ·exact ⟨Nat.le_refl _, by simp, rfl⟩
 | [a, b], _ => by
  rw [wq]
  split
  ·exact ⟨Nat.le_refl _, by simp, zf.2 (by simp only; omega)⟩
  ·split
   ·exact ⟨by simp, by simp, zf.2 (by simp only [zi]; omega)⟩
   ·exact ⟨Nat.le_refl _, by simp, rfl⟩
 | [a, b, c], _ => by
  rw [yx]
  split
  ·exact ⟨Nat.le_refl _, by simp, zf.2 (by simp only; omega)⟩
  ·split
   ·exact ⟨by simp, by simp, zf.2 (by simp only [zi]; omega)⟩
   ·split
    ·rename_i h; exact ⟨by simp, by simp, h.2.2.2.2⟩
    ·exact ⟨Nat.le_refl _, by simp, rfl⟩
 | a :: b :: c :: d :: r, _ => by
  rw [zL]
  simp only [List.length_cons]
  split
  ·exact ⟨Nat.le_refl _, by simp only; omega, zf.2 (by simp only; omega)⟩
  ·split
   ·exact ⟨by simp, by simp only; omega, zf.2 (by simp only [zi]; omega)⟩
   ·split
    ·rename_i h; exact ⟨by simp, by simp only; omega, h.2.2.2.2⟩
    ·split
     ·rename_i h; exact ⟨by simp, by simp only; omega, h.2.2.2.2.2⟩
     ·exact ⟨Nat.le_refl _, by simp only; omega, rfl⟩
def allF (b : List Nat) : Nat → Nat → List (Nat × Nat) → Sum (List (Nat × Nat)) Nat
 | 0, i, _ => .inr i
 | k + 1, i, acc => if b.length ≤ i then .inl acc else match decR (b.drop i) with
  | none => .inr i
  | some p => allF b k (i + p.2) (acc ++ [(p.1, i)])
def yU (l : List (Nat × Nat)) : List AV := xf (fun p : Nat × Nat => [AV.int .i64 (.ofNat p.1), .int .i64 (.ofNat p.2)]) l
theorem yv (l : List (Nat × Nat)) : zo (yU l) = true := wP (fun p => by simp only [zD, yJ, zJ, Bool.and_self]) l
theorem ZB (l : List (Nat × Nat)) : wkL (yU l) = yU l := pg (fun p => rfl) l
theorem kw (l : List (Nat × Nat)) (p : Nat × Nat) : yU (l ++ [p]) = yU l ++ [.int .i64 (.ofNat p.1), .int .i64 (.ofNat p.2)] := by unfold yU; rw [x1, uM]
theorem xq (p : Nat × Nat) (l : List (Nat × Nat)) : yU (p :: l) = .int .i64 (.ofNat p.1) :: .int .i64 (.ofNat p.2) :: yU l := rfl
theorem qJ : yU [] = [] := rfl
def accC (id : Nat) (acc : List (Nat × Nat)) : AV := match acc with
 | [] => .nils
 | t :: r => .gr id 2 (t :: r).length (yU (t :: r))
def yB (ty : Nat) (acc : List (Nat × Nat)) : List (Option AObj) := match acc with
 | [] => []
 | t :: r => [some (.app ty (yU (t :: r)))]
theorem g9 {l : List (Nat × Option AObj)} {n m id pos : Nat} {md : Bool} {t : List Nat} {x : Nat} {r : List Nat} (hg : getA l id = some (.siter t pos)) (hd : t.drop pos = x :: r) :
  oNs (KL l n m md [] none) (.ptr id 0) = some (.tup [.bool true, .int .i64 (.ofNat pos), .int .i32 (.ofNat (decL (x :: r)).1)], KL ((id, some (.siter t (pos + (decL (x :: r)).2))) :: l) n (mark m id) md [] none) := by
 simp only [oNs, x3, hg, qw, hd, GN]; rfl
theorem YM {l : List (Nat × Option AObj)} {n m id pos : Nat} {md : Bool} {t : List Nat} (hg : getA l id = some (.siter t pos)) (hd : t.drop pos = []) :
  oNs (KL l n m md [] none) (.ptr id 0) = some (.tup [.bool false], KL l n m md [] none) := by
 simp only [oNs, x3, hg, qw, hd]
theorem hH (l : List (Nat × Option AObj)) (n m : Nat) (md : Bool) (t : List Nat) : oRs (KL l n m md [] none) (.str t) = some (.ptr n 0, KL ((n, some (.siter t 0)) :: l) (n + 1) m md [] none) := rfl
def allR (b : List Nat) : AV := match allF b (b.length + 1) 0 [] with
 | .inl l => .tup [.lst l.length false (yU l), .agg [.int .i64 (.ofNat 0), .int .i64 (.ofNat 0)]]
 | .inr i => .tup [.lst 0 false [], .agg [.int .i64 (.ofNat 4), .int .i64 (.ofNat i)]]
theorem Je (b : List Nat) : zy (allR b) = true := by
 unfold allR; split <;> simp only [wz, zD, yz, uT, yJ, zJ, Bool.and_self]
def PreB (b : List Nat) : Prop := Byt b ∧ b.length < 1000000
noncomputable def gAll : List AV → St → Option (AV × St) := orc0 encB PreB allR
theorem Lp {O : Orc} (h : O 83 = some gAll) {l : List Nat} (hb : Byt l) (h2 : l.length < 1000000) {n : Nat} (hn : n = l.length) (e : Bool) (s : St) : (evW env O).call 83 [.lst n e (zh l)] s = some (allR l, s) := by
 subst hn
 rw [zq h, gAll, zT uG s l ⟨hb, h2⟩ (j6 l e)]
theorem lJ {b : List Nat} : ∀ {k i : Nat} {acc l : List (Nat × Nat)}, acc.length ≤ i → i ≤ b.length → allF b k i acc = .inl l → l.length ≤ b.length
 | 0, _, _, _, _, _, h => by cases h
 | k + 1, i, acc, l, h1, h2, h => by
  rw [allF] at h
  split at h
  ·cases h; omega
  ·split at h
   ·cases h
   ·rename_i p hp
    have hne : b.drop i ≠ [] := fun he => by have := congrArg List.length he; rw [List.length_drop] at this; simp at this; omega
    unfold decR at hp
    split at hp
    ·cases hp
    ·cases hp
     have := ww hne
     rw [List.length_drop] at this
     exact lJ (by simp; omega) (by omega) h
theorem zyK {P : Program} {w0 : World} (B : Bx P w0) {O : Orc} (hO : OrcOk P w0 O) (o101 : O 101 = none) (h100 : O 100 = some gDr) (b : List Nat) (hb : Byt b) (hlen : b.length < 1000000) :
  SC P w0 83 (encB b) (H [] 0 true) (allR b) (H [] 0 true) := by
 refine Is.sc hO B.mixed B.glob B.env 0 (show env.funs.get 83 = some f83 from rfl) (Nat.le_of_ble_eq_true rfl) z8 fun C k => ?_
 have cw := @z5 env O _ _ o101 (show env.funs.get 101 = some f101 from rfl) rfl
 unfold f83
 simp only [Ko, Kn, Ki]
 refine ze (k.eval (by simp (disch := first | exact dis | fail) only [go_sem, seval, -reduceOfNat, -reduceNegSucc, encB]; exact rfl) ?_)
 simp only [za]
 refine ze (k.eval (by simp (disch := first | exact dis | fail) only [go_sem, seval, -reduceOfNat, -reduceNegSucc]; exact rfl) ?_)
 simp only [za]
 refine j8 (fun l => allF b (b.length + 1) 0 [] = .inl l) (fun l => ⟨tmL [(4, accC 1 l), (3, .ptr 0 0)], []⟩) (fun l => H ([some (.row 34 [.int .i64 (.ofNat 0), .int .i64 (.ofNat 0)] false false)] ++ yB 120 l) 0 true) ?_ ?_
 ·
  refine ze (k.eval (by simp (disch := first | exact dis | fail) only [go_sem, seval, -reduceOfNat, -reduceNegSucc, Zo, hH]; exact rfl) ?_)
  simp only [za]
  refine zw (zI (k.gcL [0, 1] [11, 4, 3, 0] true (fr1 := ⟨tmL [(11, .ptr 1 0), (4, accC 2 []), (3, .ptr 0 0), (0, .lst b.length false (zh b))], []⟩) (s1 := H ([some (.row 34 [.int .i64 (.ofNat 0), .int .i64 (.ofNat 0)] false false), some (.siter b 0)] ++ yB 120 []) 0 true) (by simp (disch := first | exact dis | fail) only [go_sem, seval, -reduceOfNat, -reduceNegSucc, accC, yB]) ?_))
  refine zV (fun x : Nat × Nat × List (Nat × Nat) => x.1) (fun x => ⟨tmL [(11, .ptr 1 0), (4, accC 2 x.2.2), (3, .ptr 0 0), (0, .lst b.length false (zh b))], []⟩) (fun x => H ([some (.row 34 [.int .i64 (.ofNat 0), .int .i64 (.ofNat 0)] false false), some (.siter b x.2.1)] ++ yB 120 x.2.2) 0 true) (fun x => allF b x.1 x.2.1 x.2.2 = allF b (b.length + 1) 0 [] ∧ b.length < x.1 + x.2.1 ∧ x.2.1 ≤ b.length ∧ x.2.2.length ≤ x.2.1) (fun x hx => ?_) (b.length + 1, 0, []) ⟨rfl, by simp only; omega, Nat.zero_le _, by simp⟩
  obtain ⟨kk, i, acc⟩ := x
  obtain ⟨g1, g2, g3, g4⟩ := hx
  simp only at g1 g2 g3 g4 ⊢
  cases kk with
  | zero => omega
  | succ kk =>
  rw [allF] at g1
  rcases zS b i with ⟨hi, hd⟩ | ⟨y, hi, hd⟩
  ·rw [if_pos hi] at g1
   have hns := fun l n m hg => @YM l n m 1 i true b hg hd
   cases acc with
   | nil =>
    refine k.eval (by simp (disch := first | exact dis | fail) only [go_sem, seval, -reduceOfNat, -reduceNegSucc, accC, yB, hns]; exact rfl) ?_
    try simp only [za, zg]
    simp only [Gcx]
    refine ⟨[], g1.symm, ?_⟩
    refine k.gcs (keep := [0]) (live := [4, 3]) (md := true) ?_
    simp (disch := first | exact dis | fail) only [go_sem, seval, -reduceOfNat, -reduceNegSucc, accC, yB]
   | cons a0 ar =>
    have hp1 := yv (a0 :: ar)
    refine k.eval (by simp (disch := first | exact dis | fail) only [go_sem, seval, -reduceOfNat, -reduceNegSucc, accC, yB, hns]; exact rfl) ?_
    try simp only [za, zg]
    simp only [Gcx]
    refine ⟨a0 :: ar, g1.symm, ?_⟩
    refine k.gcs (keep := [0, 2]) (live := [4, 3]) (md := true) ?_
    simp (disch := first | exact dis | fail) only [go_sem, seval, -reduceOfNat, -reduceNegSucc, accC, yB, hp1]
  ·rw [if_neg (by omega), hd] at g1
   have hns := fun l n m hg => @g9 l n m 1 i true b y _ hg hd
   have hsz := ww (l := y :: b.drop (i + 1)) (by simp)
   have hsl : (y :: b.drop (i + 1)).length = b.length - i := by rw [← hd, List.length_drop]
   rw [hsl] at hsz
   have hbd : Byt (y :: b.drop (i + 1)) := by rw [← hd]; exact hb.drop i
   have hdr := fun e s => zzn (O := O) h100 (l := b.drop i) (by rw [hd]; simp) (hb.drop i) (by rw [List.length_drop]; omega) (n := b.length - i) (by rw [List.length_drop]) e s
   simp only [zA, hd, zh] at hdr
   have hc1 := (zf.1 hsz.2.2).1
   revert hns hsz hc1 hdr g1
   generalize hdl : decL (y :: b.drop (i + 1)) = D
   obtain ⟨c, sz⟩ := D
   intro g1 hns hsz hdr hc1
   simp only at hns hsz hdr hc1
   by_cases h1 : c = 65533
   ·subst h1
    by_cases h2 : sz ≤ 1
    ·have hR : decR (y :: b.drop (i + 1)) = none := by unfold decR; rw [hdl, if_pos ⟨rfl, h2⟩]
     rw [hR] at g1
     simp only at g1
     simp only [allR, ← g1]
     cases acc with
     | nil =>
      refine k.eval (by simp (disch := first | exact dis | fail) only [go_sem, seval, -reduceOfNat, -reduceNegSucc, accC, yB, hns, hdr, hd, cw, f101]; exact rfl) ?_
      try simp only [za, zg]
      apply zd (Or.inr rfl)
      iterate 5 (simp (disch := first | exact dis | fail) only [go_sem, seval, -reduceOfNat, -reduceNegSucc] <;> exact rfl)
     | cons a0 ar =>
      have hp1 := yv (a0 :: ar)
      refine k.eval (by simp (disch := first | exact dis | fail) only [go_sem, seval, -reduceOfNat, -reduceNegSucc, accC, yB, hns, hdr, hd, cw, f101]; exact rfl) ?_
      try simp only [za, zg]
      apply zd (Or.inr rfl)
      iterate 5 (simp (disch := first | exact dis | fail) only [go_sem, seval, -reduceOfNat, -reduceNegSucc] <;> exact rfl)
    ·have hR : decR (y :: b.drop (i + 1)) = some (65533, sz) := by unfold decR; rw [hdl, if_neg (fun h => h2 h.2)]
     rw [hR] at g1
     simp only at g1
     cases acc with
     | nil =>
      refine k.eval (by simp (disch := first | exact dis | fail) only [go_sem, seval, -reduceOfNat, -reduceNegSucc, accC, yB, hns, hdr, hd, cw, f101]; exact rfl) ?_
      try simp only [za]
      refine ⟨(kk, i + sz, [] ++ [(65533, i)]), ⟨g1, by simp only; omega, by simp only; omega, by simp; omega⟩, Nat.lt_succ_self _, ?_⟩
      refine k.gcs (keep := [0, 1, 2]) (live := [11, 4, 3, 0]) (md := true) ?_
      simp (disch := first | exact dis | fail) only [go_sem, seval, -reduceOfNat, -reduceNegSucc, accC, yB, xq, qJ]
     | cons a0 ar =>
      have hp1 := yv (a0 :: ar)
      simp only [List.length_cons] at g4
      refine k.eval (by simp (disch := first | exact dis | fail) only [go_sem, seval, -reduceOfNat, -reduceNegSucc, accC, yB, hns, hdr, hd, cw, f101]; exact rfl) ?_
      try simp only [za]
      refine ⟨(kk, i + sz, (a0 :: ar) ++ [(65533, i)]), ⟨g1, by simp only; omega, by simp only; omega, by simp; omega⟩, Nat.lt_succ_self _, ?_⟩
      refine k.gcs (keep := [0, 1, 3]) (live := [11, 4, 3, 0]) (md := true) ?_
      simp only [List.cons_append, accC, yB, xq, kw, List.length_append, List.length_cons, List.length_nil]
      simp (disch := first | exact dis | fail) only [go_sem, seval, -reduceOfNat, -reduceNegSucc, yv]
   ·have hR : decR (y :: b.drop (i + 1)) = some (c, sz) := by unfold decR; rw [hdl, if_neg (fun h => h1 h.1)]
    rw [hR] at g1
    simp only at g1
    cases acc with
    | nil =>
     refine k.eval (by simp (disch := first | exact dis | fail) only [go_sem, seval, -reduceOfNat, -reduceNegSucc, accC, yB, hns, h1]; exact rfl) ?_
     try simp only [za]
     refine ⟨(kk, i + sz, [] ++ [(c, i)]), ⟨g1, by simp only; omega, by simp only; omega, by simp; omega⟩, Nat.lt_succ_self _, ?_⟩
     refine k.gcs (keep := [0, 1, 2]) (live := [11, 4, 3, 0]) (md := true) ?_
     simp (disch := first | exact dis | fail) only [go_sem, seval, -reduceOfNat, -reduceNegSucc, accC, yB, xq, qJ]
    | cons a0 ar =>
     have hp1 := yv (a0 :: ar)
     simp only [List.length_cons] at g4
     refine k.eval (by simp (disch := first | exact dis | fail) only [go_sem, seval, -reduceOfNat, -reduceNegSucc, accC, yB, hns, h1]; exact rfl) ?_
     try simp only [za]
     refine ⟨(kk, i + sz, (a0 :: ar) ++ [(c, i)]), ⟨g1, by simp only; omega, by simp only; omega, by simp; omega⟩, Nat.lt_succ_self _, ?_⟩
     refine k.gcs (keep := [0, 1, 3]) (live := [11, 4, 3, 0]) (md := true) ?_
     simp only [List.cons_append, accC, yB, xq, kw, List.length_append, List.length_cons, List.length_nil]
     simp (disch := first | exact dis | fail) only [go_sem, seval, -reduceOfNat, -reduceNegSucc, yv]
 ·intro l hl
  simp only [allR, hl]
  cases l with
  | nil =>
   refine k.eval (by simp (disch := first | exact dis | fail) only [go_sem, seval, -reduceOfNat, -reduceNegSucc, accC, yB]; exact rfl) ?_
   try simp only [za, zg, Cut, if_true]
   apply zd (Or.inr rfl)
   iterate 5 (simp (disch := first | exact dis | fail) only [go_sem, seval, -reduceOfNat, -reduceNegSucc, qJ] <;> exact rfl)
  | cons a0 ar =>
   have hp1 := yv (a0 :: ar)
   refine k.eval (by simp (disch := first | exact dis | fail) only [go_sem, seval, -reduceOfNat, -reduceNegSucc, accC, yB]; exact rfl) ?_
   try simp only [za, zg, Cut, if_true]
   apply zd (Or.inr rfl)
   iterate 5 (simp (disch := first | exact dis | fail) only [go_sem, seval, -reduceOfNat, -reduceNegSucc, ZB] <;> exact rfl)
set_option maxRecDepth 100000
def xo (l : List Nat) : List AV := xf (fun n : Nat => [AV.int .i64 (.ofNat n)]) l
theorem xr (l : List Nat) : zo (xo l) = true := wP (fun p => by simp only [zD, yJ, zJ, Bool.and_self]) l
theorem ZU (l : List Nat) : wkL (xo l) = xo l := pg (fun p => rfl) l
theorem pL (l : List Nat) (p : Nat) : xo (l ++ [p]) = xo l ++ [.int .i64 (.ofNat p)] := by unfold xo; rw [x1, uM]
theorem qa (p : Nat) (l : List Nat) : xo (p :: l) = .int .i64 (.ofNat p) :: xo l := rfl
theorem vE : xo [] = [] := rfl
theorem Xl (i : Nat) (l : List Nat) : z4 i (xo l) = xo (l.drop i) := by
 have := v3 (f := fun n : Nat => [AV.int .i64 (.ofNat n)]) (k := 1) (fun _ => rfl) i l
 rw [Nat.mul_one] at this; exact this
theorem gj (i : Nat) (l : List (Nat × Nat)) : z4 (i * 2) (yU l) = yU (l.drop i) := v3 (k := 2) (fun _ => rfl) i l
def accN (id : Nat) (acc : List Nat) : AV := match acc with
 | [] => .nils
 | t :: r => .gr id 1 (t :: r).length (xo (t :: r))
def xc (ty : Nat) (acc : List Nat) : List (Option AObj) := match acc with
 | [] => []
 | t :: r => [some (.app ty (xo (t :: r)))]
def yW (b : List Nat) : Option (List Nat) := match allF b (b.length + 1) 0 [] with
 | .inl l => some (l.map (·.1))
 | .inr _ => none
def wo (b : List Nat) : AV := match yW b with
 | some l => .tup [.lst l.length false (xo l), .int .i64 (.ofNat 0)]
 | none => .tup [.lst 0 false [], .int .i64 (.ofNat 4)]
theorem gO (b : List Nat) : zy (wo b) = true := by
 unfold wo; split <;> simp only [wz, zD, yz, yJ, zJ, Bool.and_self]
def encS (s : List Nat) : List AV := [.str s]
theorem uo : ∀ x y, encS x = encS y → x = y := fun x y h => by
 simp only [encS, List.cons.injEq, AV.str.injEq, and_true] at h; exact h
theorem qt (l : List Nat) : zo (encS l) = true := by simp only [encS, zD, qr, zJ, Bool.and_self]
noncomputable def ud : List AV → St → Option (AV × St) := orc0 encS PreB wo
theorem jk {O : Orc} {f : Nat} (h : O f = some ud) {l : List Nat} (hb : Byt l) (h2 : l.length < 1000000) (s : St) : (evW env O).call f [.str l] s = some (wo l, s) := by
 rw [zq h, ud, zT uo s l ⟨hb, h2⟩ rfl]
theorem Hm {P : Program} {w0 : World} (B : Bx P w0) {O : Orc} (hO : OrcOk P w0 O) (h83 : O 83 = some gAll) (b : List Nat) (hb : Byt b) (hlen : b.length < 1000000) :
  SC P w0 52 (encS b) (H [] 0 true) (wo b) (H [] 0 true) := by
 refine Is.sc hO B.mixed B.glob B.env 0 (show env.funs.get 52 = some f52 from rfl) (Nat.le_of_ble_eq_true rfl) z8 fun C k => ?_
 have hall := fun e s => Lp h83 hb hlen rfl e s
 unfold f52
 simp only [Ko, Kn, Kd, Ki]
 refine ze (k.eval (by simp (disch := first | exact dis | fail) only [go_sem, seval, -reduceOfNat, -reduceNegSucc, encS]; exact rfl) ?_)
 simp only [za]
 cases hA : allF b (b.length + 1) 0 [] with
 | inr i =>
  simp only [wo, yW, hA]
  simp only [allR, hA] at hall
  refine k.eval (by simp (disch := first | exact dis | fail) only [go_sem, seval, -reduceOfNat, -reduceNegSucc, hall]; exact rfl) ?_
  try simp only [za, zg, Cut, if_true]
  apply zd (Or.inr rfl)
  iterate 5 (simp (disch := first | exact dis | fail) only [go_sem, seval, -reduceOfNat, -reduceNegSucc] <;> exact rfl)
 | inl l =>
  have hl := lJ (by simp) (by simp) hA
  simp only [wo, yW, hA]
  simp only [allR, hA] at hall
  refine ze (k.eval (by simp (disch := first | exact dis | fail) only [go_sem, seval, -reduceOfNat, -reduceNegSucc, hall]; exact rfl) ?_)
  simp only [za]
  refine ze (k.eval (by simp (disch := first | exact dis | fail) only [go_sem, seval, -reduceOfNat, -reduceNegSucc]; exact rfl) ?_)
  simp only [za]
  refine ze (k.eval (by simp (disch := first | exact dis | fail) only [go_sem, seval, -reduceOfNat, -reduceNegSucc]; exact rfl) ?_)
  simp only [za]
  refine wH ⟨tmL [(6, accN 0 (l.map (·.1)))], []⟩ (H (xc 3 (l.map (·.1))) 0 true) ?_ ?_
  ·
   refine ze (k.eval (by simp (disch := first | exact dis | fail) only [go_sem, seval, -reduceOfNat, -reduceNegSucc]; exact rfl) ?_)
   simp only [za]
   refine zw (zI (k.gcL [] [22, 21, 20, 6] true (fr1 := ⟨tmL [(22, .int .i64 (.ofNat 0)), (21, .int .i64 (.ofNat l.length)), (20, .lst l.length false (yU l)), (6, accN 0 [])], []⟩) (s1 := H (xc 3 []) 0 true) (by simp (disch := first | exact dis | fail) only [go_sem, seval, -reduceOfNat, -reduceNegSucc, accN, xc]) ?_))
   refine zV (fun x : Nat × List Nat => l.length - x.1) (fun x => ⟨tmL [(22, .int .i64 (.ofNat x.1)), (21, .int .i64 (.ofNat l.length)), (20, .lst l.length false (yU l)), (6, accN 0 x.2)], []⟩) (fun x => H (xc 3 x.2) 0 true) (fun x => x.1 ≤ l.length ∧ x.2 = (l.take x.1).map (·.1)) (fun x hx => ?_) (0, []) ⟨Nat.zero_le _, rfl⟩
   obtain ⟨i, acc⟩ := x
   obtain ⟨g1, g2⟩ := hx
   simp only at g1 g2 ⊢
   rcases zS l i with ⟨hi, hd⟩ | ⟨⟨c, p⟩, hi, hd⟩
   ·have hlt : ¬ i < l.length := by omega
    rw [List.take_of_length_le hi] at g2
    rw [← g2]
    cases acc with
    | nil =>
     refine k.eval (by simp (disch := first | exact dis | fail) only [go_sem, seval, -reduceOfNat, -reduceNegSucc, accN, xc, hlt]; exact rfl) ?_
     try simp only [za, zg, Cut]
     refine k.gcs (keep := []) (live := [6]) (md := true) ?_
     simp (disch := first | exact dis | fail) only [go_sem, seval, -reduceOfNat, -reduceNegSucc, accN, xc]
    | cons a0 ar =>
     have hp1 := xr (a0 :: ar)
     refine k.eval (by simp (disch := first | exact dis | fail) only [go_sem, seval, -reduceOfNat, -reduceNegSucc, accN, xc, hlt]; exact rfl) ?_
     try simp only [za, zg, Cut]
     refine k.gcs (keep := [0]) (live := [6]) (md := true) ?_
     simp (disch := first | exact dis | fail) only [go_sem, seval, -reduceOfNat, -reduceNegSucc, accN, xc, hp1]
   ·have hdr : z4 (i * 2) (yU l) = .int .i64 (.ofNat c) :: .int .i64 (.ofNat p) :: yU (l.drop (i + 1)) := by rw [gj, hd, xq]
    have hnext : acc ++ [c] = (l.take (i + 1)).map (·.1) := by
     rw [List.take_add, hd, g2]; simp
    have hacc : acc.length = i := by rw [g2, List.length_map, List.length_take]; omega
    cases acc with
    | nil =>
     refine k.eval (by simp (disch := first | exact dis | fail) only [go_sem, seval, -reduceOfNat, -reduceNegSucc, accN, xc, hi, hdr]; exact rfl) ?_
     try simp only [za]
     refine ⟨(i + 1, [] ++ [c]), ⟨by simp only; omega, hnext⟩, by simp only; omega, ?_⟩
     refine k.gcs (keep := [1]) (live := [22, 21, 20, 6]) (md := true) ?_
     simp (disch := first | exact dis | fail) only [go_sem, seval, -reduceOfNat, -reduceNegSucc, accN, xc, qa, vE]
    | cons a0 ar =>
     have hp1 := xr (a0 :: ar)
     simp only [List.length_cons] at hacc
     refine k.eval (by simp (disch := first | exact dis | fail) only [go_sem, seval, -reduceOfNat, -reduceNegSucc, accN, xc, hi, hdr]; exact rfl) ?_
     try simp only [za]
     refine ⟨(i + 1, (a0 :: ar) ++ [c]), ⟨by simp only; omega, hnext⟩, by simp only; omega, ?_⟩
     refine k.gcs (keep := [2]) (live := [22, 21, 20, 6]) (md := true) ?_
     simp only [List.cons_append, accN, xc, qa, pL, List.length_append, List.length_cons, List.length_nil]
     simp (disch := first | exact dis | fail) only [go_sem, seval, -reduceOfNat, -reduceNegSucc, xr]
  ·generalize l.map (·.1) = m
   cases m with
   | nil =>
    refine k.eval (by simp (disch := first | exact dis | fail) only [go_sem, seval, -reduceOfNat, -reduceNegSucc, accN, xc]; exact rfl) ?_
    try simp only [za, zg, Cut, if_true]
    apply zd (Or.inr rfl)
    iterate 5 (simp (disch := first | exact dis | fail) only [go_sem, seval, -reduceOfNat, -reduceNegSucc, vE] <;> exact rfl)
   | cons a0 ar =>
    have hp1 := xr (a0 :: ar)
    refine k.eval (by simp (disch := first | exact dis | fail) only [go_sem, seval, -reduceOfNat, -reduceNegSucc, accN, xc]; exact rfl) ?_
    try simp only [za, zg, Cut, if_true]
    apply zd (Or.inr rfl)
    iterate 5 (simp (disch := first | exact dis | fail) only [go_sem, seval, -reduceOfNat, -reduceNegSucc, ZU] <;> exact rfl)
def jK (b : List Nat) : AV := match allF b (b.length + 1) 0 [] with
 | .inl l => .tup [.lst l.length false (yU l), .int .i64 (.ofNat 0), .int .i64 (.ofNat 0)]
 | .inr i => .tup [.lst 0 false [], .int .i64 (.ofNat 4), .int .i64 (.ofNat i)]
theorem WM (b : List Nat) : zy (jK b) = true := by
 unfold jK; split <;> simp only [wz, zD, yz, yJ, zJ, Bool.and_self]
noncomputable def YV : List AV → St → Option (AV × St) := orc0 encB PreB jK
theorem VJ {O : Orc} (h : O 53 = some YV) {l : List Nat} (hb : Byt l) (h2 : l.length < 1000000) {n : Nat} (hn : n = l.length) (e : Bool) (s : St) : (evW env O).call 53 [.lst n e (zh l)] s = some (jK l, s) := by
 subst hn
 rw [zq h, YV, zT uG s l ⟨hb, h2⟩ (j6 l e)]
theorem zzC {P : Program} {w0 : World} (B : Bx P w0) {O : Orc} (hO : OrcOk P w0 O) (h84 : O 84 = some gGet) (b : List Nat) (hb : Byt b) (hlen : b.length < 1000000) :
  SC P w0 53 (encB b) (H [] 0 true) (jK b) (H [] 0 true) := by
 refine Is.sc hO B.mixed B.glob B.env 0 (show env.funs.get 53 = some f53 from rfl) (Nat.le_of_ble_eq_true rfl) z8 fun C k => ?_
 unfold f53
 simp only [Ko, Ki]
 refine ze (k.eval (by simp (disch := first | exact dis | fail) only [go_sem, seval, -reduceOfNat, -reduceNegSucc, encB]; exact rfl) ?_)
 simp only [za]
 refine ze (k.eval (by simp (disch := first | exact dis | fail) only [go_sem, seval, -reduceOfNat, -reduceNegSucc]; exact rfl) ?_)
 simp only [za]
 refine ze (k.eval (by simp (disch := first | exact dis | fail) only [go_sem, seval, -reduceOfNat, -reduceNegSucc]; exact rfl) ?_)
 simp only [za]
 refine j8 (fun l => allF b (b.length + 1) 0 [] = .inl l) (fun l => ⟨tmL [(5, accC 0 l)], []⟩) (fun l => H (yB 96 l) 0 true) ?_ ?_
 ·refine zw (zI (k.gcL [] [6, 5, 0] true (fr1 := ⟨tmL [(6, .int .i64 (.ofNat 0)), (5, accC 0 []), (0, .lst b.length false (zh b))], []⟩) (s1 := H (yB 96 []) 0 true) (by simp (disch := first | exact dis | fail) only [go_sem, seval, -reduceOfNat, -reduceNegSucc, accC, yB]) ?_))
  refine zV (fun x : Nat × Nat × List (Nat × Nat) => x.1) (fun x => ⟨tmL [(6, .int .i64 (.ofNat x.2.1)), (5, accC 0 x.2.2), (0, .lst b.length false (zh b))], []⟩) (fun x => H (yB 96 x.2.2) 0 true) (fun x => allF b x.1 x.2.1 x.2.2 = allF b (b.length + 1) 0 [] ∧ b.length < x.1 + x.2.1 ∧ x.2.1 ≤ b.length ∧ x.2.2.length ≤ x.2.1) (fun x hx => ?_) (b.length + 1, 0, []) ⟨rfl, by simp only; omega, Nat.zero_le _, by simp⟩
  obtain ⟨kk, i, acc⟩ := x
  obtain ⟨g1, g2, g3, g4⟩ := hx
  simp only at g1 g2 g3 g4 ⊢
  cases kk with
  | zero => omega
  | succ kk =>
  rw [allF] at g1
  by_cases hi : b.length ≤ i
  ·rw [if_pos hi] at g1
   have hlt : ¬ i < b.length := by omega
   cases acc with
   | nil =>
    refine k.eval (by simp (disch := first | exact dis | fail) only [go_sem, seval, -reduceOfNat, -reduceNegSucc, accC, yB, hlt]; exact rfl) ?_
    try simp only [za, zg]
    simp only [Gcx]
    refine ⟨[], g1.symm, ?_⟩
    refine k.gcs (keep := []) (live := [5]) (md := true) ?_
    simp (disch := first | exact dis | fail) only [go_sem, seval, -reduceOfNat, -reduceNegSucc, accC, yB]
   | cons a0 ar =>
    have hp1 := yv (a0 :: ar)
    refine k.eval (by simp (disch := first | exact dis | fail) only [go_sem, seval, -reduceOfNat, -reduceNegSucc, accC, yB, hlt]; exact rfl) ?_
    try simp only [za, zg]
    simp only [Gcx]
    refine ⟨a0 :: ar, g1.symm, ?_⟩
    refine k.gcs (keep := [0]) (live := [5]) (md := true) ?_
    simp (disch := first | exact dis | fail) only [go_sem, seval, -reduceOfNat, -reduceNegSucc, accC, yB, hp1]
  ·have hi2 : i < b.length := by omega
   rw [if_neg hi] at g1
   have hget := fun e s => Lx h84 hb hi2 hlen e s
   have hne : b.drop i ≠ [] := fun he => by have := congrArg List.length he; rw [List.length_drop] at this; simp at this; omega
   have hsz := ww hne
   rw [List.length_drop] at hsz
   simp only [getR, Hw (hb.drop i) hne] at hget
   cases hR : decR (b.drop i) with
   | none =>
    rw [hR] at g1 hget
    simp only at g1 hget
    simp only [jK, ← g1]
    cases acc with
    | nil =>
     refine k.eval (by simp (disch := first | exact dis | fail) only [go_sem, seval, -reduceOfNat, -reduceNegSucc, accC, yB, hi2, hget]; exact rfl) ?_
     try simp only [za, zg]
     apply zd (Or.inr rfl)
     iterate 5 (simp (disch := first | exact dis | fail) only [go_sem, seval, -reduceOfNat, -reduceNegSucc] <;> exact rfl)
    | cons a0 ar =>
     have hp1 := yv (a0 :: ar)
     refine k.eval (by simp (disch := first | exact dis | fail) only [go_sem, seval, -reduceOfNat, -reduceNegSucc, accC, yB, hi2, hget]; exact rfl) ?_
     try simp only [za, zg]
     apply zd (Or.inr rfl)
     iterate 5 (simp (disch := first | exact dis | fail) only [go_sem, seval, -reduceOfNat, -reduceNegSucc] <;> exact rfl)
   | some p =>
    obtain ⟨c, sz⟩ := p
    have hD : decL (b.drop i) = (c, sz) := by
     unfold decR at hR
     split at hR
     ·cases hR
     ·exact Option.some.inj hR
    rw [hD] at hsz
    rw [hR] at g1 hget
    simp only at g1 hget hsz
    cases acc with
    | nil =>
     refine k.eval (by simp (disch := first | exact dis | fail) only [go_sem, seval, -reduceOfNat, -reduceNegSucc, accC, yB, hi2, hget]; exact rfl) ?_
     try simp only [za]
     refine ⟨(kk, i + sz, [] ++ [(c, i)]), ⟨g1, by simp only; omega, by simp only; omega, by simp; omega⟩, Nat.lt_succ_self _, ?_⟩
     refine k.gcs (keep := [0]) (live := [6, 5, 0]) (md := true) ?_
     simp (disch := first | exact dis | fail) only [go_sem, seval, -reduceOfNat, -reduceNegSucc, accC, yB, xq, qJ]
    | cons a0 ar =>
     have hp1 := yv (a0 :: ar)
     simp only [List.length_cons] at g4
     refine k.eval (by simp (disch := first | exact dis | fail) only [go_sem, seval, -reduceOfNat, -reduceNegSucc, accC, yB, hi2, hget]; exact rfl) ?_
     try simp only [za]
     refine ⟨(kk, i + sz, (a0 :: ar) ++ [(c, i)]), ⟨g1, by simp only; omega, by simp only; omega, by simp; omega⟩, Nat.lt_succ_self _, ?_⟩
     refine k.gcs (keep := [1]) (live := [6, 5, 0]) (md := true) ?_
     simp only [List.cons_append, accC, yB, xq, kw, List.length_append, List.length_cons, List.length_nil]
     simp (disch := first | exact dis | fail) only [go_sem, seval, -reduceOfNat, -reduceNegSucc, yv]
 ·intro l hl
  simp only [jK, hl]
  cases l with
  | nil =>
   refine k.eval (by simp (disch := first | exact dis | fail) only [go_sem, seval, -reduceOfNat, -reduceNegSucc, accC, yB]; exact rfl) ?_
   try simp only [za, zg, Cut, if_true]
   apply zd (Or.inr rfl)
   iterate 5 (simp (disch := first | exact dis | fail) only [go_sem, seval, -reduceOfNat, -reduceNegSucc, qJ] <;> exact rfl)
  | cons a0 ar =>
   have hp1 := yv (a0 :: ar)
   refine k.eval (by simp (disch := first | exact dis | fail) only [go_sem, seval, -reduceOfNat, -reduceNegSucc, accC, yB]; exact rfl) ?_
   try simp only [za, zg, Cut, if_true]
   apply zd (Or.inr rfl)
   iterate 5 (simp (disch := first | exact dis | fail) only [go_sem, seval, -reduceOfNat, -reduceNegSucc, ZB] <;> exact rfl)
theorem UP {P : Program} {w0 : World} (B : Bx P w0) {O : Orc} (hO : OrcOk P w0 O) (h53 : O 53 = some YV) (b : List Nat) (hb : Byt b) (hlen : b.length < 1000000) :
  SC P w0 28 (encS b) (H [] 0 true) (wo b) (H [] 0 true) := by
 refine Is.sc hO B.mixed B.glob B.env 0 (show env.funs.get 28 = some f28 from rfl) (Nat.le_of_ble_eq_true rfl) z8 fun C k => ?_
 have hall := fun e s => VJ h53 hb hlen rfl e s
 unfold f28
 simp only [Ko, Ki]
 refine ze (k.eval (by simp (disch := first | exact dis | fail) only [go_sem, seval, -reduceOfNat, -reduceNegSucc, encS]; exact rfl) ?_)
 simp only [za]
 cases hA : allF b (b.length + 1) 0 [] with
 | inr i =>
  simp only [wo, yW, hA]
  simp only [jK, hA] at hall
  refine k.eval (by simp (disch := first | exact dis | fail) only [go_sem, seval, -reduceOfNat, -reduceNegSucc, hall]; exact rfl) ?_
  try simp only [za, zg, Cut, if_true]
  apply zd (Or.inr rfl)
  iterate 5 (simp (disch := first | exact dis | fail) only [go_sem, seval, -reduceOfNat, -reduceNegSucc] <;> exact rfl)
 | inl l =>
  have hl := lJ (by simp) (by simp) hA
  simp only [wo, yW, hA]
  simp only [jK, hA] at hall
  refine ze (k.eval (by simp (disch := first | exact dis | fail) only [go_sem, seval, -reduceOfNat, -reduceNegSucc, hall]; exact rfl) ?_)
  simp only [za]
  refine ze (k.eval (by simp (disch := first | exact dis | fail) only [go_sem, seval, -reduceOfNat, -reduceNegSucc]; exact rfl) ?_)
  simp only [za]
  refine ze (k.eval (by simp (disch := first | exact dis | fail) only [go_sem, seval, -reduceOfNat, -reduceNegSucc]; exact rfl) ?_)
  simp only [za]
  refine wH ⟨tmL [(7, accN 0 (l.map (·.1)))], []⟩ (H (xc 3 (l.map (·.1))) 0 true) ?_ ?_
  ·
   refine ze (k.eval (by simp (disch := first | exact dis | fail) only [go_sem, seval, -reduceOfNat, -reduceNegSucc]; exact rfl) ?_)
   simp only [za]
   refine zw (zI (k.gcL [] [8, 7, 4] true (fr1 := ⟨tmL [(8, .int .i64 (.ofNat 0)), (7, accN 0 []), (4, .lst l.length false (yU l))], []⟩) (s1 := H (xc 3 []) 0 true) (by simp (disch := first | exact dis | fail) only [go_sem, seval, -reduceOfNat, -reduceNegSucc, accN, xc]) ?_))
   refine zV (fun x : Nat × List Nat => l.length - x.1) (fun x => ⟨tmL [(8, .int .i64 (.ofNat x.1)), (7, accN 0 x.2), (4, .lst l.length false (yU l))], []⟩) (fun x => H (xc 3 x.2) 0 true) (fun x => x.1 ≤ l.length ∧ x.2 = (l.take x.1).map (·.1)) (fun x hx => ?_) (0, []) ⟨Nat.zero_le _, rfl⟩
   obtain ⟨i, acc⟩ := x
   obtain ⟨g1, g2⟩ := hx
   simp only at g1 g2 ⊢
   rcases zS l i with ⟨hi, hd⟩ | ⟨⟨c, p⟩, hi, hd⟩
   ·have hlt : ¬ i < l.length := by omega
    rw [List.take_of_length_le hi] at g2
    rw [← g2]
    cases acc with
    | nil =>
     refine k.eval (by simp (disch := first | exact dis | fail) only [go_sem, seval, -reduceOfNat, -reduceNegSucc, accN, xc, hlt]; exact rfl) ?_
     try simp only [za, zg, Cut]
     refine k.gcs (keep := []) (live := [7]) (md := true) ?_
     simp (disch := first | exact dis | fail) only [go_sem, seval, -reduceOfNat, -reduceNegSucc, accN, xc]
    | cons a0 ar =>
     have hp1 := xr (a0 :: ar)
     refine k.eval (by simp (disch := first | exact dis | fail) only [go_sem, seval, -reduceOfNat, -reduceNegSucc, accN, xc, hlt]; exact rfl) ?_
     try simp only [za, zg, Cut]
     refine k.gcs (keep := [0]) (live := [7]) (md := true) ?_
     simp (disch := first | exact dis | fail) only [go_sem, seval, -reduceOfNat, -reduceNegSucc, accN, xc, hp1]
   ·have hdr : z4 (i * 2) (yU l) = .int .i64 (.ofNat c) :: .int .i64 (.ofNat p) :: yU (l.drop (i + 1)) := by rw [gj, hd, xq]
    have hnext : acc ++ [c] = (l.take (i + 1)).map (·.1) := by
     rw [List.take_add, hd, g2]; simp
    have hacc : acc.length = i := by rw [g2, List.length_map, List.length_take]; omega
    cases acc with
    | nil =>
     refine k.eval (by simp (disch := first | exact dis | fail) only [go_sem, seval, -reduceOfNat, -reduceNegSucc, accN, xc, hi, hdr]; exact rfl) ?_
     try simp only [za]
     refine ⟨(i + 1, [] ++ [c]), ⟨by simp only; omega, hnext⟩, by simp only; omega, ?_⟩
     refine k.gcs (keep := [0]) (live := [8, 7, 4]) (md := true) ?_
     simp (disch := first | exact dis | fail) only [go_sem, seval, -reduceOfNat, -reduceNegSucc, accN, xc, qa, vE]
    | cons a0 ar =>
     have hp1 := xr (a0 :: ar)
     simp only [List.length_cons] at hacc
     refine k.eval (by simp (disch := first | exact dis | fail) only [go_sem, seval, -reduceOfNat, -reduceNegSucc, accN, xc, hi, hdr]; exact rfl) ?_
     try simp only [za]
     refine ⟨(i + 1, (a0 :: ar) ++ [c]), ⟨by simp only; omega, hnext⟩, by simp only; omega, ?_⟩
     refine k.gcs (keep := [1]) (live := [8, 7, 4]) (md := true) ?_
     simp only [List.cons_append, accN, xc, qa, pL, List.length_append, List.length_cons, List.length_nil]
     simp (disch := first | exact dis | fail) only [go_sem, seval, -reduceOfNat, -reduceNegSucc, xr]
  ·generalize l.map (·.1) = m
   cases m with
   | nil =>
    refine k.eval (by simp (disch := first | exact dis | fail) only [go_sem, seval, -reduceOfNat, -reduceNegSucc, accN, xc]; exact rfl) ?_
    try simp only [za, zg, Cut, if_true]
    apply zd (Or.inr rfl)
    iterate 5 (simp (disch := first | exact dis | fail) only [go_sem, seval, -reduceOfNat, -reduceNegSucc, vE] <;> exact rfl)
   | cons a0 ar =>
    have hp1 := xr (a0 :: ar)
    refine k.eval (by simp (disch := first | exact dis | fail) only [go_sem, seval, -reduceOfNat, -reduceNegSucc, accN, xc]; exact rfl) ?_
    try simp only [za, zg, Cut, if_true]
    apply zd (Or.inr rfl)
    iterate 5 (simp (disch := first | exact dis | fail) only [go_sem, seval, -reduceOfNat, -reduceNegSucc, ZU] <;> exact rfl)
set_option maxRecDepth 100000
def xR (c : Nat) : Bool := decide (48 ≤ c) && decide (c ≤ 57)
def x4 (s : List Nat) : List Nat := match s with
 | [] => []
 | c :: r => if c = 45 then r else c :: r
def numS (s : List Nat) : Bool := match x4 s with
 | [] => false
 | c :: r => (decide (c ≠ 48) || eqS s [48]) && (c :: r).all xR
def ixF : Nat → List Nat → Int
 | _, [] => -1
 | i, c :: r => if xR c = true then ixF (i + 1) r else .ofNat i
theorem Yt : ∀ (i : Nat) (s : List Nat), (!ltD (ixF i s) (.ofNat 0)) = !s.all xR
 | i, [] => rfl
 | i, c :: r => by
  simp only [ixF, List.all_cons]
  cases hc : xR c with
  | true => rw [if_pos rfl, Yt (i + 1) r]; rfl
  | false =>
   rw [if_neg (by simp)]
   have : ltD (.ofNat i) (.ofNat 0) = false := by rw [hY]; exact decide_eq_false (by omega)
   rw [this]; rfl
theorem pb (a b : Bool) : vEqk .bool false (.bool a) (.bool b) = some (.bool (a == b)) := by cases a <;> cases b <;> rfl
theorem H7 {y : Nat} (hy : 128 ≤ y) : ∀ r : List Nat, 128 ≤ (decL (y :: r)).1
 | [] => by rw [qf, if_neg (by omega)]; simp
 | [a] => by
  rw [wq, if_neg (by omega)]; split
  ·rename_i h; exact h.2.2
  ·simp
 | [a, b] => by
  rw [yx, if_neg (by omega)]; split
  ·rename_i h; exact h.2.2
  ·split
   ·rename_i h; have := h.2.2.2.1; simp only; omega
   ·simp
 | a :: b :: c :: r => by
  rw [zL, if_neg (by omega)]; split
  ·rename_i h; exact h.2.2
  ·split
   ·rename_i h; have := h.2.2.2.1; simp only; omega
   ·split
    ·rename_i h; have := h.2.2.2.2.1; simp only; omega
    ·simp
def encX (s : List Nat) : List AV := [.str s, .fn 81 [] [], .bool true]
theorem KU : ∀ x y, encX x = encX y → x = y := fun x y h => by
 simp only [encX, List.cons.injEq, AV.str.injEq, and_true] at h; exact h
theorem Uz (l : List Nat) : zo (encX l) = true := by simp only [encX, zD, qr, ul, qF, zJ, Bool.and_self]
noncomputable def gIx : List AV → St → Option (AV × St) := orc0 encX PreB (fun s => .int .i64 (ixF 0 s))
theorem Q5 {O : Orc} (h : O 116 = some gIx) {l : List Nat} (hb : Byt l) (h2 : l.length < 1000000) (s : St) : (evW env O).call 116 [.str l, .fn 81 [] [], .bool true] s = some (.int .i64 (ixF 0 l), s) := by
 rw [zq h, gIx, zT KU s l ⟨hb, h2⟩ rfl]
theorem zy2 {P : Program} {w0 : World} (B : Bx P w0) {O : Orc} (hO : OrcOk P w0 O) (o81 : O 81 = none) (b : List Nat) (hb : Byt b) (hlen : b.length < 1000000) :
  SC P w0 116 (encX b) (H [] 0 true) (.int .i64 (ixF 0 b)) (H [] 0 true) := by
 refine Is.sc hO B.mixed B.glob B.env 0 (show env.funs.get 116 = some f116 from rfl) (Nat.le_of_ble_eq_true rfl) z8 fun C k => ?_
 have c81 := @z5 env O _ _ o81 (show env.funs.get 81 = some f81 from rfl) rfl
 unfold f116
 simp only [Ko, Ki]
 refine ze (k.eval (by simp (disch := first | exact dis | fail) only [go_sem, seval, -reduceOfNat, -reduceNegSucc, encX]; exact rfl) ?_)
 simp only [za]
 refine wG (p := ixF 0 b = -1) ⟨tmL [], []⟩ (H [] 0 true) ?_ ?_
 ·
  refine ze (k.eval (by simp (disch := first | exact dis | fail) only [go_sem, seval, -reduceOfNat, -reduceNegSucc, hH]; exact rfl) ?_)
  simp only [za]
  refine zw (zI (k.gcL [0] [10, 2, 1] true (fr1 := ⟨tmL [(10, .ptr 0 0), (2, .bool true), (1, .fn 81 [] [])], []⟩) (s1 := H [some (.siter b 0)] 0 true) (by simp (disch := first | exact dis | fail) only [go_sem, seval, -reduceOfNat, -reduceNegSucc]) ?_))
  refine zV (fun i : Nat => b.length - i) (fun i => ⟨tmL [(10, .ptr 0 0), (2, .bool true), (1, .fn 81 [] [])], []⟩) (fun i => H [some (.siter b i)] 0 true) (fun i => i ≤ b.length ∧ ixF i (b.drop i) = ixF 0 b) (fun i hi => ?_) 0 ⟨Nat.zero_le _, rfl⟩
  obtain ⟨g1, g2⟩ := hi
  rcases zS b i with ⟨hi, hd⟩ | ⟨y, hi, hd⟩
  ·have hns := fun l n m hg => @YM l n m 0 i true b hg hd
   rw [hd] at g2
   refine k.eval (by simp (disch := first | exact dis | fail) only [go_sem, seval, -reduceOfNat, -reduceNegSucc, hns]; exact rfl) ?_
   try simp only [za, zg]
   simp only [CutP]
   refine ⟨g2.symm, ?_⟩
   refine k.gcs (keep := []) (live := []) (md := true) ?_
   simp (disch := first | exact dis | fail) only [go_sem, seval, -reduceOfNat, -reduceNegSucc]
  ·have hns := fun l n m hg => @g9 l n m 0 i true b y _ hg hd
   rw [hd] at g2
   simp only [ixF] at g2
   by_cases h1 : y < 128
   ·rw [lI h1] at hns
    simp only at hns
    by_cases h2 : y < 48
    ·rw [if_neg (by simp [xR]; omega)] at g2
     rw [← g2]
     refine k.eval (by simp (disch := first | exact dis | fail) only [go_sem, seval, -reduceOfNat, -reduceNegSucc, hns, c81, f81, h2, pb]; exact rfl) ?_
     try simp only [za, zg]
     simp only [CutP]
     apply zd (Or.inr rfl)
     iterate 5 (simp (disch := first | exact dis | fail) only [go_sem, seval, -reduceOfNat, -reduceNegSucc] <;> exact rfl)
    ·by_cases h3 : 57 < y
     ·rw [if_neg (by simp [xR]; omega)] at g2
      rw [← g2]
      refine k.eval (by simp (disch := first | exact dis | fail) only [go_sem, seval, -reduceOfNat, -reduceNegSucc, hns, c81, f81, h2, h3, pb]; exact rfl) ?_
      try simp only [za, zg]
      simp only [CutP]
      apply zd (Or.inr rfl)
      iterate 5 (simp (disch := first | exact dis | fail) only [go_sem, seval, -reduceOfNat, -reduceNegSucc] <;> exact rfl)
     ·rw [if_pos (by simp [xR]; omega)] at g2
      refine k.eval (by simp (disch := first | exact dis | fail) only [go_sem, seval, -reduceOfNat, -reduceNegSucc, hns, c81, f81, h2, h3, pb]; exact rfl) ?_
      try simp only [za]
      refine ⟨i + 1, ⟨by omega, g2⟩, by omega, ?_⟩
      refine k.gcs (keep := [0]) (live := [10, 2, 1]) (md := true) ?_
      simp (disch := first | exact dis | fail) only [go_sem, seval, -reduceOfNat, -reduceNegSucc]
   ·have hbig := H7 (y := y) (by omega) (b.drop (i + 1))
    rw [if_neg (by simp [xR]; omega)] at g2
    rw [← g2]
    revert hns hbig
    generalize decL (y :: b.drop (i + 1)) = D
    obtain ⟨c, sz⟩ := D
    intro hns hbig
    simp only at hns hbig
    have h2 : ¬ c < 48 := by omega
    have h3 : 57 < c := by omega
    refine k.eval (by simp (disch := first | exact dis | fail) only [go_sem, seval, -reduceOfNat, -reduceNegSucc, hns, c81, f81, h2, h3, pb]; exact rfl) ?_
    try simp only [za, zg]
    simp only [CutP]
    apply zd (Or.inr rfl)
    iterate 5 (simp (disch := first | exact dis | fail) only [go_sem, seval, -reduceOfNat, -reduceNegSucc] <;> exact rfl)
 ·intro hp
  rw [hp]
  refine ze (k.eval (by simp (disch := first | exact dis | fail) only [go_sem, seval, -reduceOfNat, -reduceNegSucc]; exact rfl) ?_)
  simp only [za]
  refine k.eval (by simp (disch := first | exact dis | fail) only [go_sem, seval, -reduceOfNat, -reduceNegSucc]; exact rfl) ?_
  try simp only [za, zg, Cut, if_true]
  apply zd (Or.inr rfl)
  iterate 3 (simp (disch := first | exact dis | fail) only [go_sem, seval, -reduceOfNat, -reduceNegSucc]; exact rfl)
  ·simp (disch := first | exact dis | fail) only [go_sem, seval, -reduceOfNat, -reduceNegSucc]; rfl
  ·simp (disch := first | exact dis | fail) only [go_sem, seval, -reduceOfNat, -reduceNegSucc]
set_option maxRecDepth 100000
theorem kl (c : Nat) (r : List Nat) (k : IntKind) : vSls (.str (c :: r)) (some (.int k (.ofNat 1))) none = some (.str r) := by
 simp only [vSls, bnd, zX, List.length_cons, zE.2 (show 1 ≤ r.length + 1 by omega), cond_true, qw, vA, List.drop_succ_cons, List.drop_zero]
 rw [List.take_of_length_le (by show r.length ≤ r.length + 1 - 1; omega)]
theorem vB (c : Nat) (r : List Nat) (k : IntKind) : vSls (.str (c :: r)) none (some (.int k (.ofNat 1))) = some (.str [c]) := by
 simp only [vSls, bnd, zX, List.length_cons, zE.2 (show 1 ≤ r.length + 1 by omega), cond_true, qw, vA, List.drop_zero]
 rfl
theorem vQ (c : Nat) (r : List Nat) : getS (c :: r) 0 = some c := rfl
noncomputable def gQ : List AV → St → Option (AV × St) := orc0 encS PreB (fun s => .bool (numS s))
theorem ZT {O : Orc} {f : Nat} (h : O f = some gQ) {l : List Nat} (hb : Byt l) (h2 : l.length < 1000000) (s : St) : (evW env O).call f [.str l] s = some (.bool (numS l), s) := by
 rw [zq h, gQ, zT uo s l ⟨hb, h2⟩ rfl]
theorem Uw {P : Program} {w0 : World} (B : Bx P w0) {O : Orc} (hO : OrcOk P w0 O) (o79 : O 79 = none) (o98 : O 98 = none) (o115 : O 115 = none) (o80 : O 80 = none) (o99 : O 99 = none) (h116 : O 116 = some gIx) (s : List Nat) (hb : Byt s) (hlen : s.length < 1000000) :
  SC P w0 50 (encS s) (H [] 0 true) (.bool (numS s)) (H [] 0 true) := by
 refine Is.sc hO B.mixed B.glob B.env 0 (show env.funs.get 50 = some f50 from rfl) (Nat.le_of_ble_eq_true rfl) z8 fun C k => ?_
 have c79 := @z5 env O _ _ o79 (show env.funs.get 79 = some f79 from rfl) rfl
 have c98 := @z5 env O _ _ o98 (show env.funs.get 98 = some f98 from rfl) rfl
 have c115 := @z5 env O _ _ o115 (show env.funs.get 115 = some f115 from rfl) rfl
 have c80 := @z5 env O _ _ o80 (show env.funs.get 80 = some f80 from rfl) rfl
 have c99 := @z5 env O _ _ o99 (show env.funs.get 99 = some f99 from rfl) rfl
 unfold f50
 simp only [Ko, Kg, Ki]
 match s, hb, hlen with
 | [], hb, hlen =>
  refine k.eval (by simp (disch := first | exact dis | fail) only [go_sem, seval, -reduceOfNat, -reduceNegSucc, encS, c79, f79, c98, f98, c115, f115]; exact rfl) ?_
  try simp only [za, zg, Cut, if_true]
  apply zd (Or.inr rfl)
  iterate 5 (simp (disch := first | exact dis | fail) only [go_sem, seval, -reduceOfNat, -reduceNegSucc, numS, x4] <;> exact rfl)
 | c :: r, hb, hlen =>
  have hlr : r.length < 1000000 := by simp only [List.length_cons] at hlen; omega
  by_cases h45 : c = 45
  ·subst h45
   match r, hb, hlen, hlr with
   | [], hb, hlen, hlr =>
    refine k.eval (by simp (disch := first | exact dis | fail) only [go_sem, seval, -reduceOfNat, -reduceNegSucc, encS, c79, f79, c98, f98, c115, f115, kl, vB]; exact rfl) ?_
    try simp only [za, zg, Cut, if_true]
    apply zd (Or.inr rfl)
    iterate 5 (simp (disch := first | exact dis | fail) only [go_sem, seval, -reduceOfNat, -reduceNegSucc, numS, x4] <;> exact rfl)
   | c2 :: r2, hb, hlen, hlr =>
    have hb2 : Byt (c2 :: r2) := hb.cons.2
    have hc2 : c2 < 256 := hb2 c2 (by simp)
    have hix := fun s => Q5 h116 hb2 hlr s
    have hal := Yt 0 (c2 :: r2)
    have hm : numS (45 :: c2 :: r2) = (decide (c2 ≠ 48) && (c2 :: r2).all xR) := by
     simp only [numS, x4, if_true, eqS]
     simp
    rw [hm]
    by_cases h48 : c2 = 48
    ·subst h48
     refine k.eval (by simp (disch := first | exact dis | fail) only [go_sem, seval, -reduceOfNat, -reduceNegSucc, encS, c79, f79, c98, f98, c115, f115, kl, vB, vQ, reduceCtorEq]; exact rfl) ?_
     try simp only [za, zg, Cut, if_true]
     apply zd (Or.inr rfl)
     iterate 5 (simp (disch := first | exact dis | fail) only [go_sem, seval, -reduceOfNat, -reduceNegSucc] <;> exact rfl)
    ·rw [decide_eq_true h48, Bool.true_and]
     refine k.eval (by simp (disch := first | exact dis | fail) only [go_sem, seval, -reduceOfNat, -reduceNegSucc, encS, c79, f79, c98, f98, c115, f115, kl, vB, vQ, reduceCtorEq, h48, c80, f80, c99, f99, hix, hal]; exact rfl) ?_
     try simp only [za, zg, Cut, if_true]
     apply zd (Or.inr rfl)
     iterate 5 (simp (disch := first | exact dis | fail) only [go_sem, seval, -reduceOfNat, -reduceNegSucc] <;> exact rfl)
  ·have hc : c < 256 := hb c (by simp)
   have hix := fun s => Q5 h116 hb hlen s
   have hal := Yt 0 (c :: r)
   have hm : numS (c :: r) = ((decide (c ≠ 48) || eqS (c :: r) [48]) && (c :: r).all xR) := by
    simp only [numS, x4, h45, if_false]
   rw [hm]
   by_cases h48 : c = 48
   ·subst h48
    cases r with
    | nil =>
     refine k.eval (by simp (disch := first | exact dis | fail) only [go_sem, seval, -reduceOfNat, -reduceNegSucc, encS, c79, f79, c98, f98, c115, f115, vB, vQ, reduceCtorEq, c80, f80, c99, f99, hix, hal]; exact rfl) ?_
     try simp only [za, zg, Cut, if_true]
     apply zd (Or.inr rfl)
     iterate 5 (simp (disch := first | exact dis | fail) only [go_sem, seval, -reduceOfNat, -reduceNegSucc, eqS] <;> exact rfl)
    | cons c3 r3 =>
     refine k.eval (by simp (disch := first | exact dis | fail) only [go_sem, seval, -reduceOfNat, -reduceNegSucc, encS, c79, f79, c98, f98, c115, f115, vB, vQ, reduceCtorEq]; exact rfl) ?_
     try simp only [za, zg, Cut, if_true]
     apply zd (Or.inr rfl)
     iterate 5 (simp (disch := first | exact dis | fail) only [go_sem, seval, -reduceOfNat, -reduceNegSucc, eqS] <;> exact rfl)
   ·rw [decide_eq_true h48, Bool.true_or, Bool.true_and]
    refine k.eval (by simp (disch := first | exact dis | fail) only [go_sem, seval, -reduceOfNat, -reduceNegSucc, encS, c79, f79, c98, f98, c115, f115, vB, vQ, reduceCtorEq, h45, h48, c80, f80, c99, f99, hix, hal]; exact rfl) ?_
    try simp only [za, zg, Cut, if_true]
    apply zd (Or.inr rfl)
    iterate 5 (simp (disch := first | exact dis | fail) only [go_sem, seval, -reduceOfNat, -reduceNegSucc] <;> exact rfl)
theorem Yf {s : List Nat} {i y : Nat} (hd : s.drop i = y :: s.drop (i + 1)) : (s.drop i).all xR = (xR y && (s.drop (i + 1)).all xR) := by rw [hd]; rfl
theorem V3 {P : Program} {w0 : World} (B : Bx P w0) {O : Orc} (hO : OrcOk P w0 O) (s : List Nat) (hb : Byt s) (hlen : s.length < 1000000) :
  SC P w0 29 (encS s) (H [] 0 true) (.bool (numS s)) (H [] 0 true) := by
 refine Is.sc hO B.mixed B.glob B.env 0 (show env.funs.get 29 = some f29 from rfl) (Nat.le_of_ble_eq_true rfl) z8 fun C k => ?_
 unfold f29
 simp only [Ko, Kg, Ki]
 refine ze (k.eval (by simp (disch := first | exact dis | fail) only [go_sem, seval, -reduceOfNat, -reduceNegSucc, encS]; exact rfl) ?_)
 simp only [za]
 by_cases h0 : s = [48]
 ·subst h0
  refine k.eval (by simp (disch := first | exact dis | fail) only [go_sem, seval, -reduceOfNat, -reduceNegSucc]; exact rfl) ?_
  try simp only [za, zg, Cut, if_true]
  apply zd (Or.inr rfl)
  iterate 5 (simp (disch := first | exact dis | fail) only [go_sem, seval, -reduceOfNat, -reduceNegSucc, numS, x4, eqS] <;> exact rfl)
 refine ze (k.eval (by simp (disch := first | exact dis | fail) only [go_sem, seval, -reduceOfNat, -reduceNegSucc, h0]; exact rfl) ?_)
 simp only [za]
 refine wH ⟨tmL [(0, .str (x4 s))], []⟩ (H [] 0 true) ?_ ?_
 ·match s, hb with
  | [], hb =>
   refine k.eval (by simp (disch := first | exact dis | fail) only [go_sem, seval, -reduceOfNat, -reduceNegSucc]; exact rfl) ?_
   try simp only [Cut]
   simp only [x4]
   refine k.gcs (keep := []) (live := [0]) (md := true) ?_
   simp (disch := first | exact dis | fail) only [go_sem, seval, -reduceOfNat, -reduceNegSucc]
  | c :: r, hb =>
   have hc : c < 256 := hb c (by simp)
   by_cases h45 : c = 45
   ·subst h45
    refine k.eval (by simp (disch := first | exact dis | fail) only [go_sem, seval, -reduceOfNat, -reduceNegSucc, reduceCtorEq, vQ, kl]; exact rfl) ?_
    try simp only [Cut]
    simp only [x4, if_true]
    refine k.gcs (keep := []) (live := [0]) (md := true) ?_
    simp (disch := first | exact dis | fail) only [go_sem, seval, -reduceOfNat, -reduceNegSucc]
   ·
    refine k.eval (by simp (disch := first | exact dis | fail) only [go_sem, seval, -reduceOfNat, -reduceNegSucc, reduceCtorEq, vQ, h45]; exact rfl) ?_
    try simp only [Cut]
    simp only [x4, h45, if_false]
    refine k.gcs (keep := []) (live := [0]) (md := true) ?_
    simp (disch := first | exact dis | fail) only [go_sem, seval, -reduceOfNat, -reduceNegSucc]
 have hn : numS s = match x4 s with
   | [] => false
   | c :: r => decide (c ≠ 48) && (c :: r).all xR := by
  unfold numS
  cases x4 s with
  | nil => rfl
  | cons c r =>
   have : eqS s [48] = false := by
    cases h : eqS s [48] with
    | false => rfl
    | true => exact absurd (gX h) h0
   simp only [this, Bool.or_false]
 rw [hn]
 have hmb : Byt (x4 s) ∧ (x4 s).length < 1000000 := by
  match s, hb, hlen with
  | [], hb, hlen => exact ⟨hb, hlen⟩
  | c :: r, hb, hlen =>
   simp only [x4]
   split
   ·exact ⟨hb.cons.2, by simp only [List.length_cons] at hlen; omega⟩
   ·exact ⟨hb, hlen⟩
 revert hmb
 generalize x4 s = m
 intro hmb
 obtain ⟨hmb, hml⟩ := hmb
 match m, hmb, hml with
 | [], hmb, hml =>
  refine k.eval (by simp (disch := first | exact dis | fail) only [go_sem, seval, -reduceOfNat, -reduceNegSucc]; exact rfl) ?_
  try simp only [za]
  apply zd (Or.inr rfl)
  iterate 5 (simp (disch := first | exact dis | fail) only [go_sem, seval, -reduceOfNat, -reduceNegSucc] <;> exact rfl)
 | c :: r, hmb, hml =>
 simp only
 have hc : c < 256 := hmb c (by simp)
 by_cases h48 : c = 48
 ·subst h48
  refine k.eval (by simp (disch := first | exact dis | fail) only [go_sem, seval, -reduceOfNat, -reduceNegSucc, reduceCtorEq, vQ]; exact rfl) ?_
  try simp only [za, zg, Cut, if_true]
  apply zd (Or.inr rfl)
  iterate 5 (simp (disch := first | exact dis | fail) only [go_sem, seval, -reduceOfNat, -reduceNegSucc] <;> exact rfl)
 rw [decide_eq_true h48, Bool.true_and]
 refine ze (k.eval (by simp (disch := first | exact dis | fail) only [go_sem, seval, -reduceOfNat, -reduceNegSucc, reduceCtorEq, vQ, h48]; exact rfl) ?_)
 simp only [za]
 obtain ⟨m, hm⟩ : ∃ m, m = c :: r := ⟨_, rfl⟩
 rw [← hm] at hml hmb ⊢
 refine wG (p := m.all xR = true) ⟨tmL [], []⟩ (H [] 0 true) ?_ ?_
 ·
  refine ze (k.eval (by simp (disch := first | exact dis | fail) only [go_sem, seval, -reduceOfNat, -reduceNegSucc]; exact rfl) ?_)
  simp only [za]
  refine zw (zI (k.gcL [] [3, 0] true (fr1 := ⟨tmL [(3, .int .i64 (.ofNat 0)), (0, .str m)], []⟩) (s1 := H [] 0 true) (by simp (disch := first | exact dis | fail) only [go_sem, seval, -reduceOfNat, -reduceNegSucc]) ?_))
  refine zV (fun i : Nat => m.length - i) (fun i => ⟨tmL [(3, .int .i64 (.ofNat i)), (0, .str m)], []⟩) (fun _ => H [] 0 true) (fun i => i ≤ m.length ∧ (m.drop i).all xR = m.all xR) (fun i hi => ?_) 0 ⟨Nat.zero_le _, rfl⟩
  obtain ⟨g1, g2⟩ := hi
  rcases zS m i with ⟨hi, hd⟩ | ⟨y, hi, hd⟩
  ·have hlt : ¬ i < m.length := by omega
   rw [hd] at g2
   refine k.eval (by simp (disch := first | exact dis | fail) only [go_sem, seval, -reduceOfNat, -reduceNegSucc, hlt]; exact rfl) ?_
   try simp only [za, zg]
   simp only [CutP]
   refine ⟨g2.symm, ?_⟩
   refine k.gcs (keep := []) (live := []) (md := true) ?_
   simp (disch := first | exact dis | fail) only [go_sem, seval, -reduceOfNat, -reduceNegSucc]
  ·have hy : y < 256 := hmb y (List.mem_of_mem_drop (by rw [hd]; exact List.mem_cons_self))
   have hg : getS m i = some y := by rw [jU]; have := congrArg List.head? hd; rw [List.head?_drop] at this; exact this
   rw [Yf hd] at g2
   by_cases h2 : y < 48
   ·rw [show xR y = false from by simp [xR]; omega, Bool.false_and] at g2
    rw [← g2]
    refine k.eval (by simp (disch := first | exact dis | fail) only [go_sem, seval, -reduceOfNat, -reduceNegSucc, hi, hg, h2]; exact rfl) ?_
    try simp only [za, zg]
    simp only [CutP]
    apply zd (Or.inr rfl)
    iterate 5 (simp (disch := first | exact dis | fail) only [go_sem, seval, -reduceOfNat, -reduceNegSucc] <;> exact rfl)
   ·by_cases h3 : 57 < y
    ·rw [show xR y = false from by simp [xR]; omega, Bool.false_and] at g2
     rw [← g2]
     refine k.eval (by simp (disch := first | exact dis | fail) only [go_sem, seval, -reduceOfNat, -reduceNegSucc, hi, hg, h2, h3]; exact rfl) ?_
     try simp only [za, zg]
     simp only [CutP]
     apply zd (Or.inr rfl)
     iterate 5 (simp (disch := first | exact dis | fail) only [go_sem, seval, -reduceOfNat, -reduceNegSucc] <;> exact rfl)
    ·rw [show xR y = true from by simp [xR]; omega, Bool.true_and] at g2
     refine k.eval (by simp (disch := first | exact dis | fail) only [go_sem, seval, -reduceOfNat, -reduceNegSucc, hi, hg, h2, h3]; exact rfl) ?_
     try simp only [za]
     refine ⟨i + 1, ⟨by omega, g2⟩, by omega, ?_⟩
     refine k.gcs (keep := []) (live := [3, 0]) (md := true) ?_
     simp (disch := first | exact dis | fail) only [go_sem, seval, -reduceOfNat, -reduceNegSucc]
 ·intro hp
  rw [hp]
  refine ze (k.eval (by simp (disch := first | exact dis | fail) only [go_sem, seval, -reduceOfNat, -reduceNegSucc]; exact rfl) ?_)
  simp only [za]
  refine k.eval (by simp (disch := first | exact dis | fail) only [go_sem, seval, -reduceOfNat, -reduceNegSucc]; exact rfl) ?_
  try simp only [za, zg, Cut, if_true]
  apply zd (Or.inr rfl)
  iterate 5 (simp (disch := first | exact dis | fail) only [go_sem, seval, -reduceOfNat, -reduceNegSucc] <;> exact rfl)
set_option maxRecDepth 100000
def okC (t : List Nat) : Bool := (yW t).isSome
def jE (k n : Int) (t : List Nat) : Bool :=
 if k = .ofNat 0 ∨ k = .ofNat 8 ∨ k = .ofNat 9 ∨ k = .ofNat 10 then true
 else if k = .ofNat 1 then eqD n (.ofNat 0) || eqD n (.ofNat 1)
 else if k = .ofNat 2 then numS t
 else if k = .ofNat 3 then isCh n
 else if k = .ofNat 4 then okC t
 else if k = .ofNat 5 then okC t && !decide (t = [])
 else false
def u9 (d : DT) : Bool := jE (yV d) (numD d) (yr d)
def mayN : Nat → DT → Bool
 | 0, _ => false
 | k + 1, d => match zC d with
  | some p => mayN k p.1 && mayN k p.2
  | none => if yV d = .ofNat 7 then (yg d).all (mayN k) else decide ((yg d).length = 0) && u9 d
def mayD (d : DT) : Bool := mayN (zu d) d
theorem jy {α : Type} {f g : α → Bool} : ∀ {l : List α}, (∀ x ∈ l, f x = g x) → l.all f = l.all g
 | [], _ => rfl
 | x :: r, h => by simp only [List.all_cons, h x (by simp), jy (l := r) fun y hy => h y (by simp [hy])]
theorem q8 : ∀ {k m : Nat} {d : DT}, zu d ≤ k → zu d ≤ m → mayN k d = mayN m d
 | 0, _, a, h, _ => by have := yc a; omega
 | _ + 1, 0, a, _, h => by have := yc a; omega
 | k + 1, m + 1, d, h, h' => by
  have hk := yZ d
  have e : (yg d).all (mayN k) = (yg d).all (mayN m) := jy fun x hx => by
   have := z6 hx
   exact q8 (by omega) (by omega)
  simp only [mayN, e]
  cases hka : zC d with
  | none => rfl
  | some p =>
   have := yT (x := p.1) (y := p.2) hka
   simp only
   rw [q8 (k := k) (m := m) (d := p.1) (by omega) (by omega), q8 (k := k) (m := m) (d := p.2) (by omega) (by omega)]
theorem Ze {d x y : DT} (h : zC d = some (x, y)) : mayD d = (mayD x && mayD y) := by
 have := yT h
 unfold mayD
 rw [q8 (m := zu d + 1) (Nat.le_refl _) (by omega), mayN, h]
 simp only
 rw [q8 (k := zu d) (m := zu x) (by omega) (Nat.le_refl _), q8 (k := zu d) (m := zu y) (by omega) (Nat.le_refl _)]
theorem ga {d : DT} (h : zC d = none) : mayD d = if yV d = .ofNat 7 then (yg d).all mayD else decide ((yg d).length = 0) && u9 d := by
 have hk := yZ d
 have e : (yg d).all (mayN (zu d)) = (yg d).all mayD := jy fun x hx => by
  have := z6 hx
  exact q8 (by omega) (Nat.le_refl _)
 unfold mayD at e ⊢
 rw [q8 (m := zu d + 1) (Nat.le_refl _) (by omega), mayN, h, e]
mutual
def TxD : DT → Prop
 | .mk _ _ t ks _ => Byt t ∧ t.length < 301 ∧ TxL ks
def TxL : List DT → Prop
 | [] => True
 | d :: r => TxD d ∧ TxL r
end
theorem TxL.mem : ∀ {l : List DT} {d : DT}, TxL l → d ∈ l → TxD d
 | [], _, _, h => by cases h
 | x :: r, d, ht, h => by
  simp only [TxL] at ht
  rcases List.mem_cons.1 h with rfl | h
  ·exact ht.1
  ·exact TxL.mem ht.2 h
theorem TxD.kids {d x y : DT} (ht : TxD d) (h : zC d = some (x, y)) : TxD x ∧ TxD y := by
 obtain ⟨kd, n, t, ks, p⟩ := d
 obtain ⟨rfl, rfl⟩ := yi h
 simp only [TxD, TxL] at ht
 exact ⟨ht.2.2.1, ht.2.2.2.1⟩
noncomputable def QY : List AV → St → Option (AV × St) := orc0 z3 TxD (fun d => .bool (u9 d))
theorem Jn {O : Orc} (h : O 26 = some QY) {d : DT} (ht : TxD d) (s : St) : (evW env O).call 26 [.agg (zF d)] s = some (.bool (u9 d), s) := by
 rw [zq h, QY, zT jj s d ht (kM d)]
theorem P3 {P : Program} {w0 : World} (B : Bx P w0) {O : Orc} (hO : OrcOk P w0 O) (h50 : O 50 = some gQ) (h51 : O 51 = some gIs) (h52 : O 52 = some ud) (d : DT) (ht : TxD d) :
  SC P w0 26 (z3 d) (H [] 0 true) (.bool (u9 d)) (H [] 0 true) := by
 refine Is.sc hO B.mixed B.glob B.env 0 (show env.funs.get 26 = some f26 from rfl) (Nat.le_of_ble_eq_true rfl) z8 fun C k => ?_
 obtain ⟨kd, n, t, ks, p⟩ := d
 simp only [TxD] at ht
 have hnum := ZT (f := 50) h50 ht.1 (by omega)
 have his := lf h51 n
 have hco := jk (f := 52) h52 ht.1 (by omega)
 unfold f26
 rw [show u9 (.mk kd n t ks p) = jE kd n t from rfl]
 unfold jE
 simp only
 by_cases k0 : kd = .ofNat 0
 ·subst k0
  refine k.eval (by simp (disch := first | exact dis | fail) only [go_sem, seval, -reduceOfNat, -reduceNegSucc, z3, encD, zb]; exact rfl) ?_
  try simp only [za]
  apply zd (Or.inr rfl)
  iterate 5 (simp (disch := first | exact dis | fail) only [go_sem, seval, -reduceOfNat, -reduceNegSucc, true_or] <;> exact rfl)
 by_cases k8 : kd = .ofNat 8
 ·subst k8
  refine k.eval (by simp (disch := first | exact dis | fail) only [go_sem, seval, -reduceOfNat, -reduceNegSucc, z3, encD, zb]; exact rfl) ?_
  try simp only [za]
  apply zd (Or.inr rfl)
  iterate 5 (simp (disch := first | exact dis | fail) only [go_sem, seval, -reduceOfNat, -reduceNegSucc, true_or, or_true] <;> exact rfl)
 by_cases k9 : kd = .ofNat 9
 ·subst k9
  refine k.eval (by simp (disch := first | exact dis | fail) only [go_sem, seval, -reduceOfNat, -reduceNegSucc, z3, encD, zb]; exact rfl) ?_
  try simp only [za]
  apply zd (Or.inr rfl)
  iterate 5 (simp (disch := first | exact dis | fail) only [go_sem, seval, -reduceOfNat, -reduceNegSucc, true_or, or_true] <;> exact rfl)
 by_cases k10 : kd = .ofNat 10
 ·subst k10
  refine k.eval (by simp (disch := first | exact dis | fail) only [go_sem, seval, -reduceOfNat, -reduceNegSucc, z3, encD, zb]; exact rfl) ?_
  try simp only [za]
  apply zd (Or.inr rfl)
  iterate 5 (simp (disch := first | exact dis | fail) only [go_sem, seval, -reduceOfNat, -reduceNegSucc, or_true] <;> exact rfl)
 rw [if_neg (by simp only [k0, k8, k9, k10, or_self, not_false_eq_true])]
 have e0 := ym k0
 have e8 := ym k8
 have e9 := ym k9
 have e10 := ym k10
 by_cases k1 : kd = .ofNat 1
 ·subst k1
  rw [if_pos rfl]
  cases h0 : eqD n (.ofNat 0) with
  | true =>
   refine k.eval (by simp (disch := first | exact dis | fail) only [go_sem, seval, -reduceOfNat, -reduceNegSucc, z3, encD, zb, h0]; exact rfl) ?_
   try simp only [za, zg, Cut, if_true]
   apply zd (Or.inr rfl)
   iterate 5 (simp (disch := first | exact dis | fail) only [go_sem, seval, -reduceOfNat, -reduceNegSucc] <;> exact rfl)
  | false =>
   refine k.eval (by simp (disch := first | exact dis | fail) only [go_sem, seval, -reduceOfNat, -reduceNegSucc, z3, encD, zb, h0]; exact rfl) ?_
   try simp only [za, zg, Cut, if_true]
   apply zd (Or.inr rfl)
   iterate 5 (simp (disch := first | exact dis | fail) only [go_sem, seval, -reduceOfNat, -reduceNegSucc] <;> exact rfl)
 rw [if_neg k1]
 have e1 := ym k1
 by_cases k2 : kd = .ofNat 2
 ·subst k2
  rw [if_pos rfl]
  refine k.eval (by simp (disch := first | exact dis | fail) only [go_sem, seval, -reduceOfNat, -reduceNegSucc, z3, encD, zb, hnum]; exact rfl) ?_
  try simp only [za, zg, Cut, if_true]
  apply zd (Or.inr rfl)
  iterate 5 (simp (disch := first | exact dis | fail) only [go_sem, seval, -reduceOfNat, -reduceNegSucc] <;> exact rfl)
 rw [if_neg k2]
 have e2 := ym k2
 by_cases k3 : kd = .ofNat 3
 ·subst k3
  rw [if_pos rfl]
  refine k.eval (by simp (disch := first | exact dis | fail) only [go_sem, seval, -reduceOfNat, -reduceNegSucc, z3, encD, zb, his]; exact rfl) ?_
  try simp only [za, zg, Cut, if_true]
  apply zd (Or.inr rfl)
  iterate 5 (simp (disch := first | exact dis | fail) only [go_sem, seval, -reduceOfNat, -reduceNegSucc] <;> exact rfl)
 rw [if_neg k3]
 have e3 := ym k3
 by_cases k4 : kd = .ofNat 4
 ·subst k4
  rw [if_pos rfl]
  simp only [wo] at hco
  simp only [okC]
  cases hc : yW t with
  | none =>
   rw [hc] at hco
   refine k.eval (by simp (disch := first | exact dis | fail) only [go_sem, seval, -reduceOfNat, -reduceNegSucc, z3, encD, zb, hco]; exact rfl) ?_
   try simp only [za, zg, Cut, if_true]
   apply zd (Or.inr rfl)
   iterate 5 (simp (disch := first | exact dis | fail) only [go_sem, seval, -reduceOfNat, -reduceNegSucc, Option.isSome_none] <;> exact rfl)
  | some l =>
   rw [hc] at hco
   refine k.eval (by simp (disch := first | exact dis | fail) only [go_sem, seval, -reduceOfNat, -reduceNegSucc, z3, encD, zb, hco]; exact rfl) ?_
   try simp only [za, zg, Cut, if_true]
   apply zd (Or.inr rfl)
   iterate 5 (simp (disch := first | exact dis | fail) only [go_sem, seval, -reduceOfNat, -reduceNegSucc, Option.isSome_some] <;> exact rfl)
 rw [if_neg k4]
 have e4 := ym k4
 by_cases k5 : kd = .ofNat 5
 ·subst k5
  rw [if_pos rfl]
  simp only [wo] at hco
  simp only [okC]
  cases hc : yW t with
  | none =>
   rw [hc] at hco
   refine k.eval (by simp (disch := first | exact dis | fail) only [go_sem, seval, -reduceOfNat, -reduceNegSucc, z3, encD, zb, hco]; exact rfl) ?_
   try simp only [za, zg, Cut, if_true]
   apply zd (Or.inr rfl)
   iterate 5 (simp (disch := first | exact dis | fail) only [go_sem, seval, -reduceOfNat, -reduceNegSucc, Option.isSome_none] <;> exact rfl)
  | some l =>
   rw [hc] at hco
   refine k.eval (by simp (disch := first | exact dis | fail) only [go_sem, seval, -reduceOfNat, -reduceNegSucc, z3, encD, zb, hco]; exact rfl) ?_
   try simp only [za, zg, Cut, if_true]
   apply zd (Or.inr rfl)
   iterate 5 (simp (disch := first | exact dis | fail) only [go_sem, seval, -reduceOfNat, -reduceNegSucc, Option.isSome_some] <;> exact rfl)
 rw [if_neg k5]
 have e5 := ym k5
 refine k.eval (by simp (disch := first | exact dis | fail) only [go_sem, seval, -reduceOfNat, -reduceNegSucc, z3, encD, zb, e0, e1, e2, e3, e4, e5, e8, e9, e10]; exact rfl) ?_
 try simp only [za, zg, Cut, if_true]
 apply zd (Or.inr rfl)
 iterate 5 (simp (disch := first | exact dis | fail) only [go_sem, seval, -reduceOfNat, -reduceNegSucc] <;> exact rfl)
noncomputable def gMay (N : Nat) : List AV → St → Option (AV × St) := orc0 z3 (fun d => TxD d ∧ zu d < N) (fun d => .bool (mayD d))
theorem wc {O : Orc} {f N : Nat} (h : O f = some (gMay N)) {d : DT} (ht : TxD d) (hn : zu d < N) (s : St) : (evW env O).call f [.agg (zF d)] s = some (.bool (mayD d), s) := by
 rw [zq h, gMay, zT jj s d ⟨ht, hn⟩ (kM d)]
def ixM : Nat → List DT → Int
 | _, [] => -1
 | i, d :: r => if mayD d = true then ixM (i + 1) r else .ofNat i
theorem hW {kd n : Int} {t : List Nat} {ks : List DT} {p : Int} (h : zC (.mk kd n t ks p) = none) : mayD (.mk kd n t ks p) = if kd = .ofNat 7 then ks.all mayD else decide (ks.length = 0) && u9 (.mk kd n t ks p) := ga h
theorem QQ : ∀ (i : Nat) (s : List DT), (!ltD (ixM i s) (.ofNat 0)) = !s.all mayD
 | i, [] => rfl
 | i, c :: r => by
  simp only [ixM, List.all_cons]
  cases hc : mayD c with
  | true => rw [if_pos rfl, QQ (i + 1) r]; rfl
  | false =>
   rw [if_neg (by simp)]
   have : ltD (.ofNat i) (.ofNat 0) = false := by rw [hY]; exact decide_eq_false (by omega)
   rw [this]; rfl
def jJ (x : List DT) : List AV := [.lst x.length false (zl x), .fn 25 [] []]
theorem JK : ∀ x y, jJ x = jJ y → x = y := fun a b h => by
 simp only [jJ, List.cons.injEq, AV.lst.injEq, true_and, and_true] at h
 exact wp h.2
theorem WK (x : List DT) : zo (jJ x) = true := by simp only [jJ, zD, yz, ul, zJ, Bool.and_self]
noncomputable def gIxm (N : Nat) : List AV → St → Option (AV × St) := orc0 jJ (fun l => TxL l ∧ yw l < N) (fun l => .int .i64 (ixM 0 l))
theorem Ka {O : Orc} {N : Nat} (h : O 49 = some (gIxm N)) {l : List DT} (ht : TxL l) (hn : yw l < N) (s : St) : (evW env O).call 49 [.lst l.length false (zl l), .fn 25 [] []] s = some (.int .i64 (ixM 0 l), s) := by
 rw [zq h, gIxm, zT JK s l ⟨ht, hn⟩ (by simp only [jJ, wkL, wkV, xH])]
theorem zyR {P : Program} {w0 : World} (B : Bx P w0) {O : Orc} (hO : OrcOk P w0 O) (o25 : O 25 = none) {N : Nat} (h11 : O 11 = some (gMay N)) (hN : N ≤ 100000) (l : List DT) (ht : TxL l) (hn : yw l < N) :
  SC P w0 49 (jJ l) (H [] 0 true) (.int .i64 (ixM 0 l)) (H [] 0 true) := by
 refine Is.sc hO B.mixed B.glob B.env 0 (show env.funs.get 49 = some f49 from rfl) (Nat.le_of_ble_eq_true rfl) z8 fun C k => ?_
 have c25 := @z5 env O _ _ o25 (show env.funs.get 25 = some f25 from rfl) rfl
 have hll := yL l
 unfold f49
 simp only [Ko, Ki]
 refine ze (k.eval (by simp (disch := first | exact dis | fail) only [go_sem, seval, -reduceOfNat, -reduceNegSucc, jJ]; exact rfl) ?_)
 simp only [za]
 refine wG (p := ixM 0 l = -1) ⟨tmL [], []⟩ (H [] 0 true) ?_ ?_
 ·
  refine ze (k.eval (by simp (disch := first | exact dis | fail) only [go_sem, seval, -reduceOfNat, -reduceNegSucc]; exact rfl) ?_)
  simp only [za]
  refine zw (zI (k.gcL [] [8, 7, 1, 0] true (fr1 := ⟨tmL [(8, .int .i64 (.ofNat 0)), (7, .int .i64 (.ofNat l.length)), (1, .fn 25 [] []), (0, .lst l.length false (zl l))], []⟩) (s1 := H [] 0 true) (by simp (disch := first | exact dis | fail) only [go_sem, seval, -reduceOfNat, -reduceNegSucc]) ?_))
  refine zV (fun i : Nat => l.length - i) (fun i => ⟨tmL [(8, .int .i64 (.ofNat i)), (7, .int .i64 (.ofNat l.length)), (1, .fn 25 [] []), (0, .lst l.length false (zl l))], []⟩) (fun _ => H [] 0 true) (fun i => i ≤ l.length ∧ ixM i (l.drop i) = ixM 0 l) (fun i hi => ?_) 0 ⟨Nat.zero_le _, rfl⟩
  obtain ⟨g1, g2⟩ := hi
  rcases zS l i with ⟨hi, hd⟩ | ⟨x, hi, hd⟩
  ·have hlt : ¬ i < l.length := by omega
   rw [hd] at g2
   refine k.eval (by simp (disch := first | exact dis | fail) only [go_sem, seval, -reduceOfNat, -reduceNegSucc, hlt]; exact rfl) ?_
   try simp only [za, zg]
   simp only [CutP]
   refine ⟨g2.symm, ?_⟩
   refine k.gcs (keep := []) (live := []) (md := true) ?_
   simp (disch := first | exact dis | fail) only [go_sem, seval, -reduceOfNat, -reduceNegSucc]
  ·have hmem : x ∈ l := List.mem_of_mem_drop (by rw [hd]; exact List.mem_cons_self)
   have hnx : zu x < N := by have := z6 hmem; omega
   have hc := wc (f := 11) h11 (ht.mem hmem) hnx
   have hdr : z4 (i * 5) (zl l) = zF x ++ zl (l.drop (i + 1)) := by rw [yu, hd, zM]
   rw [hd] at g2
   simp only [ixM] at g2
   obtain ⟨xk, xn, xt, xks, xp⟩ := x
   simp only [zb] at hc
   cases hsm : mayD (.mk xk xn xt xks xp) with
   | true =>
    rw [hsm] at hc g2
    rw [if_pos rfl] at g2
    refine k.eval (by simp (disch := first | exact dis | fail) only [go_sem, seval, -reduceOfNat, -reduceNegSucc, hi, hdr, zb, c25, f25, hc]; exact rfl) ?_
    try simp only [za]
    refine ⟨i + 1, ⟨by omega, g2⟩, by omega, ?_⟩
    refine k.gcs (keep := []) (live := [8, 7, 1, 0]) (md := true) ?_
    simp (disch := first | exact dis | fail) only [go_sem, seval, -reduceOfNat, -reduceNegSucc]
   | false =>
    rw [hsm] at hc g2
    rw [if_neg (by simp)] at g2
    rw [← g2]
    refine k.eval (by simp (disch := first | exact dis | fail) only [go_sem, seval, -reduceOfNat, -reduceNegSucc, hi, hdr, zb, c25, f25, hc]; exact rfl) ?_
    try simp only [za, zg]
    simp only [CutP]
    apply zd (Or.inr rfl)
    iterate 5 (simp (disch := first | exact dis | fail) only [go_sem, seval, -reduceOfNat, -reduceNegSucc] <;> exact rfl)
 ·intro hp
  rw [hp]
  refine ze (k.eval (by simp (disch := first | exact dis | fail) only [go_sem, seval, -reduceOfNat, -reduceNegSucc]; exact rfl) ?_)
  simp only [za]
  refine k.eval (by simp (disch := first | exact dis | fail) only [go_sem, seval, -reduceOfNat, -reduceNegSucc]; exact rfl) ?_
  try simp only [za, zg, Cut, if_true]
  apply zd (Or.inr rfl)
  iterate 3 (simp (disch := first | exact dis | fail) only [go_sem, seval, -reduceOfNat, -reduceNegSucc]; exact rfl)
  ·simp (disch := first | exact dis | fail) only [go_sem, seval, -reduceOfNat, -reduceNegSucc]; rfl
  ·simp (disch := first | exact dis | fail) only [go_sem, seval, -reduceOfNat, -reduceNegSucc]
theorem zyI {P : Program} {w0 : World} (B : Bx P w0) {O : Orc} (hO : OrcOk P w0 O) (o23 : O 23 = none) (o24 : O 24 = none) (h26 : O 26 = some QY) {N : Nat} (h49 : O 49 = some (gIxm N)) (h11 : O 11 = some (gMay N)) (d0 : DT) (ht : TxD d0) (hN : zu d0 < N + 1) :
  SC P w0 11 (z3 d0) (H [] 0 true) (.bool (mayD d0)) (H [] 0 true) := by
 refine Is.sc hO B.mixed B.glob B.env 0 (show env.funs.get 11 = some f11 from rfl) (Nat.le_of_ble_eq_true rfl) z8 fun C k => ?_
 have cpair := @z5 env O _ _ o23 (show env.funs.get 23 = some f23 from rfl) rfl
 have c24 := @z5 env O _ _ o24 (show env.funs.get 24 = some f24 from rfl) rfl
 generalize hres : mayD d0 = res
 unfold f11
 simp only [Ko, Kg, Kn, Ki]
 refine ze (k.eval (by simp (disch := first | exact dis | fail) only [go_sem, seval, -reduceOfNat, -reduceNegSucc, z3, encD]; exact rfl) ?_)
 simp only [za]
 refine j8 (fun d : DT => mayD d = res ∧ zC d = none ∧ TxD d ∧ zu d < N + 1) (fun _ => ⟨tmL [(1, .ptr 0 0)], []⟩) (fun d => H [some (drow d)] 0 true) (zw (zI (k.gcL [0] [1] true (fr1 := ⟨tmL [(1, .ptr 0 0)], []⟩) (s1 := H [some (drow d0)] 0 true) (by simp (disch := first | exact dis | fail) only [go_sem, seval, -reduceOfNat, -reduceNegSucc, drow, y9]) ?_))) ?_
 ·refine zV (fun d : DT => zu d) (fun _ => ⟨tmL [(1, .ptr 0 0)], []⟩) (fun d => H [some (drow d)] 0 true) (fun d => mayD d = res ∧ TxD d ∧ zu d < N + 1) (fun d hx => ?_) d0 ⟨hres, ht, hN⟩
  obtain ⟨kd, n, t, ks, p⟩ := d
  obtain ⟨g1, g2, g3⟩ := hx
  cases hka : zC (.mk kd n t ks p) with
  | none =>
   rcases kh hka with he | ⟨rfl, hl⟩
   ·
    refine k.eval (by simp (disch := first | exact dis | fail) only [go_sem, seval, -reduceOfNat, -reduceNegSucc, drow, zb, cpair, f23, he]; exact rfl) ?_
    try simp only [za, zg]
    simp only [Gcx]
    refine ⟨.mk kd n t ks p, ⟨g1, hka, g2, g3⟩, ?_⟩
    refine k.gcs (keep := [0]) (live := [1]) (md := true) ?_
    simp (disch := first | exact dis | fail) only [go_sem, seval, -reduceOfNat, -reduceNegSucc, drow, zb]
   ·
    refine k.eval (by simp (disch := first | exact dis | fail) only [go_sem, seval, -reduceOfNat, -reduceNegSucc, drow, zb, cpair, f23, hl]; exact rfl) ?_
    try simp only [za, zg]
    simp only [Gcx]
    refine ⟨.mk (.ofNat 6) n t ks p, ⟨g1, hka, g2, g3⟩, ?_⟩
    refine k.gcs (keep := [0]) (live := [1]) (md := true) ?_
    simp (disch := first | exact dis | fail) only [go_sem, seval, -reduceOfNat, -reduceNegSucc, drow, zb]
  | some xy =>
   obtain ⟨⟨xk, xn, xt, xks, xp⟩, ⟨yk, yn, yt, yks, yp⟩⟩ := xy
   have hna := yT hka
   have hpt := g2.kids hka
   rw [Ze hka] at g1
   obtain ⟨rfl, rfl⟩ := yi hka
   have hc := wc (f := 11) h11 hpt.1 (by have := yc (.mk yk yn yt yks yp); omega)
   simp only [zb] at hc
   cases hsm : mayD (.mk xk xn xt xks xp) with
   | true =>
    rw [hsm] at hc g1
    refine k.eval (by simp (disch := first | exact dis | fail) only [go_sem, seval, -reduceOfNat, -reduceNegSucc, drow, zb, yN, cpair, f23, hc]; exact rfl) ?_
    try simp only [za]
    refine ⟨.mk yk yn yt yks yp, ⟨by rw [← g1, Bool.true_and], hpt.2, by omega⟩, by omega, ?_⟩
    refine k.gcs (keep := [0]) (live := [1]) (md := true) ?_
    simp (disch := first | exact dis | fail) only [go_sem, seval, -reduceOfNat, -reduceNegSucc, drow, zb]
   | false =>
    rw [hsm] at hc g1
    refine k.eval (by simp (disch := first | exact dis | fail) only [go_sem, seval, -reduceOfNat, -reduceNegSucc, drow, zb, yN, cpair, f23, hc]; exact rfl) ?_
    try simp only [za, zg]
    simp only [Gcx]
    rw [← g1]
    apply zd (Or.inr rfl)
    iterate 5 (simp (disch := first | exact dis | fail) only [go_sem, seval, -reduceOfNat, -reduceNegSucc] <;> exact rfl)
 ·rintro ⟨kd, n, t, ks, p⟩ ⟨g1, g2, g3, g4⟩
  rw [hW g2] at g1
  have hb := Jn h26 g3
  simp only [zb] at hb
  simp only [TxD] at g3
  have hn := yZ (.mk kd n t ks p)
  simp only [yg] at hn
  by_cases k7 : kd = .ofNat 7
  ·subst k7
   rw [if_pos rfl] at g1
   have hix := Ka h49 g3.2.2 (by omega)
   have hal := QQ 0 ks
   refine k.eval (by simp (disch := first | exact dis | fail) only [go_sem, seval, -reduceOfNat, -reduceNegSucc, drow, zb, c24, f24, hix, hal, g1]; exact rfl) ?_
   try simp only [za, zg, Cut, if_true]
   apply zd (Or.inr rfl)
   iterate 5 (simp (disch := first | exact dis | fail) only [go_sem, seval, -reduceOfNat, -reduceNegSucc] <;> exact rfl)
  ·rw [if_neg k7] at g1
   have e7 := ym k7
   by_cases hl : ks.length = 0
   ·rw [decide_eq_true hl, Bool.true_and] at g1
    rw [g1] at hb
    rw [hl] at hb
    refine k.eval (by simp (disch := first | exact dis | fail) only [go_sem, seval, -reduceOfNat, -reduceNegSucc, drow, zb, e7, hl, hb]; exact rfl) ?_
    try simp only [za, zg, Cut, if_true]
    apply zd (Or.inr rfl)
    iterate 5 (simp (disch := first | exact dis | fail) only [go_sem, seval, -reduceOfNat, -reduceNegSucc] <;> exact rfl)
   ·rw [decide_eq_false hl, Bool.false_and] at g1
    subst g1
    refine k.eval (by simp (disch := first | exact dis | fail) only [go_sem, seval, -reduceOfNat, -reduceNegSucc, drow, zb, e7, hl]; exact rfl) ?_
    try simp only [za, zg, Cut, if_true]
    apply zd (Or.inr rfl)
    iterate 5 (simp (disch := first | exact dis | fail) only [go_sem, seval, -reduceOfNat, -reduceNegSucc] <;> exact rfl)
set_option maxRecDepth 100000
def mayE (d : DT) : Bool := if yV d = .ofNat 7 then (yg d).all mayD else decide ((yg d).length = 0) && u9 d
theorem js : ∀ (k : Nat) (d : DT), zu d < k → mayD d = ((zm d).1.all mayD && mayE (zm d).2)
 | 0, d, h => by omega
 | k + 1, d, h => by
  cases hk : zC d with
  | none =>
   rw [yY hk, ga hk]
   rfl
  | some p =>
   obtain ⟨x, y⟩ := p
   have hn := yT hk
   have ih := js k y (by have := yc x; omega)
   rw [yq hk, Ze hk, ih]
   simp only [List.all_cons, Bool.and_assoc]
theorem pO (d : DT) (ht : TxD d) : TxL (zm d).1 ∧ TxD (zm d).2 := by
 have key : ∀ (k : Nat) (d : DT), zu d < k → TxD d → TxL (zm d).1 ∧ TxD (zm d).2 := by
  intro k
  induction k with
  | zero => intro d h; omega
  | succ k ih =>
   intro d h ht
   cases hk : zC d with
   | none => rw [yY hk]; exact ⟨by simp only [TxL], ht⟩
   | some xy =>
    obtain ⟨x, y⟩ := xy
    have h2 := yT hk
    have h3 := ht.kids hk
    have := ih y (by have := yc x; omega) h3.2
    rw [yq hk]
    exact ⟨by simp only [TxL]; exact ⟨h3.1, this.1⟩, this.2⟩
 exact key _ d (Nat.lt_succ_self _) ht
theorem YS {α : Type} {f : α → Bool} {l : List α} {i : Nat} {y : α} (hd : l.drop i = y :: l.drop (i + 1)) : (l.drop i).all f = (f y && (l.drop (i + 1)).all f) := by rw [hd]; rfl
theorem Zu {P : Program} {w0 : World} (B : Bx P w0) {O : Orc} (hO : OrcOk P w0 O) (h27 : O 27 = some gItm) (h28 : O 28 = some ud) (h29 : O 29 = some gQ) (h30 : O 30 = some gIs) {N : Nat} (h12 : O 12 = some (gMay N)) (hN2 : N ≤ 100000) (d0 : DT) (ht0 : TxD d0) (hN : zu d0 < N + 1) :
  SC P w0 12 (z3 d0) (H [] 0 true) (.bool (mayD d0)) (H [] 0 true) := by
 refine Is.sc hO B.mixed B.glob B.env 0 (show env.funs.get 12 = some f12 from rfl) (Nat.le_of_ble_eq_true rfl) z8 fun C k => ?_
 rw [js _ d0 (Nat.lt_succ_self _)]
 have hni := w9 d0
 have hla := yL (zm d0).1
 have htx := pO d0 ht0
 have hca := vy (f := 27) h27 (d := d0) (by omega)
 simp only [itR] at hca
 have hx0 := jB d0
 revert hni hla hca htx hx0
 generalize (zm d0).1 = l
 generalize (zm d0).2 = x
 intro hni hla htx hca hx0
 have hkx := yZ x
 have hlx := yL (yg x)
 obtain ⟨kd, n, t, ks, p⟩ := x
 obtain ⟨ak, an, at_, aks, ap⟩ := d0
 simp only [encD, zb] at hca
 simp only [yg] at hkx hlx
 obtain ⟨htl, htx⟩ := htx
 simp only [TxD] at htx
 have hnum := ZT (f := 29) h29 htx.1 (by omega)
 have his := lf h30 n
 have hco := jk (f := 28) h28 htx.1 (by omega)
 unfold f12
 simp only [Ko, Kg, Kn, Ki]
 refine ze (k.eval (by simp (disch := first | exact dis | fail) only [go_sem, seval, -reduceOfNat, -reduceNegSucc, z3, encD, zb]; exact rfl) ?_)
 simp only [za]
 refine ze (k.eval (by simp (disch := first | exact dis | fail) only [go_sem, seval, -reduceOfNat, -reduceNegSucc, hca]; exact rfl) ?_)
 simp only [za]
 refine wG (p := l.all mayD = true) ⟨tmL [(4, .ptr 0 0)], []⟩ (H [some (drow (.mk kd n t ks p))] 0 true) ?_ ?_
 ·
  refine ze (k.eval (by simp (disch := first | exact dis | fail) only [go_sem, seval, -reduceOfNat, -reduceNegSucc]; exact rfl) ?_)
  simp only [za]
  refine zw (zI (k.gcL [1] [5, 4, 3] true (fr1 := ⟨tmL [(5, .int .i64 (.ofNat 0)), (4, .ptr 0 0), (3, .lst l.length false (zl l))], []⟩) (s1 := H [some (drow (.mk kd n t ks p))] 0 true) (by simp (disch := first | exact dis | fail) only [go_sem, seval, -reduceOfNat, -reduceNegSucc, drow, zb]) ?_))
  refine zV (fun i : Nat => l.length - i) (fun i => ⟨tmL [(5, .int .i64 (.ofNat i)), (4, .ptr 0 0), (3, .lst l.length false (zl l))], []⟩) (fun _ => H [some (drow (.mk kd n t ks p))] 0 true) (fun i => i ≤ l.length ∧ (l.drop i).all mayD = l.all mayD) (fun i hi => ?_) 0 ⟨Nat.zero_le _, rfl⟩
  obtain ⟨g1, g2⟩ := hi
  rcases zS l i with ⟨hi, hd⟩ | ⟨u, hi, hd⟩
  ·have hlt : ¬ i < l.length := by omega
   rw [hd] at g2
   refine k.eval (by simp (disch := first | exact dis | fail) only [go_sem, seval, -reduceOfNat, -reduceNegSucc, hlt]; exact rfl) ?_
   try simp only [za, zg]
   simp only [CutP]
   refine ⟨g2.symm, ?_⟩
   refine k.gcs (keep := [0]) (live := [4]) (md := true) ?_
   simp (disch := first | exact dis | fail) only [go_sem, seval, -reduceOfNat, -reduceNegSucc, drow, zb]
  ·have hmem : u ∈ l := List.mem_of_mem_drop (by rw [hd]; exact List.mem_cons_self)
   have hc := wc (f := 12) h12 (htl.mem hmem) (by have := z6 hmem; have := yc (.mk kd n t ks p); omega)
   have hdr : z4 (i * 5) (zl l) = zF u ++ zl (l.drop (i + 1)) := by rw [yu, hd, zM]
   rw [YS hd] at g2
   obtain ⟨uk, un, ut, uks, up⟩ := u
   simp only [zb] at hc
   cases hsm : mayD (.mk uk un ut uks up) with
   | true =>
    rw [hsm] at hc g2
    refine k.eval (by simp (disch := first | exact dis | fail) only [go_sem, seval, -reduceOfNat, -reduceNegSucc, drow, zb, hi, hdr, hc]; exact rfl) ?_
    try simp only [za]
    refine ⟨i + 1, ⟨by omega, by rw [← g2, Bool.true_and]⟩, by omega, ?_⟩
    refine k.gcs (keep := [0]) (live := [5, 4, 3]) (md := true) ?_
    simp (disch := first | exact dis | fail) only [go_sem, seval, -reduceOfNat, -reduceNegSucc, drow, zb]
   | false =>
    rw [hsm] at hc g2
    refine k.eval (by simp (disch := first | exact dis | fail) only [go_sem, seval, -reduceOfNat, -reduceNegSucc, drow, zb, hi, hdr, hc]; exact rfl) ?_
    try simp only [za, zg]
    simp only [CutP]
    rw [← g2, Bool.false_and, Bool.false_and]
    apply zd (Or.inr rfl)
    iterate 5 (simp (disch := first | exact dis | fail) only [go_sem, seval, -reduceOfNat, -reduceNegSucc] <;> exact rfl)
 intro hp
 rw [hp, Bool.true_and]
 rw [show mayE (.mk kd n t ks p) = (if kd = .ofNat 7 then ks.all mayD else decide (ks.length = 0) && jE kd n t) from rfl]
 by_cases k7 : kd = .ofNat 7
 ·subst k7
  rw [if_pos rfl]
  refine ze (k.eval (by simp (disch := first | exact dis | fail) only [go_sem, seval, -reduceOfNat, -reduceNegSucc, drow, zb]; exact rfl) ?_)
  simp only [za]
  refine wG (p := ks.all mayD = true) ⟨tmL [(4, .ptr 0 0)], []⟩ (H [some (drow (.mk (.ofNat 7) n t ks p))] 0 true) ?_ ?_
  ·
   refine ze (k.eval (by simp (disch := first | exact dis | fail) only [go_sem, seval, -reduceOfNat, -reduceNegSucc]; exact rfl) ?_)
   simp only [za]
   refine zw (zI (k.gcL [0] [6, 4] true (fr1 := ⟨tmL [(6, .int .i64 (.ofNat 0)), (4, .ptr 0 0)], []⟩) (s1 := H [some (drow (.mk (.ofNat 7) n t ks p))] 0 true) (by simp (disch := first | exact dis | fail) only [go_sem, seval, -reduceOfNat, -reduceNegSucc, drow, zb]) ?_))
   refine zV (fun i : Nat => ks.length - i) (fun i => ⟨tmL [(6, .int .i64 (.ofNat i)), (4, .ptr 0 0)], []⟩) (fun _ => H [some (drow (.mk (.ofNat 7) n t ks p))] 0 true) (fun i => i ≤ ks.length ∧ (ks.drop i).all mayD = ks.all mayD) (fun i hi => ?_) 0 ⟨Nat.zero_le _, rfl⟩
   obtain ⟨g1, g2⟩ := hi
   rcases zS ks i with ⟨hi, hd⟩ | ⟨u, hi, hd⟩
   ·have hlt : ¬ i < ks.length := by omega
    rw [hd] at g2
    refine k.eval (by simp (disch := first | exact dis | fail) only [go_sem, seval, -reduceOfNat, -reduceNegSucc, drow, zb, hlt]; exact rfl) ?_
    try simp only [za, zg]
    simp only [CutP]
    refine ⟨g2.symm, ?_⟩
    refine k.gcs (keep := [0]) (live := [4]) (md := true) ?_
    simp (disch := first | exact dis | fail) only [go_sem, seval, -reduceOfNat, -reduceNegSucc, drow, zb]
   ·have hmem : u ∈ ks := List.mem_of_mem_drop (by rw [hd]; exact List.mem_cons_self)
    have hc := wc (f := 12) h12 (htx.2.2.mem hmem) (by have := z6 hmem; omega)
    have hdr : z4 (i * 5) (zl ks) = zF u ++ zl (ks.drop (i + 1)) := by rw [yu, hd, zM]
    rw [YS hd] at g2
    obtain ⟨uk, un, ut, uks, up⟩ := u
    simp only [zb] at hc
    cases hsm : mayD (.mk uk un ut uks up) with
    | true =>
     rw [hsm] at hc g2
     refine k.eval (by simp (disch := first | exact dis | fail) only [go_sem, seval, -reduceOfNat, -reduceNegSucc, drow, zb, hi, hdr, hc]; exact rfl) ?_
     try simp only [za]
     refine ⟨i + 1, ⟨by omega, by rw [← g2, Bool.true_and]⟩, by omega, ?_⟩
     refine k.gcs (keep := [0]) (live := [6, 4]) (md := true) ?_
     simp (disch := first | exact dis | fail) only [go_sem, seval, -reduceOfNat, -reduceNegSucc, drow, zb]
    | false =>
     rw [hsm] at hc g2
     refine k.eval (by simp (disch := first | exact dis | fail) only [go_sem, seval, -reduceOfNat, -reduceNegSucc, drow, zb, hi, hdr, hc]; exact rfl) ?_
     try simp only [za, zg]
     simp only [CutP]
     rw [← g2, Bool.false_and]
     apply zd (Or.inr rfl)
     iterate 5 (simp (disch := first | exact dis | fail) only [go_sem, seval, -reduceOfNat, -reduceNegSucc] <;> exact rfl)
  intro hq
  rw [hq]
  simp only [wo] at hco
  cases hc : yW t with
  | none =>
   rw [hc] at hco
   refine k.eval (by simp (disch := first | exact dis | fail) only [go_sem, seval, -reduceOfNat, -reduceNegSucc, drow, zb, hco]; exact rfl) ?_
   try simp only [za, zg, Cut, if_true]
   apply zd (Or.inr rfl)
   iterate 5 (simp (disch := first | exact dis | fail) only [go_sem, seval, -reduceOfNat, -reduceNegSucc] <;> exact rfl)
  | some ll =>
   rw [hc] at hco
   refine k.eval (by simp (disch := first | exact dis | fail) only [go_sem, seval, -reduceOfNat, -reduceNegSucc, drow, zb, hco]; exact rfl) ?_
   try simp only [za, zg, Cut, if_true]
   apply zd (Or.inr rfl)
   iterate 5 (simp (disch := first | exact dis | fail) only [go_sem, seval, -reduceOfNat, -reduceNegSucc] <;> exact rfl)
 rw [if_neg k7]
 have e7 := ym k7
 by_cases hl : ks.length = 0
 case neg =>
  have hl2 : 0 < ks.length := by omega
  rw [decide_eq_false hl, Bool.false_and]
  refine k.eval (by simp (disch := first | exact dis | fail) only [go_sem, seval, -reduceOfNat, -reduceNegSucc, drow, zb, e7, hl2]; exact rfl) ?_
  try simp only [za, zg, Cut, if_true]
  apply zd (Or.inr rfl)
  iterate 5 (simp (disch := first | exact dis | fail) only [go_sem, seval, -reduceOfNat, -reduceNegSucc] <;> exact rfl)
 have hks : ks = [] := List.eq_nil_of_length_eq_zero hl
 subst hks
 rw [decide_eq_true hl, Bool.true_and]
 refine ze (k.eval (by simp (disch := first | exact dis | fail) only [go_sem, seval, -reduceOfNat, -reduceNegSucc, drow, zb, e7]; exact rfl) ?_)
 simp only [za]
 refine wH ⟨tmL [(4, .ptr 0 0)], []⟩ (H [some (drow (.mk kd n t [] p))] 0 true) ?_ ?_
 ·refine ze ?_
  refine k.gc [0] [4] true (fr1 := ⟨tmL [(4, .ptr 0 0)], []⟩) (s1 := H [some (drow (.mk kd n t [] p))] 0 true) (by simp (disch := first | exact dis | fail) only [go_sem, seval, -reduceOfNat, -reduceNegSucc, drow, zb]) ?_
  refine k.eval (by simp (disch := first | exact dis | fail) only [go_sem, seval, -reduceOfNat, -reduceNegSucc]; exact rfl) ?_
  try simp only [za]
  refine zw (zI (yI (k.ev ?_)))
  simp (disch := first | exact dis | fail) only [go_sem, seval, -reduceOfNat, -reduceNegSucc, drow, zb]
  refine ⟨_, rfl, ?_⟩
  simp only [za, zg, Cut]
  refine k.gcs (keep := [0]) (live := [4]) (md := true) ?_
  simp (disch := first | exact dis | fail) only [go_sem, seval, -reduceOfNat, -reduceNegSucc]
 unfold jE
 simp only [wo] at hco
 by_cases k0 : kd = .ofNat 0
 ·subst k0
  cases hc : yW t with
  | none =>
   rw [hc] at hco
   refine k.eval (by simp (disch := first | exact dis | fail) only [go_sem, seval, -reduceOfNat, -reduceNegSucc, drow, zb, hco]; exact rfl) ?_
   try simp only [za]
   apply zd (Or.inr rfl)
   iterate 5 (simp (disch := first | exact dis | fail) only [go_sem, seval, -reduceOfNat, -reduceNegSucc, true_or] <;> exact rfl)
  | some ll =>
   rw [hc] at hco
   refine k.eval (by simp (disch := first | exact dis | fail) only [go_sem, seval, -reduceOfNat, -reduceNegSucc, drow, zb, hco]; exact rfl) ?_
   try simp only [za]
   apply zd (Or.inr rfl)
   iterate 5 (simp (disch := first | exact dis | fail) only [go_sem, seval, -reduceOfNat, -reduceNegSucc, true_or] <;> exact rfl)
 by_cases k8 : kd = .ofNat 8
 ·subst k8
  cases hc : yW t with
  | none =>
   rw [hc] at hco
   refine k.eval (by simp (disch := first | exact dis | fail) only [go_sem, seval, -reduceOfNat, -reduceNegSucc, drow, zb, hco]; exact rfl) ?_
   try simp only [za]
   apply zd (Or.inr rfl)
   iterate 5 (simp (disch := first | exact dis | fail) only [go_sem, seval, -reduceOfNat, -reduceNegSucc, true_or, or_true] <;> exact rfl)
  | some ll =>
   rw [hc] at hco
   refine k.eval (by simp (disch := first | exact dis | fail) only [go_sem, seval, -reduceOfNat, -reduceNegSucc, drow, zb, hco]; exact rfl) ?_
   try simp only [za]
   apply zd (Or.inr rfl)
   iterate 5 (simp (disch := first | exact dis | fail) only [go_sem, seval, -reduceOfNat, -reduceNegSucc, true_or, or_true] <;> exact rfl)
 by_cases k9 : kd = .ofNat 9
 ·subst k9
  cases hc : yW t with
  | none =>
   rw [hc] at hco
   refine k.eval (by simp (disch := first | exact dis | fail) only [go_sem, seval, -reduceOfNat, -reduceNegSucc, drow, zb, hco]; exact rfl) ?_
   try simp only [za]
   apply zd (Or.inr rfl)
   iterate 5 (simp (disch := first | exact dis | fail) only [go_sem, seval, -reduceOfNat, -reduceNegSucc, true_or, or_true] <;> exact rfl)
  | some ll =>
   rw [hc] at hco
   refine k.eval (by simp (disch := first | exact dis | fail) only [go_sem, seval, -reduceOfNat, -reduceNegSucc, drow, zb, hco]; exact rfl) ?_
   try simp only [za]
   apply zd (Or.inr rfl)
   iterate 5 (simp (disch := first | exact dis | fail) only [go_sem, seval, -reduceOfNat, -reduceNegSucc, true_or, or_true] <;> exact rfl)
 by_cases k10 : kd = .ofNat 10
 ·subst k10
  cases hc : yW t with
  | none =>
   rw [hc] at hco
   refine k.eval (by simp (disch := first | exact dis | fail) only [go_sem, seval, -reduceOfNat, -reduceNegSucc, drow, zb, hco]; exact rfl) ?_
   try simp only [za]
   apply zd (Or.inr rfl)
   iterate 5 (simp (disch := first | exact dis | fail) only [go_sem, seval, -reduceOfNat, -reduceNegSucc, or_true] <;> exact rfl)
  | some ll =>
   rw [hc] at hco
   refine k.eval (by simp (disch := first | exact dis | fail) only [go_sem, seval, -reduceOfNat, -reduceNegSucc, drow, zb, hco]; exact rfl) ?_
   try simp only [za]
   apply zd (Or.inr rfl)
   iterate 5 (simp (disch := first | exact dis | fail) only [go_sem, seval, -reduceOfNat, -reduceNegSucc, or_true] <;> exact rfl)
 rw [if_neg (by simp only [k0, k8, k9, k10, or_self, not_false_eq_true])]
 have e0 := ym k0
 have e8 := ym k8
 have e9 := ym k9
 have e10 := ym k10
 by_cases k1 : kd = .ofNat 1
 ·subst k1
  rw [if_pos rfl]
  cases hc : yW t with
  | none =>
   rw [hc] at hco
   cases h0 : eqD n (.ofNat 0) with
   | true =>
    refine k.eval (by simp (disch := first | exact dis | fail) only [go_sem, seval, -reduceOfNat, -reduceNegSucc, drow, zb, hco, h0]; exact rfl) ?_
    try simp only [za, zg, Cut, if_true]
    apply zd (Or.inr rfl)
    iterate 5 (simp (disch := first | exact dis | fail) only [go_sem, seval, -reduceOfNat, -reduceNegSucc] <;> exact rfl)
   | false =>
    refine k.eval (by simp (disch := first | exact dis | fail) only [go_sem, seval, -reduceOfNat, -reduceNegSucc, drow, zb, hco, h0]; exact rfl) ?_
    try simp only [za, zg, Cut, if_true]
    apply zd (Or.inr rfl)
    iterate 5 (simp (disch := first | exact dis | fail) only [go_sem, seval, -reduceOfNat, -reduceNegSucc] <;> exact rfl)
  | some ll =>
   rw [hc] at hco
   cases h0 : eqD n (.ofNat 0) with
   | true =>
    refine k.eval (by simp (disch := first | exact dis | fail) only [go_sem, seval, -reduceOfNat, -reduceNegSucc, drow, zb, hco, h0]; exact rfl) ?_
    try simp only [za, zg, Cut, if_true]
    apply zd (Or.inr rfl)
    iterate 5 (simp (disch := first | exact dis | fail) only [go_sem, seval, -reduceOfNat, -reduceNegSucc] <;> exact rfl)
   | false =>
    refine k.eval (by simp (disch := first | exact dis | fail) only [go_sem, seval, -reduceOfNat, -reduceNegSucc, drow, zb, hco, h0]; exact rfl) ?_
    try simp only [za, zg, Cut, if_true]
    apply zd (Or.inr rfl)
    iterate 5 (simp (disch := first | exact dis | fail) only [go_sem, seval, -reduceOfNat, -reduceNegSucc] <;> exact rfl)
 rw [if_neg k1]
 have e1 := ym k1
 by_cases k2 : kd = .ofNat 2
 ·subst k2
  rw [if_pos rfl]
  cases hc : yW t with
  | none =>
   rw [hc] at hco
   refine k.eval (by simp (disch := first | exact dis | fail) only [go_sem, seval, -reduceOfNat, -reduceNegSucc, drow, zb, hco, hnum]; exact rfl) ?_
   try simp only [za, zg, Cut, if_true]
   apply zd (Or.inr rfl)
   iterate 5 (simp (disch := first | exact dis | fail) only [go_sem, seval, -reduceOfNat, -reduceNegSucc] <;> exact rfl)
  | some ll =>
   rw [hc] at hco
   refine k.eval (by simp (disch := first | exact dis | fail) only [go_sem, seval, -reduceOfNat, -reduceNegSucc, drow, zb, hco, hnum]; exact rfl) ?_
   try simp only [za, zg, Cut, if_true]
   apply zd (Or.inr rfl)
   iterate 5 (simp (disch := first | exact dis | fail) only [go_sem, seval, -reduceOfNat, -reduceNegSucc] <;> exact rfl)
 rw [if_neg k2]
 have e2 := ym k2
 by_cases k3 : kd = .ofNat 3
 ·subst k3
  rw [if_pos rfl]
  cases hc : yW t with
  | none =>
   rw [hc] at hco
   refine k.eval (by simp (disch := first | exact dis | fail) only [go_sem, seval, -reduceOfNat, -reduceNegSucc, drow, zb, hco, his]; exact rfl) ?_
   try simp only [za, zg, Cut, if_true]
   apply zd (Or.inr rfl)
   iterate 5 (simp (disch := first | exact dis | fail) only [go_sem, seval, -reduceOfNat, -reduceNegSucc] <;> exact rfl)
  | some ll =>
   rw [hc] at hco
   refine k.eval (by simp (disch := first | exact dis | fail) only [go_sem, seval, -reduceOfNat, -reduceNegSucc, drow, zb, hco, his]; exact rfl) ?_
   try simp only [za, zg, Cut, if_true]
   apply zd (Or.inr rfl)
   iterate 5 (simp (disch := first | exact dis | fail) only [go_sem, seval, -reduceOfNat, -reduceNegSucc] <;> exact rfl)
 rw [if_neg k3]
 have e3 := ym k3
 by_cases k4 : kd = .ofNat 4
 ·subst k4
  rw [if_pos rfl]
  simp only [okC]
  cases hc : yW t with
  | none =>
   rw [hc] at hco
   refine k.eval (by simp (disch := first | exact dis | fail) only [go_sem, seval, -reduceOfNat, -reduceNegSucc, drow, zb, hco]; exact rfl) ?_
   try simp only [za, zg, Cut, if_true]
   apply zd (Or.inr rfl)
   iterate 5 (simp (disch := first | exact dis | fail) only [go_sem, seval, -reduceOfNat, -reduceNegSucc, Option.isSome_none] <;> exact rfl)
  | some ll =>
   rw [hc] at hco
   refine k.eval (by simp (disch := first | exact dis | fail) only [go_sem, seval, -reduceOfNat, -reduceNegSucc, drow, zb, hco]; exact rfl) ?_
   try simp only [za, zg, Cut, if_true]
   apply zd (Or.inr rfl)
   iterate 5 (simp (disch := first | exact dis | fail) only [go_sem, seval, -reduceOfNat, -reduceNegSucc, Option.isSome_some] <;> exact rfl)
 rw [if_neg k4]
 have e4 := ym k4
 by_cases k5 : kd = .ofNat 5
 ·subst k5
  rw [if_pos rfl]
  simp only [okC]
  cases hc : yW t with
  | none =>
   rw [hc] at hco
   refine k.eval (by simp (disch := first | exact dis | fail) only [go_sem, seval, -reduceOfNat, -reduceNegSucc, drow, zb, hco]; exact rfl) ?_
   try simp only [za, zg, Cut, if_true]
   apply zd (Or.inr rfl)
   iterate 5 (simp (disch := first | exact dis | fail) only [go_sem, seval, -reduceOfNat, -reduceNegSucc, Option.isSome_none] <;> exact rfl)
  | some ll =>
   rw [hc] at hco
   cases t with
   | nil =>
    refine k.eval (by simp (disch := first | exact dis | fail) only [go_sem, seval, -reduceOfNat, -reduceNegSucc, drow, zb, hco]; exact rfl) ?_
    try simp only [za]
    apply zd (Or.inr rfl)
    iterate 5 (simp (disch := first | exact dis | fail) only [go_sem, seval, -reduceOfNat, -reduceNegSucc, Option.isSome_some] <;> exact rfl)
   | cons t0 tr =>
    refine k.eval (by simp (disch := first | exact dis | fail) only [go_sem, seval, -reduceOfNat, -reduceNegSucc, drow, zb, hco]; exact rfl) ?_
    try simp only [za, zg, Cut, if_true]
    apply zd (Or.inr rfl)
    iterate 5 (simp (disch := first | exact dis | fail) only [go_sem, seval, -reduceOfNat, -reduceNegSucc, Option.isSome_some, reduceCtorEq] <;> exact rfl)
 rw [if_neg k5]
 have e5 := ym k5
 cases hc : yW t with
 | none =>
  rw [hc] at hco
  refine k.eval (by simp (disch := first | exact dis | fail) only [go_sem, seval, -reduceOfNat, -reduceNegSucc, drow, zb, hco, e0, e1, e2, e3, e4, e5, e7, e8, e9, e10]; exact rfl) ?_
  try simp only [za, zg, Cut, if_true]
  apply zd (Or.inr rfl)
  iterate 5 (simp (disch := first | exact dis | fail) only [go_sem, seval, -reduceOfNat, -reduceNegSucc] <;> exact rfl)
 | some ll =>
  rw [hc] at hco
  refine k.eval (by simp (disch := first | exact dis | fail) only [go_sem, seval, -reduceOfNat, -reduceNegSucc, drow, zb, hco, e0, e1, e2, e3, e4, e5, e7, e8, e9, e10]; exact rfl) ?_
  try simp only [za, zg, Cut, if_true]
  apply zd (Or.inr rfl)
  iterate 5 (simp (disch := first | exact dis | fail) only [go_sem, seval, -reduceOfNat, -reduceNegSucc] <;> exact rfl)
set_option maxRecDepth 100000
def hexD (n : Nat) : Nat := if n < 10 then 48 + n else 87 + n
def hexS (c : Nat) : List Nat := if c < 16 then [hexD c] else [hexD (c / 16), hexD (c % 16)]
def xj (c : Nat) : Bool := decide (c < 32) || decide (c = 127)
def x7 (c : Nat) : List Nat := if c = 32 then [115, 112, 97, 99, 101] else if c = 10 then [110, 101, 119, 108, 105, 110, 101] else if c = 9 then [116, 97, 98] else if xj c = true then 120 :: hexS c else encC c
def zZ (c : Nat) : List Nat := if c = 34 ∨ c = 92 then 92 :: encC c else if c = 10 then [92, 110] else if c = 9 then [92, 116] else if xj c = true then 92 :: 120 :: (hexS c ++ [59]) else encC c
theorem lw {c : Nat} (h : xj c = true) : c < 128 := by
 simp [xj] at h; omega
def encF (c : Nat) : List AV := [.int .i64 (.ofNat c), .int .i64 (.ofNat 16)]
theorem HG : ∀ x y, encF x = encF y → x = y := fun x y h => by
 simp only [encF, List.cons.injEq, AV.int.injEq, true_and, and_true] at h; cases h; rfl
noncomputable def gFmt : List AV → St → Option (AV × St) := orc0 encF (fun c => xj c = true) (fun c => .str (hexS c))
theorem Y8 {O : Orc} (h : O 73 = some gFmt) {c : Nat} (hc : xj c = true) (s : St) : (evW env O).call 73 [.int .i64 (.ofNat c), .int .i64 (.ofNat 16)] s = some (.str (hexS c), s) := by
 rw [zq h, gFmt, zT HG s c hc rfl]
theorem zyX : (List.range 128).all (fun c => !xj c || okV (.str (hexS c)) ((evT env noO 1000).call 73 [.int .i64 (.ofNat c), .int .i64 (.ofNat 16)] s0)) = true := by decide +kernel
theorem VE {P : Program} {w0 : World} (B : Bx P w0) {O : Orc} (hO : OrcOk P w0 O) : OrcOk P w0 (withG 73 gFmt O) :=
 hO.withG yP (qO false (fun _ => rfl) (fun _ => rfl) fun c hc => YZ (qe P w0) B.mixed B.glob B.env (by
  have := List.all_eq_true.1 zyX c (List.mem_range.2 (lw hc))
  rw [hc, Bool.not_true, Bool.false_or] at this; exact this))
noncomputable def gHex : List AV → St → Option (AV × St) := orc0 encN (fun c => xj c = true) (fun c => .str (hexS c))
theorem X6 {O : Orc} (h : O 78 = some gHex) {c : Nat} (hc : xj c = true) (s : St) : (evW env O).call 78 [.int .i64 (.ofNat c)] s = some (.str (hexS c), s) := by
 rw [zq h, gHex, zT ur s c hc rfl]
theorem zyA : (List.range 128).all (fun c => !xj c || okV (.str (hexS c)) ((evT env noO 1000).call 78 [.int .i64 (.ofNat c)] s0)) = true := by decide +kernel
theorem JB {P : Program} {w0 : World} (B : Bx P w0) {O : Orc} (hO : OrcOk P w0 O) : OrcOk P w0 (withG 78 gHex O) :=
 hO.withG yP (qO false (fun _ => rfl) (fun _ => rfl) fun c hc => YZ (qe P w0) B.mixed B.glob B.env (by
  have := List.all_eq_true.1 zyA c (List.mem_range.2 (lw hc))
  rw [hc, Bool.not_true, Bool.false_or] at this; exact this))
def wd (c : Nat) : List Nat := if c < 10 then [48 + c] else if c < 100 then [48 + c / 10, 48 + c % 10] else [48 + c / 100, 48 + c / 10 % 10, 48 + c % 10]
noncomputable def gF : List AV → St → Option (AV × St) := orc0 encN (fun c => c < 256) (fun c => .str (wd c))
theorem pP {O : Orc} {f : Nat} (h : O f = some gF) {c : Nat} (hc : c < 256) (s : St) : (evW env O).call f [.int .i64 (.ofNat c)] s = some (.str (wd c), s) := by
 rw [zq h, gF, zT ur s c hc rfl]
theorem PT : (List.range 256).all (fun c => okV (.str (wd c)) ((evT env noO 1000).call 76 [.int .i64 (.ofNat c)] s0)) = true := by decide +kernel
theorem zyJ : (List.range 256).all (fun c => okV (.str (wd c)) ((evT env noO 1000).call 48 [.int .i64 (.ofNat c)] s0)) = true := by decide +kernel
theorem WX {P : Program} {w0 : World} (B : Bx P w0) {O : Orc} (hO : OrcOk P w0 O) : OrcOk P w0 (withG 76 gF O) :=
 hO.withG yP (qO false (fun _ => rfl) (fun _ => rfl) fun c hc => YZ (qe P w0) B.mixed B.glob B.env (List.all_eq_true.1 PT c (List.mem_range.2 hc)))
theorem J0 {P : Program} {w0 : World} (B : Bx P w0) {O : Orc} (hO : OrcOk P w0 O) : OrcOk P w0 (withG 48 gF O) :=
 hO.withG yP (qO false (fun _ => rfl) (fun _ => rfl) fun c hc => YZ (qe P w0) B.mixed B.glob B.env (List.all_eq_true.1 zyJ c (List.mem_range.2 hc)))
theorem Z8 (k : IntKind) (c : Nat) : vCis (.int k (.ofNat c)) = some (.str (encC (bif zr c then c else 65533))) := rfl
noncomputable def vN : List AV → St → Option (AV × St) := orc0 encN (fun c => zr c = true) (fun c => .str (x7 c))
theorem jp {O : Orc} {f : Nat} (h : O f = some vN) {c : Nat} (hc : zr c = true) (s : St) : (evW env O).call f [.int .i64 (.ofNat c)] s = some (.str (x7 c), s) := by
 rw [zq h, vN, zT ur s c hc rfl]
theorem vv (c : Nat) : (hexS c).length ≤ 2 := by unfold hexS; split <;> simp
theorem G3 {P : Program} {w0 : World} (B : Bx P w0) {O : Orc} (hO : OrcOk P w0 O) (h73 : O 73 = some gFmt) (c : Nat) (hv : zr c = true) :
  SC P w0 37 (encN c) (H [] 0 true) (.str (x7 c)) (H [] 0 true) := by
 refine Is.sc hO B.mixed B.glob B.env 0 (show env.funs.get 37 = some f37 from rfl) (Nat.le_of_ble_eq_true rfl) z8 fun C k => ?_
 have hm := (zf.1 hv).1
 have hl := vv c
 unfold f37
 simp only [x7]
 by_cases c1 : c = 32
 ·subst c1
  refine k.eval (by simp (disch := first | exact dis | fail) only [go_sem, seval, -reduceOfNat, -reduceNegSucc, encN]; exact rfl) ?_
  try simp only [↓reduceIte]
  apply zd (Or.inr rfl)
  iterate 5 (simp (disch := first | exact dis | fail) only [go_sem, seval, -reduceOfNat, -reduceNegSucc] <;> exact rfl)
 rw [if_neg c1]
 by_cases c2 : c = 10
 ·subst c2
  refine k.eval (by simp (disch := first | exact dis | fail) only [go_sem, seval, -reduceOfNat, -reduceNegSucc, encN]; exact rfl) ?_
  try simp only [↓reduceIte]
  apply zd (Or.inr rfl)
  iterate 5 (simp (disch := first | exact dis | fail) only [go_sem, seval, -reduceOfNat, -reduceNegSucc] <;> exact rfl)
 rw [if_neg c2]
 by_cases c3 : c = 9
 ·subst c3
  refine k.eval (by simp (disch := first | exact dis | fail) only [go_sem, seval, -reduceOfNat, -reduceNegSucc, encN]; exact rfl) ?_
  try simp only [↓reduceIte]
  apply zd (Or.inr rfl)
  iterate 5 (simp (disch := first | exact dis | fail) only [go_sem, seval, -reduceOfNat, -reduceNegSucc] <;> exact rfl)
 rw [if_neg c3]
 cases hc : xj c with
 | true =>
  have hf := Y8 h73 hc
  rw [if_pos rfl]
  by_cases c4 : c < 32
  ·
   refine k.eval (by simp (disch := first | exact dis | fail) only [go_sem, seval, -reduceOfNat, -reduceNegSucc, encN, c1, c2, c3, c4, hf]; exact rfl) ?_
   try simp only [za, zg, Cut, if_true]
   apply zd (Or.inr rfl)
   iterate 5 (simp (disch := first | exact dis | fail) only [go_sem, seval, -reduceOfNat, -reduceNegSucc] <;> exact rfl)
  ·obtain rfl : c = 127 := by simp [xj] at hc; omega
   refine k.eval (by simp (disch := first | exact dis | fail) only [go_sem, seval, -reduceOfNat, -reduceNegSucc, encN, hf]; exact rfl) ?_
   try simp only [za, zg, Cut, if_true]
   apply zd (Or.inr rfl)
   iterate 5 (simp (disch := first | exact dis | fail) only [go_sem, seval, -reduceOfNat, -reduceNegSucc] <;> exact rfl)
 | false =>
  rw [if_neg (by simp)]
  have c4 : ¬ c < 32 := fun h => by simp [xj] at hc; omega
  have c5 : ¬ c = 127 := fun h => by simp [xj] at hc; omega
  refine k.eval (by simp (disch := first | exact dis | fail) only [go_sem, seval, -reduceOfNat, -reduceNegSucc, encN, c1, c2, c3, c4, c5, Z8, hv]; exact rfl) ?_
  try simp only [za, zg, Cut, if_true]
  apply zd (Or.inr rfl)
  iterate 5 (simp (disch := first | exact dis | fail) only [go_sem, seval, -reduceOfNat, -reduceNegSucc] <;> exact rfl)
theorem Qq {P : Program} {w0 : World} (B : Bx P w0) {O : Orc} (hO : OrcOk P w0 O) (h78 : O 78 = some gHex) (h44 : O 44 = some gPut) (c : Nat) (hv : zr c = true) :
  SC P w0 45 (encN c) (H [] 0 true) (.str (x7 c)) (H [] 0 true) := by
 refine Is.sc hO B.mixed B.glob B.env 0 (show env.funs.get 45 = some f45 from rfl) (Nat.le_of_ble_eq_true rfl) z8 fun C k => ?_
 have hl := vv c
 have hp := pa h44 hv
 unfold f45
 simp only [x7]
 by_cases c1 : c = 32
 ·subst c1
  refine k.eval (by simp (disch := first | exact dis | fail) only [go_sem, seval, -reduceOfNat, -reduceNegSucc, encN]; exact rfl) ?_
  try simp only [↓reduceIte]
  apply zd (Or.inr rfl)
  iterate 5 (simp (disch := first | exact dis | fail) only [go_sem, seval, -reduceOfNat, -reduceNegSucc] <;> exact rfl)
 rw [if_neg c1]
 by_cases c2 : c = 10
 ·subst c2
  refine k.eval (by simp (disch := first | exact dis | fail) only [go_sem, seval, -reduceOfNat, -reduceNegSucc, encN]; exact rfl) ?_
  try simp only [↓reduceIte]
  apply zd (Or.inr rfl)
  iterate 5 (simp (disch := first | exact dis | fail) only [go_sem, seval, -reduceOfNat, -reduceNegSucc] <;> exact rfl)
 rw [if_neg c2]
 by_cases c3 : c = 9
 ·subst c3
  refine k.eval (by simp (disch := first | exact dis | fail) only [go_sem, seval, -reduceOfNat, -reduceNegSucc, encN]; exact rfl) ?_
  try simp only [↓reduceIte]
  apply zd (Or.inr rfl)
  iterate 5 (simp (disch := first | exact dis | fail) only [go_sem, seval, -reduceOfNat, -reduceNegSucc] <;> exact rfl)
 rw [if_neg c3]
 cases hc : xj c with
 | true =>
  have hf := X6 h78 hc
  rw [if_pos rfl]
  by_cases c4 : c < 32
  ·
   refine k.eval (by simp (disch := first | exact dis | fail) only [go_sem, seval, -reduceOfNat, -reduceNegSucc, encN, c1, c2, c3, c4, hf]; exact rfl) ?_
   try simp only [za, zg, Cut, if_true]
   apply zd (Or.inr rfl)
   iterate 5 (simp (disch := first | exact dis | fail) only [go_sem, seval, -reduceOfNat, -reduceNegSucc] <;> exact rfl)
  ·obtain rfl : c = 127 := by simp [xj] at hc; omega
   refine k.eval (by simp (disch := first | exact dis | fail) only [go_sem, seval, -reduceOfNat, -reduceNegSucc, encN, hf]; exact rfl) ?_
   try simp only [za, zg, Cut, if_true]
   apply zd (Or.inr rfl)
   iterate 5 (simp (disch := first | exact dis | fail) only [go_sem, seval, -reduceOfNat, -reduceNegSucc] <;> exact rfl)
 | false =>
  rw [if_neg (by simp)]
  have c4 : ¬ c < 32 := fun h => by simp [xj] at hc; omega
  have c5 : ¬ c = 127 := fun h => by simp [xj] at hc; omega
  refine k.eval (by simp (disch := first | exact dis | fail) only [go_sem, seval, -reduceOfNat, -reduceNegSucc, encN, c1, c2, c3, c4, c5, hp]; exact rfl) ?_
  try simp only [za, zg, Cut, if_true]
  apply zd (Or.inr rfl)
  iterate 5 (simp (disch := first | exact dis | fail) only [go_sem, seval, -reduceOfNat, -reduceNegSucc] <;> exact rfl)
def encR (c : Nat) : List AV := [.int .i32 (.ofNat c)]
theorem K3 : ∀ x y, encR x = encR y → x = y := fun x y h => by
 simp only [encR, List.cons.injEq, AV.int.injEq, true_and, and_true] at h; cases h; rfl
noncomputable def gQuo : List AV → St → Option (AV × St) := orc0 encR (fun c => zr c = true) (fun c => .str (zZ c))
theorem X0 {O : Orc} (h : O 75 = some gQuo) {c : Nat} (hc : zr c = true) (s : St) : (evW env O).call 75 [.int .i32 (.ofNat c)] s = some (.str (zZ c), s) := by
 rw [zq h, gQuo, zT K3 s c hc rfl]
theorem zys {P : Program} {w0 : World} (B : Bx P w0) {O : Orc} (hO : OrcOk P w0 O) (h73 : O 73 = some gFmt) (c : Nat) (hv : zr c = true) :
  SC P w0 75 (encR c) (H [] 0 true) (.str (zZ c)) (H [] 0 true) := by
 refine Is.sc hO B.mixed B.glob B.env 0 (show env.funs.get 75 = some f75 from rfl) (Nat.le_of_ble_eq_true rfl) z8 fun C k => ?_
 have hm := (zf.1 hv).1
 have hl := vv c
 have hcl := wD c
 unfold f75
 simp only [zZ]
 by_cases c0 : c = 34
 ·subst c0
  refine k.eval (by simp (disch := first | exact dis | fail) only [go_sem, seval, -reduceOfNat, -reduceNegSucc, encR, Z8, hv]; exact rfl) ?_
  try simp only [za]
  apply zd (Or.inr rfl)
  iterate 5 (simp (disch := first | exact dis | fail) only [go_sem, seval, -reduceOfNat, -reduceNegSucc, true_or] <;> exact rfl)
 by_cases c9 : c = 92
 ·subst c9
  refine k.eval (by simp (disch := first | exact dis | fail) only [go_sem, seval, -reduceOfNat, -reduceNegSucc, encR, Z8, hv]; exact rfl) ?_
  try simp only [za]
  apply zd (Or.inr rfl)
  iterate 5 (simp (disch := first | exact dis | fail) only [go_sem, seval, -reduceOfNat, -reduceNegSucc, or_true] <;> exact rfl)
 rw [if_neg (by omega)]
 by_cases c2 : c = 10
 ·subst c2
  refine k.eval (by simp (disch := first | exact dis | fail) only [go_sem, seval, -reduceOfNat, -reduceNegSucc, encR]; exact rfl) ?_
  try simp only [↓reduceIte]
  apply zd (Or.inr rfl)
  iterate 5 (simp (disch := first | exact dis | fail) only [go_sem, seval, -reduceOfNat, -reduceNegSucc] <;> exact rfl)
 rw [if_neg c2]
 by_cases c3 : c = 9
 ·subst c3
  refine k.eval (by simp (disch := first | exact dis | fail) only [go_sem, seval, -reduceOfNat, -reduceNegSucc, encR]; exact rfl) ?_
  try simp only [↓reduceIte]
  apply zd (Or.inr rfl)
  iterate 5 (simp (disch := first | exact dis | fail) only [go_sem, seval, -reduceOfNat, -reduceNegSucc] <;> exact rfl)
 rw [if_neg c3]
 cases hc : xj c with
 | true =>
  have hf := Y8 h73 hc
  rw [if_pos rfl]
  by_cases c4 : c < 32
  ·
   refine k.eval (by simp (disch := first | exact dis | fail) only [go_sem, seval, -reduceOfNat, -reduceNegSucc, encR, c0, c9, c2, c3, c4, hf]; exact rfl) ?_
   try simp only [za, zg, Cut, if_true]
   apply zd (Or.inr rfl)
   iterate 5 (simp (disch := first | exact dis | fail) only [go_sem, seval, -reduceOfNat, -reduceNegSucc] <;> exact rfl)
  ·obtain rfl : c = 127 := by simp [xj] at hc; omega
   refine k.eval (by simp (disch := first | exact dis | fail) only [go_sem, seval, -reduceOfNat, -reduceNegSucc, encR, hf]; exact rfl) ?_
   try simp only [za, zg, Cut, if_true]
   apply zd (Or.inr rfl)
   iterate 5 (simp (disch := first | exact dis | fail) only [go_sem, seval, -reduceOfNat, -reduceNegSucc] <;> exact rfl)
 | false =>
  rw [if_neg (by simp)]
  have c4 : ¬ c < 32 := fun h => by simp [xj] at hc; omega
  have c5 : ¬ c = 127 := fun h => by simp [xj] at hc; omega
  refine k.eval (by simp (disch := first | exact dis | fail) only [go_sem, seval, -reduceOfNat, -reduceNegSucc, encR, c0, c9, c2, c3, c4, c5, Z8, hv]; exact rfl) ?_
  try simp only [za, zg, Cut, if_true]
  apply zd (Or.inr rfl)
  iterate 5 (simp (disch := first | exact dis | fail) only [go_sem, seval, -reduceOfNat, -reduceNegSucc] <;> exact rfl)
end Go.Proofs.YthcmnajcjapjbaaGreatDoor.Ev

/- Contracts of functions that DatumWrites calls: what a call answers, for all data, by symbolic evaluation. No conditions of its own. -/
import Derived.Test.YthcmnajcjapjbaaGreatDoorWB
import Derived.Test.YthcmnajcjapjbaaGreatDoorEvG
set_option linter.unusedSimpArgs false
set_option linter.unusedVariables false
set_option linter.defProp false
namespace Go.Proofs.YthcmnajcjapjbaaGreatDoor.Ev
open Nat (reduceEqDiff reduceLeDiff reduceLT reduceAdd reduceMul reduceSub reduceMod reducePow reduceDiv reduceOr reduceShiftLeft reduceGT reduceSucc)
open List (length_cons length_nil length_take length_drop)
open Int (reduceOfNat reduceNegSucc)
open T
set_option maxRecDepth 100000
theorem vX (c : Nat) : zh [c] = [.int .u8 (.ofNat c)] := rfl
theorem v7 (l : List (Nat × Option AObj)) (n m e len : Nat) (hd : List (Nat × Nat)) (on : Option (Nat × List Nat)) (cs : List AV) : oBsl (KL l n m false hd on) e len (some cs) = some (.sl n 0 len (.fix len), KL ((n, some (.row e cs false false)) :: l) (n + 1) m false hd on) := rfl
theorem qk {l : List (Nat × Option AObj)} {n m id t : Nat} {b x fz : Bool} {new : List Nat} {c : Cap} (hg : getA l id = some (.row t (zh new) x fz)) : xg (KL l n m b [] none) 1 new.length (.sl id 0 new.length c) = some (zh new) := by
 simp only [xg, x3, hg]; exact kx new
theorem ku {O : Orc} (o41 : O 41 = none) (o72 : O 72 = none) (l : List (Nat × Option AObj)) (n m id j : Nat) (b : Bool) (out : List Nat) (disp : Bool) (c : Nat) (hc : c < 256) (ho : out.length < 1000000) (ne : id ≠ j) (hi : id < n) (hj : j < n)
  (hw : getA l id = some (.row 54 [.ptr id 0, .sl j 0 out.length (.opn 1), .bool disp] false false)) (hb : getA l j = some (.row 5 (zh out) true false)) :
  (evW env O).call 41 [.ptr id 0, .int .u8 (.ofNat c)] (KL l n m b [] none) = some (.nili, KL ((id, some (.row 54 [.ptr id 0, .sl (n + 1) 0 (out ++ [c]).length (.opn 1), .bool disp] false false)) :: (n + 1, some (.row 5 (zh (out ++ [c])) true false)) :: (j, none) :: (n, some (.row 5 (zh [c]) false false)) :: l) (n + 2) (mark (mark m j) id) b [] none) := by
 have c41 := @xA env O _ _ o41 (show env.funs.get 41 = some f41 from rfl) rfl
 have c72 := @z5 env O _ _ o72 (show env.funs.get 72 = some f72 from rfl) rfl
 have ne' : ¬ j = id := fun e => ne e.symm
 have n1 : ¬ id = n := by omega
 have n2 : ¬ j = n := by omega
 have n3 : ¬ id = n + 1 := by omega
 have ap := @Z9 ((n, some (.row 5 (zh [c]) false false)) :: l) (n + 1) m 5 j false (.sl n 0 1 (.fix 1)) out [c] (by rw [wA, if_neg n2]; exact hb) rfl (by simp) (qk (by rw [wA, if_pos rfl])) (by simp; omega)
 simp only [vX] at ap ⊢
 simp (disch := first | exact dis | fail) only [go_sem, seval, -reduceOfNat, -reduceNegSucc, c41, f41, c72, f72, hw, ne, n1, n3, Yj, Yx, ap, Nat.zero_mod, decide_true, v7]
theorem Zd : ∀ s : List Nat, j9 s.length s = s
 | [] => rfl
 | x :: r => by simp only [List.length_cons, j9, Zd r]
theorem jZ (s : St) (t : List Nat) : xg s 1 t.length (.str t) = some (zh t) := by
 simp only [xg, zn.2 (rfl : (1 : Nat) = 1), cond_true, Zd]
theorem gZ {O : Orc} (o36 : O 36 = none) (o72 : O 72 = none) (l : List (Nat × Option AObj)) (n m id j : Nat) (b : Bool) (out : List Nat) (disp : Bool) (s : List Nat) (hs : s ≠ []) (ho : out.length < 1000000) (hsl : s.length < 1000000) (ne : id ≠ j) (hi : id < n) (hj : j < n)
  (hw : getA l id = some (.row 54 [.ptr id 0, .sl j 0 out.length (.opn 1), .bool disp] false false)) (hb : getA l j = some (.row 5 (zh out) true false)) :
  (evW env O).call 36 [.ptr id 0, .str s] (KL l n m b [] none) = some (.tup [.int .i64 (.ofNat s.length), .nili], KL ((id, some (.row 54 [.ptr id 0, .sl n 0 (out ++ s).length (.opn 1), .bool disp] false false)) :: (n, some (.row 5 (zh (out ++ s)) true false)) :: (j, none) :: l) (n + 1) (mark (mark m j) id) b [] none) := by
 have c36 := @xA env O _ _ o36 (show env.funs.get 36 = some f36 from rfl) rfl
 have c72 := @z5 env O _ _ o72 (show env.funs.get 72 = some f72 from rfl) rfl
 have ne' : ¬ j = id := fun e => ne e.symm
 have n1 : ¬ id = n := by omega
 have n2 : ¬ j = n := by omega
 have ap := @Z9 l n m 5 j false (.str s) out s hb (li s) hs (jZ _ s) (by simp; omega)
 simp (disch := first | exact dis | fail) only [go_sem, seval, -reduceOfNat, -reduceNegSucc, c36, f36, c72, f72, hw, ne, n1, Yj, Yx, ap, Nat.zero_mod, decide_true]
theorem Z4 {l : List (Nat × Option AObj)} {n m id t : Nat} {b x fz : Bool} {c0 : AV} {cs : List AV} (hg : getA l id = some (.row t (c0 :: cs) x fz)) : vCup (KL l n m b [] none) (.ptr id 0) = some (.ptr id 0) := by
 simp only [vCup, x3, hg, zX]; rfl
theorem Ym {l : List (Nat × Option AObj)} {n m id : Nat} {b fz : Bool} {c0 c1 c2 : AV} (hg : getA l id = some (.row 54 [c0, c1, c2] false fz)) : vCpu (KL l n m b [] none) [(51, 2), (52, 2), (53, 3), (54, 3)] (.ptr id 0) = some (.ptr id 0) := by
 simp only [vCpu, x3, hg, zX]; rfl
theorem Xe {O : Orc} (o41 : O 41 = none) (o72 : O 72 = none) (l : List (Nat × Option AObj)) (n m id : Nat) (b : Bool) (disp : Bool) (c : Nat) (hc : c < 256) (hi : id < n)
  (hw : getA l id = some (.row 54 [.nilp, .nils, .bool disp] false false)) :
  (evW env O).call 41 [.ptr id 0, .int .u8 (.ofNat c)] (KL l n m b [] none) = some (.nili, KL ((id, some (.row 54 [.ptr id 0, .sl (n + 1) 0 1 (.opn 1), .bool disp] false false)) :: (n + 1, some (.row 5 (zh [c]) true false)) :: (n, some (.row 5 (zh [c]) false false)) :: (id, some (.row 54 [.ptr id 0, .nils, .bool disp] false false)) :: l) (n + 2) (mark (mark m id) id) b [] none) := by
 have c41 := @xA env O _ _ o41 (show env.funs.get 41 = some f41 from rfl) rfl
 have c72 := @z5 env O _ _ o72 (show env.funs.get 72 = some f72 from rfl) rfl
 have n1 : ¬ id = n := by omega
 have n3 : ¬ id = n + 1 := by omega
 have hm : ¬ (1 <<< id) % 2 ^ n = 0 := by
  rw [Nat.shiftLeft_eq, Nat.one_mul, Nat.mod_eq_of_lt (Nat.pow_lt_pow_right (by omega) hi)]
  exact Nat.ne_of_gt (Nat.two_pow_pos id)
 have q1 := fun m b => @Z4 l n m id _ b _ _ _ _ hw
 have q2 := fun m b => @Ym l n m id b _ _ _ _ hw
 have ap := @YK ((n, some (.row 5 (zh [c]) false false)) :: (id, some (.row 54 [.ptr id 0, .nils, .bool disp] false false)) :: l) (n + 1) (m ||| 1 <<< id) 5 (.sl n 0 1 (.fix 1)) [c] rfl (by simp) (qk (by rw [wA, if_pos rfl])) (by simp)
 simp only [vX, List.length_cons, List.length_nil, Nat.zero_add] at ap
 simp (disch := first | exact dis | fail) only [go_sem, seval, -reduceOfNat, -reduceNegSucc, c41, f41, c72, f72, hw, n1, n3, Yq, decide_true, v7, q1, q2, ap, Nat.zero_or, hm]
theorem Xn {O : Orc} (o36 : O 36 = none) (o72 : O 72 = none) (l : List (Nat × Option AObj)) (n m id : Nat) (b : Bool) (disp : Bool) (s : List Nat) (hs : s ≠ []) (hsl : s.length < 1000000) (hi : id < n)
  (hw : getA l id = some (.row 54 [.nilp, .nils, .bool disp] false false)) :
  (evW env O).call 36 [.ptr id 0, .str s] (KL l n m b [] none) = some (.tup [.int .i64 (.ofNat s.length), .nili], KL ((id, some (.row 54 [.ptr id 0, .sl n 0 s.length (.opn 1), .bool disp] false false)) :: (n, some (.row 5 (zh s) true false)) :: (id, some (.row 54 [.ptr id 0, .nils, .bool disp] false false)) :: l) (n + 1) (mark (mark m id) id) b [] none) := by
 have c36 := @xA env O _ _ o36 (show env.funs.get 36 = some f36 from rfl) rfl
 have c72 := @z5 env O _ _ o72 (show env.funs.get 72 = some f72 from rfl) rfl
 have n1 : ¬ id = n := by omega
 have hm : ¬ (1 <<< id) % 2 ^ n = 0 := by
  rw [Nat.shiftLeft_eq, Nat.one_mul, Nat.mod_eq_of_lt (Nat.pow_lt_pow_right (by omega) hi)]
  exact Nat.ne_of_gt (Nat.two_pow_pos id)
 have q1 := fun m b => @Z4 l n m id _ b _ _ _ _ hw
 have q2 := fun m b => @Ym l n m id b _ _ _ _ hw
 have ap := @YK ((id, some (.row 54 [.ptr id 0, .nils, .bool disp] false false)) :: l) n (m ||| 1 <<< id) 5 (.str s) s (li s) hs (jZ _ s) (by omega)
 simp (disch := first | exact dis | fail) only [go_sem, seval, -reduceOfNat, -reduceNegSucc, c36, f36, c72, f72, hw, n1, Yq, decide_true, q1, q2, ap, Nat.zero_or, hm]
set_option maxRecDepth 100000
theorem zz0 {a : Nat} (h : a < 32) : binI .or .u8 (.ofNat 192) .u8 (.ofNat a) = some (.int .u8 (.ofNat (192 + a))) := by
 have : ∀ a, a < 32 → bits .or .u8 (.ofNat 192) (.ofNat a) = some (.ofNat (192 + a)) := by decide +kernel
 show (match bits .or .u8 (.ofNat 192) (.ofNat a) with | some n => some (AV.int .u8 n) | none => none) = _
 rw [this a h]
theorem Va {a : Nat} (h : a < 16) : binI .or .u8 (.ofNat 224) .u8 (.ofNat a) = some (.int .u8 (.ofNat (224 + a))) := by
 have : ∀ a, a < 16 → bits .or .u8 (.ofNat 224) (.ofNat a) = some (.ofNat (224 + a)) := by decide +kernel
 show (match bits .or .u8 (.ofNat 224) (.ofNat a) with | some n => some (AV.int .u8 n) | none => none) = _
 rw [this a h]
theorem zzX {a : Nat} (h : a < 8) : binI .or .u8 (.ofNat 240) .u8 (.ofNat a) = some (.int .u8 (.ofNat (240 + a))) := by
 have : ∀ a, a < 8 → bits .or .u8 (.ofNat 240) (.ofNat a) = some (.ofNat (240 + a)) := by decide +kernel
 show (match bits .or .u8 (.ofNat 240) (.ofNat a) with | some n => some (AV.int .u8 n) | none => none) = _
 rw [this a h]
theorem gk {a : Nat} (h : a < 64) : binI .or .u8 (.ofNat 128) .u8 (.ofNat a) = some (.int .u8 (.ofNat (128 + a))) := by
 have : ∀ a, a < 64 → bits .or .u8 (.ofNat 128) (.ofNat a) = some (.ofNat (128 + a)) := by decide +kernel
 show (match bits .or .u8 (.ofNat 128) (.ofNat a) with | some n => some (AV.int .u8 n) | none => none) = _
 rw [this a h]
theorem gH (a : Nat) : binI .shr .i32 (.ofNat a) .u64 (.ofNat 6) = some (.int .i32 (.ofNat (a / 64))) := by
 show some (AV.int .i32 (Int.fdiv (.ofNat a) (.ofNat 64))) = _
 cases a <;> rfl
theorem kv (a : Nat) : binI .shr .i32 (.ofNat a) .u64 (.ofNat 12) = some (.int .i32 (.ofNat (a / 4096))) := by
 show some (AV.int .i32 (Int.fdiv (.ofNat a) (.ofNat 4096))) = _
 cases a <;> rfl
theorem Kq (a : Nat) : binI .shr .i32 (.ofNat a) .u64 (.ofNat 18) = some (.int .i32 (.ofNat (a / 262144))) := by
 show some (AV.int .i32 (Int.fdiv (.ofNat a) (.ofNat 262144))) = _
 cases a <;> rfl
theorem wh (a : Nat) : xD .u8 (.ofNat a) = .ofNat (a % 256) := by
 show (bif Nat.blt a 256 then Int.ofNat a else IntKind.wrap .u8 (Int.ofNat a)) = _
 rw [wK]
 split
 ·rw [Nat.mod_eq_of_lt (by assumption)]
 ·have h1 : ((a : Nat) : Int) % (2 ^ IntKind.bits .u8 : Int) = ((a % 256 : Nat) : Int) := by
   show (a : Int) % 256 = _
   omega
  unfold IntKind.wrap
  simp only [show Int.ofNat a = (a : Int) from rfl, h1]
  rfl
theorem pd (a b : Nat) : zh [a, b] = [.int .u8 (.ofNat a), .int .u8 (.ofNat b)] := rfl
theorem j4 (a b c : Nat) : zh [a, b, c] = [.int .u8 (.ofNat a), .int .u8 (.ofNat b), .int .u8 (.ofNat c)] := rfl
theorem gD (a b c d : Nat) : zh [a, b, c, d] = [.int .u8 (.ofNat a), .int .u8 (.ofNat b), .int .u8 (.ofNat c), .int .u8 (.ofNat d)] := rfl
theorem mm64 (a : Nat) : a % 256 % 64 = a % 64 := by omega
theorem zzj {O : Orc} (o74 : O 74 = none) (o96 : O 96 = none) (l : List (Nat × Option AObj)) (n m j : Nat) (out : List Nat) (c : Nat) (hv : zr c = true) (ho : out.length < 1000000) (hj : j < n)
  (hb : getA l j = some (.row 5 (zh out) true false)) :
  (evW env O).call 74 [.sl j 0 out.length (.opn 1), .int .i32 (.ofNat c)] (KL l n m false [] none) = some (.sl (n + 1) 0 (out ++ encC c).length (.opn 1), KL ((n + 1, some (.row 5 (zh (out ++ encC c)) true false)) :: (j, none) :: (n, some (.row 5 (zh (encC c)) false false)) :: l) (n + 2) (mark m j) false [] none) := by
 have c74 := @xA env O _ _ o74 (show env.funs.get 74 = some f74 from rfl) rfl
 have c96 := @xA env O _ _ o96 (show env.funs.get 96 = some f96 from rfl) rfl
 have n2 : ¬ j = n := by omega
 obtain ⟨v1, v2⟩ := zf.1 hv
 have ap := fun (cs : List Nat) (h0 : cs ≠ []) (h4 : cs.length ≤ 4) => @Z9 ((n, some (.row 5 (zh cs) false false)) :: l) (n + 1) m 5 j false (.sl n 0 cs.length (.fix cs.length)) out cs (by rw [wA, if_neg n2]; exact hb) rfl h0 (qk (by rw [wA, if_pos rfl])) (by rw [List.length_append]; omega)
 rw [ql]
 by_cases h1 : c < 128
 ·rw [if_pos h1]
  have ap := ap [c] (by simp) (by simp)
  simp only [vX, List.length_cons, List.length_nil, Nat.zero_add] at ap ⊢
  simp (disch := first | exact dis | fail) only [go_sem, seval, -reduceOfNat, -reduceNegSucc, c74, f74, wE, qD, ap, v7]
 rw [if_neg h1]
 by_cases h2 : c < 2048
 ·rw [if_pos h2]
  have ap := ap [192 + c / 64, 128 + c % 64] (by simp) (by simp)
  have w1 := wh c
  simp only [pd, List.length_cons, List.length_nil, Nat.zero_add, Nat.reduceAdd] at ap ⊢
  simp (disch := first | exact dis | fail) only [go_sem, seval, -reduceOfNat, -reduceNegSucc, c74, f74, c96, f96, wE, w1, qD, ap, v7, gH, qI, zz0, gk, mm64]
 rw [if_neg h2]
 by_cases h3 : c < 65536
 ·rw [if_pos h3]
  have ap := ap [224 + c / 4096, 128 + c / 64 % 64, 128 + c % 64] (by simp) (by simp)
  have w1 := wh c
  have w2 := wh (c / 64)
  simp only [j4, List.length_cons, List.length_nil, Nat.zero_add, Nat.reduceAdd] at ap ⊢
  by_cases h4 : c < 55296
  ·simp (disch := first | exact dis | fail) only [go_sem, seval, -reduceOfNat, -reduceNegSucc, c74, f74, c96, f96, h4, wE, w1, w2, qD, ap, v7, gH, kv, qI, Va, gk, mm64]
  ·have h5 : 57343 < c := by omega
   simp (disch := first | exact dis | fail) only [go_sem, seval, -reduceOfNat, -reduceNegSucc, c74, f74, c96, f96, h4, h5, wE, w1, w2, qD, ap, v7, gH, kv, qI, Va, gk, mm64]
 rw [if_neg h3]
 have ap := ap [240 + c / 262144, 128 + c / 4096 % 64, 128 + c / 64 % 64, 128 + c % 64] (by simp) (by simp)
 have w1 := wh c
 have w2 := wh (c / 64)
 have w3 := wh (c / 4096)
 have h4 : ¬ c < 55296 := by omega
 have h5 : 57343 < c := by omega
 have h6 : 65535 < c := by omega
 simp only [gD, List.length_cons, List.length_nil, Nat.zero_add, Nat.reduceAdd] at ap ⊢
 simp (disch := first | exact dis | fail) only [go_sem, seval, -reduceOfNat, -reduceNegSucc, c74, f74, c96, f96, h4, h5, h6, wE, w1, w2, w3, qD, ap, v7, gH, kv, Kq, qI, zzX, gk, mm64]
theorem Gv {O : Orc} (o74 : O 74 = none) (o96 : O 96 = none) (l : List (Nat × Option AObj)) (n m : Nat) (c : Nat) (hv : zr c = true) :
  (evW env O).call 74 [.nils, .int .i32 (.ofNat c)] (KL l n m false [] none) = some (.sl (n + 1) 0 (encC c).length (.opn 1), KL ((n + 1, some (.row 5 (zh (encC c)) true false)) :: (n, some (.row 5 (zh (encC c)) false false)) :: l) (n + 2) m false [] none) := by
 have c74 := @xA env O _ _ o74 (show env.funs.get 74 = some f74 from rfl) rfl
 have c96 := @xA env O _ _ o96 (show env.funs.get 96 = some f96 from rfl) rfl
 obtain ⟨v1, v2⟩ := zf.1 hv
 have ap := fun (cs : List Nat) (h0 : cs ≠ []) (h4 : cs.length ≤ 4) => @YK ((n, some (.row 5 (zh cs) false false)) :: l) (n + 1) m 5 (.sl n 0 cs.length (.fix cs.length)) cs rfl h0 (qk (by rw [wA, if_pos rfl])) (by omega)
 rw [ql]
 by_cases h1 : c < 128
 ·rw [if_pos h1]
  have ap := ap [c] (by simp) (by simp)
  simp only [vX, List.length_cons, List.length_nil, Nat.zero_add] at ap ⊢
  simp (disch := first | exact dis | fail) only [go_sem, seval, -reduceOfNat, -reduceNegSucc, c74, f74, wE, qD, ap, v7]
 rw [if_neg h1]
 by_cases h2 : c < 2048
 ·rw [if_pos h2]
  have ap := ap [192 + c / 64, 128 + c % 64] (by simp) (by simp)
  have w1 := wh c
  simp only [pd, List.length_cons, List.length_nil, Nat.zero_add, Nat.reduceAdd] at ap ⊢
  simp (disch := first | exact dis | fail) only [go_sem, seval, -reduceOfNat, -reduceNegSucc, c74, f74, c96, f96, wE, w1, qD, ap, v7, gH, qI, zz0, gk, mm64]
 rw [if_neg h2]
 by_cases h3 : c < 65536
 ·rw [if_pos h3]
  have ap := ap [224 + c / 4096, 128 + c / 64 % 64, 128 + c % 64] (by simp) (by simp)
  have w1 := wh c
  have w2 := wh (c / 64)
  simp only [j4, List.length_cons, List.length_nil, Nat.zero_add, Nat.reduceAdd] at ap ⊢
  by_cases h4 : c < 55296
  ·simp (disch := first | exact dis | fail) only [go_sem, seval, -reduceOfNat, -reduceNegSucc, c74, f74, c96, f96, h4, wE, w1, w2, qD, ap, v7, gH, kv, qI, Va, gk, mm64]
  ·have h5 : 57343 < c := by omega
   simp (disch := first | exact dis | fail) only [go_sem, seval, -reduceOfNat, -reduceNegSucc, c74, f74, c96, f96, h4, h5, wE, w1, w2, qD, ap, v7, gH, kv, qI, Va, gk, mm64]
 rw [if_neg h3]
 have ap := ap [240 + c / 262144, 128 + c / 4096 % 64, 128 + c / 64 % 64, 128 + c % 64] (by simp) (by simp)
 have w1 := wh c
 have w2 := wh (c / 64)
 have w3 := wh (c / 4096)
 have h4 : ¬ c < 55296 := by omega
 have h5 : 57343 < c := by omega
 have h6 : 65535 < c := by omega
 simp only [gD, List.length_cons, List.length_nil, Nat.zero_add, Nat.reduceAdd] at ap ⊢
 simp (disch := first | exact dis | fail) only [go_sem, seval, -reduceOfNat, -reduceNegSucc, c74, f74, c96, f96, h4, h5, h6, wE, w1, w2, w3, qD, ap, v7, gH, kv, Kq, qI, zzX, gk, mm64]
set_option maxRecDepth 100000
theorem LR {O : Orc} (o38 : O 38 = none) (o72 : O 72 = none) (o74 : O 74 = none) (o96 : O 96 = none) (l : List (Nat × Option AObj)) (n m id j : Nat) (b : Bool) (out : List Nat) (disp : Bool) (c : Nat) (hv : zr c = true) (ho : out.length < 1000000) (ne : id ≠ j) (hi : id < n) (hj : j < n)
  (hw : getA l id = some (.row 54 [.ptr id 0, .sl j 0 out.length (.opn 1), .bool disp] false false)) (hb : getA l j = some (.row 5 (zh out) true false)) :
  (evW env O).call 38 [.ptr id 0, .int .i32 (.ofNat c)] (KL l n m b [] none) = some (.tup [.int .i64 (.ofNat ((out ++ encC c).length - out.length)), .nili], KL ((id, some (.row 54 [.ptr id 0, .sl (n + 1) 0 (out ++ encC c).length (.opn 1), .bool disp] false false)) :: (n + 1, some (.row 5 (zh (out ++ encC c)) true false)) :: (j, none) :: (n, some (.row 5 (zh (encC c)) false false)) :: l) (n + 2) (mark (mark m j) id) b [] none) := by
 have c38 := @xA env O _ _ o38 (show env.funs.get 38 = some f38 from rfl) rfl
 have c72 := @z5 env O _ _ o72 (show env.funs.get 72 = some f72 from rfl) rfl
 have ne' : ¬ j = id := fun e => ne e.symm
 have n1 : ¬ id = n := by omega
 have n2 : ¬ j = n := by omega
 have n3 : ¬ id = n + 1 := by omega
 have hl4 := (wD c).2
 have ar := zzj o74 o96 l n m j out c hv ho hj hb
 have hle : out.length ≤ (out ++ encC c).length := by rw [List.length_append]; omega
 have hlt : (out ++ encC c).length < 2000000 := by rw [List.length_append]; omega
 revert ar hle hlt
 generalize out ++ encC c = o2
 intro ar hle hlt
 simp (disch := first | exact dis | fail) only [go_sem, seval, -reduceOfNat, -reduceNegSucc, c38, f38, c72, f72, hw, ne, n1, n3, Yj, Yx, ar, Nat.zero_mod, decide_true]
theorem HQ {O : Orc} (o36 : O 36 = none) (o72 : O 72 = none) (l : List (Nat × Option AObj)) (n m id j : Nat) (b : Bool) (k : Nat) (disp : Bool) (ne : id ≠ j) (hi : id < n) (hj : j < n)
  (hw : getA l id = some (.row 54 [.ptr id 0, .sl j 0 k (.opn 1), .bool disp] false false)) :
  (evW env O).call 36 [.ptr id 0, .str []] (KL l n m b [] none) = some (.tup [.int .i64 (.ofNat 0), .nili], KL ((id, some (.row 54 [.ptr id 0, .sl j 0 k (.opn 1), .bool disp] false false)) :: l) n (mark m id) b [] none) := by
 have c36 := @xA env O _ _ o36 (show env.funs.get 36 = some f36 from rfl) rfl
 have c72 := @z5 env O _ _ o72 (show env.funs.get 72 = some f72 from rfl) rfl
 have ap : ∀ s, appV s 5 1 1 (.sl j 0 k (.opn 1)) (.str []) = some (.sl j 0 k (.opn 1), s) := fun _ => rfl
 simp (disch := first | exact dis | fail) only [go_sem, seval, -reduceOfNat, -reduceNegSucc, c36, f36, c72, f72, hw, Yj, Yx, ap, Nat.zero_mod, decide_true]
theorem H5 {O : Orc} (o38 : O 38 = none) (o72 : O 72 = none) (o74 : O 74 = none) (o96 : O 96 = none) (l : List (Nat × Option AObj)) (n m id : Nat) (b : Bool) (disp : Bool) (c : Nat) (hv : zr c = true) (hi : id < n)
  (hw : getA l id = some (.row 54 [.nilp, .nils, .bool disp] false false)) :
  (evW env O).call 38 [.ptr id 0, .int .i32 (.ofNat c)] (KL l n m b [] none) = some (.tup [.int .i64 (.ofNat (encC c).length), .nili], KL ((id, some (.row 54 [.ptr id 0, .sl (n + 1) 0 (encC c).length (.opn 1), .bool disp] false false)) :: (n + 1, some (.row 5 (zh (encC c)) true false)) :: (n, some (.row 5 (zh (encC c)) false false)) :: (id, some (.row 54 [.ptr id 0, .nils, .bool disp] false false)) :: l) (n + 2) (mark (mark m id) id) b [] none) := by
 have c38 := @xA env O _ _ o38 (show env.funs.get 38 = some f38 from rfl) rfl
 have c72 := @z5 env O _ _ o72 (show env.funs.get 72 = some f72 from rfl) rfl
 have n1 : ¬ id = n := by omega
 have n3 : ¬ id = n + 1 := by omega
 have hm : ¬ (1 <<< id) % 2 ^ n = 0 := by
  rw [Nat.shiftLeft_eq, Nat.one_mul, Nat.mod_eq_of_lt (Nat.pow_lt_pow_right (by omega) hi)]
  exact Nat.ne_of_gt (Nat.two_pow_pos id)
 have q1 := fun m b => @Z4 l n m id _ b _ _ _ _ hw
 have q2 := fun m b => @Ym l n m id b _ _ _ _ hw
 have hl4 := (wD c).2
 have ar := Gv o74 o96 ((id, some (.row 54 [.ptr id 0, .nils, .bool disp] false false)) :: l) n (m ||| 1 <<< id) c hv
 revert ar hl4
 generalize encC c = o2
 intro hl4 ar
 simp (disch := first | exact dis | fail) only [go_sem, seval, -reduceOfNat, -reduceNegSucc, c38, f38, c72, f72, hw, n1, n3, Yq, decide_true, q1, q2, ar, Nat.zero_or, hm]
set_option maxRecDepth 100000
def rgF : Nat → List Nat → List Nat
 | 0, _ => []
 | _ + 1, [] => []
 | k + 1, x :: r => (decL (x :: r)).1 :: rgF k ((x :: r).drop (decL (x :: r)).2)
def rgN (t : List Nat) : List Nat := rgF t.length t
theorem KC : ∀ {k m : Nat} {t : List Nat}, t.length ≤ k → t.length ≤ m → rgF k t = rgF m t
 | 0, 0, _, _, _ => rfl
 | 0, _ + 1, [], _, _ => rfl
 | 0, _ + 1, x :: r, h, _ => by simp at h
 | _ + 1, 0, [], _, _ => rfl
 | _ + 1, 0, x :: r, _, h => by simp at h
 | _ + 1, _ + 1, [], _, _ => rfl
 | k + 1, m + 1, x :: r, h, h' => by
  have hs := ww (l := x :: r) (by simp)
  simp only [rgF]
  simp only [List.length_cons] at h h'
  rw [KC (k := k) (m := m) (by simp only [List.length_drop, List.length_cons]; omega) (by simp only [List.length_drop, List.length_cons]; omega)]
theorem YI : rgN [] = [] := rfl
theorem pf (x : Nat) (r : List Nat) : rgN (x :: r) = (decL (x :: r)).1 :: rgN ((x :: r).drop (decL (x :: r)).2) := by
 have hs := ww (l := x :: r) (by simp)
 unfold rgN
 rw [List.length_cons, rgF]
 congr 1
 exact KC (by simp only [List.length_drop, List.length_cons]; omega) (Nat.le_refl _)
theorem QH : ∀ {b : List Nat} {k i : Nat} {acc l : List (Nat × Nat)}, allF b k i acc = .inl l → l.map (·.1) = acc.map (·.1) ++ rgN (b.drop i)
 | b, 0, i, acc, l, h => by simp [allF] at h
 | b, k + 1, i, acc, l, h => by
  rw [allF] at h
  split at h
  ·rename_i hle
   cases h
   rw [List.drop_eq_nil_of_le hle, YI, List.append_nil]
  ·rename_i hle
   split at h
   ·cases h
   ·rename_i p hp
    have := QH h
    rw [this]
    have hd : decL (b.drop i) = p := by
     unfold decR at hp
     split at hp
     ·cases hp
     ·exact Option.some.inj hp
    cases hc : b.drop i with
    | nil => exact absurd (List.drop_eq_nil_iff.1 hc) hle
    | cons x r =>
     rw [pf, ← hc, hd, List.drop_drop]
     simp
theorem U9 {b cs : List Nat} (h : yW b = some cs) : cs = rgN b := by
 unfold yW at h
 split at h
 ·rename_i l hl
  cases h
  have := QH hl
  simpa using this
 ·cases h
def qs (cs : List Nat) : List Nat := cs.flatMap zZ
theorem jW (c : Nat) (r : List Nat) : qs (c :: r) = zZ c ++ qs r := rfl
def y7 (disp : Bool) (t : List Nat) : List Nat := if disp then t else 34 :: (qs (rgN t) ++ [34])
theorem pq (c : Nat) : zZ c ≠ [] := by
 have := wD c
 unfold zZ
 split
 ·simp
 ·split
  ·simp
  ·split
   ·simp
   ·split
    ·simp
    ·intro h; rw [h] at this; simp at this
theorem qV (c : Nat) : (zZ c).length ≤ 5 := by
 have := wD c
 have := vv c
 unfold zZ
 split
 ·simp; omega
 ·split
  ·simp
  ·split
   ·simp
   ·split
    ·simp; omega
    ·omega
theorem KP {o o2 : AObj} {os : List (Option AObj)} (hg : yO o = false) (hg2 : yO o2 = false) : ∀ i, (3 : Nat).testBit i = true → ∃ o', getO (some o :: some o2 :: os) i = some o' ∧ yO o' = false := fun i h => by
 match i with
 | 0 => exact ⟨o, rfl, hg⟩
 | 1 => exact ⟨o2, rfl, hg2⟩
 | i + 2 =>
  have : (3 : Nat).testBit (i + 2) = false := by
   rw [Nat.testBit_succ, Nat.testBit_succ]; simp
  rw [this] at h; cases h
theorem Is.ren0 {C : Cx} {E : Env} {O : Orc} {c : St} {M : Nat} (k : Is C E O c M) {fr : Fr} {md : Bool} {tw tb : Nat} {out : List Nat} {disp : Bool} :
  Gc C fr (H [some (wrow tw 0 1 out.length disp), some (brow tb out)] 0 md) fr (KL [(2, some (brow tb out)), (1, none), (0, some (wrow tw 0 2 out.length disp)), (0, some (wrow tw 0 1 out.length disp)), (1, some (brow tb out))] 3 (mark (mark 0 0) 1) md [] none) := by
 rw [H_eq]
 exact k.ren (id := 0) (j := 1) (n := 2) (by omega) (by omega) (by omega) rfl rfl
def encT (t : List Nat) : List AV := [.str t]
theorem Xm : ∀ x y, encT x = encT y → x = y := uo
def PreT (t : List Nat) (out : List Nat) (disp : Bool) : Prop := t.length < 1000000 ∧ out.length + (y7 disp t).length < 1000000
noncomputable def gTxt : List AV → St → Option (AV × St) := orcW 54 5 encT PreT (fun t disp => y7 disp t)
noncomputable def tst (t : List Nat) (i : Nat) (out : List Nat) : St := H [some (wrow 54 0 2 out.length false), none, some (brow 5 out), some (.siter t i)] 3 true
theorem zzr {P : Program} {w0 : World} (B : Bx P w0) {O : Orc} (hO : OrcOk P w0 O) (o36 : O 36 = none) (o41 : O 41 = none) (o72 : O 72 = none) (h75 : O 75 = some gQuo) (t out0 : List Nat) (disp : Bool) (hp : PreT t out0 disp) :
  SC P w0 39 [.ptr 0 0, .str t] (H [some (wrow 54 0 1 out0.length disp), some (brow 5 out0)] 0 true) (.tup []) (H [some (wrow 54 0 2 (out0 ++ y7 disp t).length disp), none, some (brow 5 (out0 ++ y7 disp t))] 3 true) := by
 obtain ⟨p1, p2⟩ := hp
 refine Is.scK hO B.mixed B.glob B.env 3 (show env.funs.get 39 = some f39 from rfl) (Nat.le_of_ble_eq_true rfl) (KP rfl rfl) fun C k => ?_
 unfold f39
 simp only [Ko, Kd]
 cases disp with
 | true =>
  simp only [y7, if_true] at p2 ⊢
  by_cases h0 : t = []
  ·subst h0
   rw [List.append_nil]
   refine kX (k.ren0) ?_
   have hws := fun l nx m => HQ o36 o72 l nx m 0 2 true out0.length true (by omega)
   refine k.eval (by simp (disch := first | exact dis | fail) only [go_sem, seval, -reduceOfNat, -reduceNegSucc, wrow, brow, hws]; exact rfl) ?_
   try simp only [za, zg, Cut, if_true]
   apply zP [2] (Or.inr rfl)
   iterate 5 (simp (disch := first | exact dis | fail) only [go_sem, seval, -reduceOfNat, -reduceNegSucc, wrow, brow] <;> exact rfl)
  ·have hws := fun l nx m => gZ o36 o72 l nx m 0 1 true out0 true t h0 (by omega) p1 (by omega)
   refine k.eval (by simp (disch := first | exact dis | fail) only [go_sem, seval, -reduceOfNat, -reduceNegSucc, wrow, brow, hws]; exact rfl) ?_
   try simp only [za, zg, Cut, if_true]
   apply zP [2] (Or.inr rfl)
   iterate 5 (simp (disch := first | exact dis | fail) only [go_sem, seval, -reduceOfNat, -reduceNegSucc, wrow, brow] <;> exact rfl)
 | false =>
  have e : y7 false t = 34 :: (qs (rgN t) ++ [34]) := rfl
  rw [e] at p2 ⊢
  simp only [List.length_cons, List.length_append, List.length_nil] at p2
  have hwb1 := fun l nx m => ku o41 o72 l nx m 0 1 true out0 false 34 (by omega) (by omega) (by omega)
  refine ze (k.eval (by simp (disch := first | exact dis | fail) only [go_sem, seval, -reduceOfNat, -reduceNegSucc, wrow, brow]; exact rfl) ?_)
  simp only [za]
  refine ze (k.eval (by simp (disch := first | exact dis | fail) only [go_sem, seval, -reduceOfNat, -reduceNegSucc, hwb1]; exact rfl) ?_)
  simp only [za]
  refine ze ?_
  refine ze (k.eval (by simp (disch := first | exact dis | fail) only [go_sem, seval, -reduceOfNat, -reduceNegSucc, hH]; exact rfl) ?_)
  simp only [za]
  refine zw (zI (k.gcL [3, 4] [20, 0] true (fr1 := ⟨tmL [(20, .ptr 3 0), (0, .ptr 0 0)], []⟩) (s1 := tst t 0 (out0 ++ [34])) (by simp (disch := first | exact dis | fail) only [go_sem, seval, -reduceOfNat, -reduceNegSucc, tst, wrow, brow]) ?_))
  refine zV (fun x : Nat × List Nat => t.length - x.1) (fun x => ⟨tmL [(20, .ptr 3 0), (0, .ptr 0 0)], []⟩) (fun x => tst t x.1 x.2) (fun x => x.1 ≤ t.length ∧ x.2 ++ qs (rgN (t.drop x.1)) = out0 ++ [34] ++ qs (rgN t)) (fun x hx => ?_) (0, out0 ++ [34]) ⟨Nat.zero_le _, rfl⟩
  obtain ⟨i, out⟩ := x
  simp only at hx ⊢
  obtain ⟨g1, g2⟩ := hx
  have glen := congrArg List.length g2
  simp only [List.length_append, List.length_cons, List.length_nil] at glen
  cases hd : t.drop i with
  | nil =>
   rw [hd, YI] at g2
   rw [show qs [] = [] from rfl, List.append_nil] at g2
   have hns := fun l n m hg => @YM l n m 3 i true t hg hd
   have hwb2 := fun l nx m => ku o41 o72 l nx m 0 2 true out false 34 (by omega) (by omega) (by omega)
   have e2 : out0 ++ 34 :: (qs (rgN t) ++ [34]) = out ++ [34] := by rw [g2]; simp
   rw [e2]
   refine k.eval (by simp (disch := first | exact dis | fail) only [go_sem, seval, -reduceOfNat, -reduceNegSucc, tst, wrow, brow, hns]; exact rfl) ?_
   try simp only [za, zg]
   refine k.eval (by simp (disch := first | exact dis | fail) only [go_sem, seval, -reduceOfNat, -reduceNegSucc, hwb2]; exact rfl) ?_
   try simp only [za, zg, Cut, if_true]
   apply zP [5] (Or.inl rfl)
   iterate 5 (simp (disch := first | exact dis | fail) only [go_sem, seval, -reduceOfNat, -reduceNegSucc, wrow, brow] <;> exact rfl)
  | cons x r =>
   have hs := ww (l := x :: r) (by simp)
   have hlen := congrArg List.length hd
   simp only [List.length_drop, List.length_cons] at hlen hs
   have hns := fun l n m hg => @g9 l n m 3 i true t x r hg hd
   have hd2 : t.drop (i + (decL (x :: r)).2) = (x :: r).drop (decL (x :: r)).2 := by rw [← List.drop_drop, hd]
   rw [hd, pf, jW, ← hd2] at g2
   have glen := congrArg List.length g2
   simp only [List.length_append, List.length_cons, List.length_nil] at glen
   revert hs hns g2 glen hd2
   generalize decL (x :: r) = dc
   obtain ⟨c, nn⟩ := dc
   simp only
   intro g2 hs hns hd2 glen
   have hs3 := hs.2.2
   have hq := X0 h75 hs3
   have hql := qV c
   have hws := fun l nx m => gZ o36 o72 l nx m 0 2 true out false (zZ c) (pq c) (by omega) (by omega)
   refine k.eval (by simp (disch := first | exact dis | fail) only [go_sem, seval, -reduceOfNat, -reduceNegSucc, tst, wrow, brow, hns, hq, hws]; exact rfl) ?_
   try simp only [za]
   refine ⟨(i + nn, out ++ zZ c), ⟨by simp only; omega, by simp only; rw [List.append_assoc]; exact g2⟩, by simp only; omega, ?_⟩
   refine k.gcs (keep := [4, 3]) (live := [20, 0]) (md := true) ?_
   simp (disch := first | exact dis | fail) only [go_sem, seval, -reduceOfNat, -reduceNegSucc, tst, wrow, brow]
set_option maxRecDepth 100000
noncomputable def tst0 (t : List Nat) (i : Nat) (out : List Nat) : St := H [some (wrow 54 0 1 out.length false), some (brow 5 out), some (.siter t i)] 1 true
def zz2 (t : List Nat) (disp : Bool) : Prop := t.length < 1000000 ∧ (y7 disp t).length < 1000000 ∧ y7 disp t ≠ []
noncomputable def K0 : List AV → St → Option (AV × St) := jM 54 5 encT zz2 (fun t disp => y7 disp t)
theorem HB {P : Program} {w0 : World} (B : Bx P w0) {O : Orc} (hO : OrcOk P w0 O) (o36 : O 36 = none) (o41 : O 41 = none) (o72 : O 72 = none) (h75 : O 75 = some gQuo) (t : List Nat) (disp : Bool) (hp : zz2 t disp) :
  SC P w0 39 [.ptr 0 0, .str t] (H [some (xE 54 disp)] 0 true) (.tup []) (H [some (wrow 54 0 1 (y7 disp t).length disp), some (brow 5 (y7 disp t))] 1 true) := by
 obtain ⟨p1, p2, p3⟩ := hp
 refine Is.scK hO B.mixed B.glob B.env 1 (show env.funs.get 39 = some f39 from rfl) (Nat.le_of_ble_eq_true rfl) (zz9 rfl) fun C k => ?_
 unfold f39
 simp only [Ko, Kd]
 cases disp with
 | true =>
  simp only [y7, if_true] at p2 p3 ⊢
  have hws := fun l nx m => Xn o36 o72 l nx m 0 true true t p3 p1
  refine k.eval (by simp (disch := first | exact dis | fail) only [go_sem, seval, -reduceOfNat, -reduceNegSucc, xE, hws]; exact rfl) ?_
  try simp only [za, zg, Cut, if_true]
  apply zP [1] (Or.inr rfl)
  iterate 5 (simp (disch := first | exact dis | fail) only [go_sem, seval, -reduceOfNat, -reduceNegSucc, wrow, brow] <;> exact rfl)
 | false =>
  have e : y7 false t = 34 :: (qs (rgN t) ++ [34]) := rfl
  rw [e] at p2 ⊢
  simp only [List.length_cons, List.length_append, List.length_nil] at p2
  generalize hT : 34 :: (qs (rgN t) ++ [34]) = T
  have hwb1 := fun l nx m => Xe o41 o72 l nx m 0 true false 34 (by omega)
  refine ze (k.eval (by simp (disch := first | exact dis | fail) only [go_sem, seval, -reduceOfNat, -reduceNegSucc, xE]; exact rfl) ?_)
  simp only [za]
  refine ze (k.eval (by simp (disch := first | exact dis | fail) only [go_sem, seval, -reduceOfNat, -reduceNegSucc, hwb1]; exact rfl) ?_)
  simp only [za]
  refine ze ?_
  refine ze (k.eval (by simp (disch := first | exact dis | fail) only [go_sem, seval, -reduceOfNat, -reduceNegSucc, hH]; exact rfl) ?_)
  simp only [za]
  refine zw (zI (k.gcL [2, 3] [20, 0] true (fr1 := ⟨tmL [(20, .ptr 2 0), (0, .ptr 0 0)], []⟩) (s1 := tst0 t 0 [34]) (by simp (disch := first | exact dis | fail) only [go_sem, seval, -reduceOfNat, -reduceNegSucc, tst0, wrow, brow]) ?_))
  refine zV (fun x : Nat × List Nat => t.length - x.1) (fun x => ⟨tmL [(20, .ptr 2 0), (0, .ptr 0 0)], []⟩) (fun x => tst0 t x.1 x.2) (fun x => x.1 ≤ t.length ∧ x.2 ++ qs (rgN (t.drop x.1)) = 34 :: qs (rgN t)) (fun x hx => ?_) (0, [34]) ⟨Nat.zero_le _, rfl⟩
  obtain ⟨i, out⟩ := x
  simp only at hx ⊢
  obtain ⟨g1, g2⟩ := hx
  have glen := congrArg List.length g2
  simp only [List.length_append, List.length_cons] at glen
  cases hd : t.drop i with
  | nil =>
   rw [hd, YI] at g2
   rw [show qs [] = [] from rfl, List.append_nil] at g2
   have hns := fun l n m hg => @YM l n m 2 i true t hg hd
   have hwb2 := fun l nx m => ku o41 o72 l nx m 0 1 true out false 34 (by omega) (by omega) (by omega)
   have e2 : T = out ++ [34] := by rw [← hT, g2]; simp
   rw [e2]
   refine k.eval (by simp (disch := first | exact dis | fail) only [go_sem, seval, -reduceOfNat, -reduceNegSucc, tst0, wrow, brow, hns]; exact rfl) ?_
   try simp only [za, zg]
   refine k.eval (by simp (disch := first | exact dis | fail) only [go_sem, seval, -reduceOfNat, -reduceNegSucc, hwb2]; exact rfl) ?_
   try simp only [za, zg, Cut, if_true]
   apply zP [4] (Or.inl rfl)
   iterate 5 (simp (disch := first | exact dis | fail) only [go_sem, seval, -reduceOfNat, -reduceNegSucc, wrow, brow] <;> exact rfl)
  | cons x r =>
   have hs := ww (l := x :: r) (by simp)
   have hlen := congrArg List.length hd
   simp only [List.length_drop, List.length_cons] at hlen hs
   have hns := fun l n m hg => @g9 l n m 2 i true t x r hg hd
   have hd2 : t.drop (i + (decL (x :: r)).2) = (x :: r).drop (decL (x :: r)).2 := by rw [← List.drop_drop, hd]
   rw [hd, pf, jW, ← hd2] at g2
   have glen := congrArg List.length g2
   simp only [List.length_append, List.length_cons] at glen
   revert hs hns g2 glen hd2
   generalize decL (x :: r) = dc
   obtain ⟨c, nn⟩ := dc
   simp only
   intro g2 hs hns hd2 glen
   have hs3 := hs.2.2
   have hq := X0 h75 hs3
   have hql := qV c
   have hws := fun l nx m => gZ o36 o72 l nx m 0 1 true out false (zZ c) (pq c) (by omega) (by omega)
   refine k.eval (by simp (disch := first | exact dis | fail) only [go_sem, seval, -reduceOfNat, -reduceNegSucc, tst0, wrow, brow, hns, hq, hws]; exact rfl) ?_
   try simp only [za]
   refine ⟨(i + nn, out ++ zZ c), ⟨by simp only; omega, by simp only; rw [List.append_assoc]; exact g2⟩, by simp only; omega, ?_⟩
   refine k.gcs (keep := [3, 2]) (live := [20, 0]) (md := true) ?_
   simp (disch := first | exact dis | fail) only [go_sem, seval, -reduceOfNat, -reduceNegSucc, tst0, wrow, brow]
set_option maxRecDepth 100000
def lm (b : Nat) : DT := .mk (.ofNat 2) (.ofNat 0) (wd b) [] (.ofNat 0)
def yK (t : List Nat) : List DT := t.map lm
def vR (b : Nat) : List AV := [.int .i64 (.ofNat 2), .int .i64 (.ofNat 0), .str (wd b), .nils, .int .i64 (.ofNat 0)]
def vm (l : List Nat) : List AV := xf vR l
theorem qZ (l : List Nat) : zo (vm l) = true := wP (fun p => by simp only [vR, zD, yJ, qr, jz, zJ, Bool.and_self]) l
theorem UH (l : List Nat) (p : Nat) : vm (l ++ [p]) = vm l ++ vR p := by unfold vm; rw [x1, uM]
theorem uy (p : Nat) (l : List Nat) : vm (p :: l) = vR p ++ vm l := rfl
theorem jA : vm [] = [] := rfl
theorem pM : ∀ l : List Nat, wkL (vm l) = zl (yK l)
 | [] => by simp only [jA, wkL, yK, List.map_nil, xx]
 | b :: r => by
  have := pM r
  simp only [yK] at this
  simp only [uy, vR, List.cons_append, List.nil_append, wkL, wkV, yK, List.map_cons, zM, lm, zb, xx, this, List.length_nil]
def accM (acc : List Nat) : AV := match acc with
 | [] => .nils
 | t :: r => .gr 0 5 (t :: r).length (vm (t :: r))
def qX (acc : List Nat) : List (Option AObj) := match acc with
 | [] => []
 | t :: r => [some (.app 24 (vm (t :: r)))]
def gJ (t : List Nat) : AV := .lst (yK t).length false (zl (yK t))
noncomputable def Za : List AV → St → Option (AV × St) := orc0 encS PreB gJ
theorem ZP {O : Orc} {f : Nat} (h : O f = some Za) {l : List Nat} (hb : Byt l) (h2 : l.length < 1000000) (s : St) : (evW env O).call f [.str l] s = some (gJ l, s) := by
 rw [zq h, Za, zT uo s l ⟨hb, h2⟩ rfl]
theorem Qa (t : List Nat) : zy (gJ t) = true := by simp only [gJ, yz]
theorem zzB {P : Program} {w0 : World} (B : Bx P w0) {O : Orc} (hO : OrcOk P w0 O) (h76 : O 76 = some gF) (t : List Nat) (hb : Byt t) (hlen : t.length < 1000000) :
  SC P w0 42 (encS t) (H [] 0 true) (gJ t) (H [] 0 true) := by
 refine Is.sc hO B.mixed B.glob B.env 0 (show env.funs.get 42 = some f42 from rfl) (Nat.le_of_ble_eq_true rfl) z8 fun C k => ?_
 unfold f42
 simp only [Ko, Ki]
 refine ze (k.eval (by simp (disch := first | exact dis | fail) only [go_sem, seval, -reduceOfNat, -reduceNegSucc, encS]; exact rfl) ?_)
 simp only [za]
 refine ze (k.eval (by simp (disch := first | exact dis | fail) only [go_sem, seval, -reduceOfNat, -reduceNegSucc]; exact rfl) ?_)
 simp only [za]
 refine wH ⟨tmL [(3, accM t)], []⟩ (H (qX t) 0 true) ?_ ?_
 ·
  refine ze (k.eval (by simp (disch := first | exact dis | fail) only [go_sem, seval, -reduceOfNat, -reduceNegSucc]; exact rfl) ?_)
  simp only [za]
  refine zw (zI (k.gcL [] [7, 6, 3, 0] true (fr1 := ⟨tmL [(7, .int .i64 (.ofNat 0)), (6, .int .i64 (.ofNat t.length)), (3, accM []), (0, .str t)], []⟩) (s1 := H (qX []) 0 true) (by simp (disch := first | exact dis | fail) only [go_sem, seval, -reduceOfNat, -reduceNegSucc, accM, qX]) ?_))
  refine zV (fun x : Nat × List Nat => t.length - x.1) (fun x => ⟨tmL [(7, .int .i64 (.ofNat x.1)), (6, .int .i64 (.ofNat t.length)), (3, accM x.2), (0, .str t)], []⟩) (fun x => H (qX x.2) 0 true) (fun x => x.1 ≤ t.length ∧ x.2 = t.take x.1) (fun x hx => ?_) (0, []) ⟨Nat.zero_le _, rfl⟩
  obtain ⟨i, acc⟩ := x
  obtain ⟨g1, g2⟩ := hx
  simp only at g1 g2 ⊢
  rcases zS t i with ⟨hi, hd⟩ | ⟨c, hi, hd⟩
  ·have hlt : ¬ i < t.length := by omega
   rw [List.take_of_length_le hi] at g2
   subst g2
   cases acc with
   | nil =>
    refine k.eval (by simp (disch := first | exact dis | fail) only [go_sem, seval, -reduceOfNat, -reduceNegSucc, accM, qX]; exact rfl) ?_
    try simp only [za, zg, Cut]
    refine k.gcs (keep := []) (live := [3]) (md := true) ?_
    simp (disch := first | exact dis | fail) only [go_sem, seval, -reduceOfNat, -reduceNegSucc, accM, qX]
   | cons a0 ar =>
    have hp1 := qZ (a0 :: ar)
    simp only [List.length_cons] at hlt
    refine k.eval (by simp (disch := first | exact dis | fail) only [go_sem, seval, -reduceOfNat, -reduceNegSucc, accM, qX, hlt]; exact rfl) ?_
    try simp only [za, zg, Cut]
    refine k.gcs (keep := [0]) (live := [3]) (md := true) ?_
    simp (disch := first | exact dis | fail) only [go_sem, seval, -reduceOfNat, -reduceNegSucc, accM, qX, hp1]
  ·have hc : c < 256 := hb c (List.mem_of_mem_drop (show c ∈ t.drop i by rw [hd]; simp))
   have hit := pP h76 hc
   have hgs : getS t i = some c := by rw [jU, ← List.head?_drop, hd]; rfl
   have hnext : acc ++ [c] = t.take (i + 1) := by
    rw [List.take_add, hd, g2]; simp
   have hacc : acc.length = i := by rw [g2, List.length_take]; omega
   cases acc with
   | nil =>
    refine k.eval (by simp (disch := first | exact dis | fail) only [go_sem, seval, -reduceOfNat, -reduceNegSucc, accM, qX, hi, hgs, hit]; exact rfl) ?_
    try simp only [za]
    refine ⟨(i + 1, [] ++ [c]), ⟨by simp only; omega, hnext⟩, by simp only; omega, ?_⟩
    refine k.gcs (keep := [0]) (live := [7, 6, 3, 0]) (md := true) ?_
    simp (disch := first | exact dis | fail) only [go_sem, seval, -reduceOfNat, -reduceNegSucc, accM, qX, uy, jA, vR]
   | cons a0 ar =>
    have hp1 := qZ (a0 :: ar)
    simp only [List.length_cons] at hacc
    refine k.eval (by simp (disch := first | exact dis | fail) only [go_sem, seval, -reduceOfNat, -reduceNegSucc, accM, qX, hi, hgs, hit]; exact rfl) ?_
    try simp only [za]
    refine ⟨(i + 1, (a0 :: ar) ++ [c]), ⟨by simp only; omega, hnext⟩, by simp only; omega, ?_⟩
    refine k.gcs (keep := [1]) (live := [7, 6, 3, 0]) (md := true) ?_
    simp only [List.cons_append, accM, qX, uy, UH, vR, List.nil_append, List.length_append, List.length_cons, List.length_nil]
    simp (disch := first | exact dis | fail) only [go_sem, seval, -reduceOfNat, -reduceNegSucc, qZ]
 ·have hw := pM t
  have hln : (yK t).length = t.length := List.length_map _
  unfold gJ
  revert hw hln
  generalize zl (yK t) = cs
  generalize (yK t).length = nn
  intro hw hln
  subst hln
  subst hw
  cases t with
  | nil =>
   refine k.eval (by simp (disch := first | exact dis | fail) only [go_sem, seval, -reduceOfNat, -reduceNegSucc, accM, qX]; exact rfl) ?_
   try simp only [za, zg, Cut, if_true]
   apply zd (Or.inr rfl)
   iterate 5 (simp (disch := first | exact dis | fail) only [go_sem, seval, -reduceOfNat, -reduceNegSucc, jA] <;> exact rfl)
  | cons a0 ar =>
   have hp1 := qZ (a0 :: ar)
   refine k.eval (by simp (disch := first | exact dis | fail) only [go_sem, seval, -reduceOfNat, -reduceNegSucc, accM, qX]; exact rfl) ?_
   try simp only [za, zg, Cut, if_true]
   apply zd (Or.inr rfl)
   iterate 5 (simp (disch := first | exact dis | fail) only [go_sem, seval, -reduceOfNat, -reduceNegSucc] <;> exact rfl)
set_option maxRecDepth 100000
def wB (f : DT → List Nat) : List DT → List Nat
 | [] => []
 | d :: r => 32 :: (f d ++ wB f r)
def allT (f : DT → List Nat) : List DT → List Nat
 | [] => []
 | d :: r => f d ++ wB f r
def l7 (disp : Bool) (n : Int) : List Nat := if disp then encC n.toNat else 35 :: 92 :: x7 n.toNat
def endT (f : DT → List Nat) (e : DT) : List Nat := if yV e = .ofNat 0 then [] else [32, 46, 32] ++ f e
noncomputable def txK (disp : Bool) (f : DT → List Nat) (d : DT) (k : Int) : List Nat :=
 if k = .ofNat 0 then [40, 41]
 else if k = .ofNat 1 then [35, if numD d = .ofNat 1 then 116 else 102]
 else if k = .ofNat 2 ∨ k = .ofNat 5 then yr d
 else if k = .ofNat 3 then l7 disp (numD d)
 else if k = .ofNat 4 then y7 disp (yr d)
 else if k = .ofNat 7 then [35, 40] ++ allT f (yg d) ++ [41]
 else if k = .ofNat 8 then [35, 117, 56, 40] ++ allT yr (yK (yr d)) ++ [41]
 else if k = .ofNat 9 then [35, 33, 101, 111, 102]
 else if k = .ofNat 10 then [35, 33, 110, 111, 110, 101]
 else [40] ++ allT f (zm d).1 ++ endT f (zm d).2 ++ [41]
noncomputable def txN (disp : Bool) : Nat → DT → List Nat
 | 0, _ => []
 | k + 1, d => txK disp (txN disp k) d (yV d)
def wtD (d : DT) : Nat := 2 * zu d + (if yV d = .ofNat 8 then 1 else 0)
def GoodD (n : Nat) (d : DT) : Prop := mayD d = true ∧ TxD d ∧ wtD d ≤ n
theorem jr {f g : DT → List Nat} : ∀ {l : List DT}, (∀ x ∈ l, f x = g x) → wB f l = wB g l ∧ allT f l = allT g l
 | [], _ => ⟨rfl, rfl⟩
 | d :: r, h => by
  have ih := jr (l := r) fun x hx => h x (by simp [hx])
  simp only [wB, allT, h d (by simp), ih.1, and_self]
theorem qp {kd n : Int} {t : List Nat} {ks : List DT} {p : Int} (h : mayD (.mk kd n t ks p) = true) :
  kd = .ofNat 0 ∨ (kd = .ofNat 1 ∧ (n = .ofNat 0 ∨ n = .ofNat 1)) ∨ (kd = .ofNat 2 ∧ t ≠ []) ∨ (kd = .ofNat 3 ∧ ∃ c, n = .ofNat c ∧ zr c = true) ∨ (kd = .ofNat 4 ∧ okC t = true) ∨ (kd = .ofNat 5 ∧ t ≠ []) ∨ (kd = .ofNat 6 ∧ ∃ x y, ks = [x, y]) ∨ (kd = .ofNat 7 ∧ ∀ x ∈ ks, mayD x = true) ∨ kd = .ofNat 8 ∨ kd = .ofNat 9 ∨ kd = .ofNat 10 := by
 cases hk : zC (.mk kd n t ks p) with
 | some q =>
  obtain ⟨x, y⟩ := q
  obtain ⟨h1, h2⟩ := yi hk
  exact .inr (.inr (.inr (.inr (.inr (.inr (.inl ⟨h1, x, y, h2⟩))))))
 | none =>
  rw [hW hk] at h
  by_cases h7 : kd = .ofNat 7
  ·rw [if_pos h7] at h
   exact .inr (.inr (.inr (.inr (.inr (.inr (.inr (.inl ⟨h7, fun x hx => List.all_eq_true.1 h x hx⟩)))))))
  ·rw [if_neg h7, Bool.and_eq_true] at h
   have hb := h.2
   rw [show u9 (.mk kd n t ks p) = jE kd n t from rfl, jE] at hb
   by_cases g0 : kd = .ofNat 0 ∨ kd = .ofNat 8 ∨ kd = .ofNat 9 ∨ kd = .ofNat 10
   ·rcases g0 with g | g | g | g
    ·exact .inl g
    ·exact .inr (.inr (.inr (.inr (.inr (.inr (.inr (.inr (.inl g))))))))
    ·exact .inr (.inr (.inr (.inr (.inr (.inr (.inr (.inr (.inr (.inl g)))))))))
    ·exact .inr (.inr (.inr (.inr (.inr (.inr (.inr (.inr (.inr (.inr g)))))))))
   rw [if_neg g0] at hb
   by_cases g1 : kd = .ofNat 1
   ·rw [if_pos g1] at hb
    refine .inr (.inl ⟨g1, ?_⟩)
    rw [Bool.or_eq_true] at hb
    simpa [eqD] using hb
   rw [if_neg g1] at hb
   by_cases g2 : kd = .ofNat 2
   ·rw [if_pos g2] at hb
    exact .inr (.inr (.inl ⟨g2, fun e => by subst e; exact absurd hb (by decide)⟩))
   rw [if_neg g2] at hb
   by_cases g3 : kd = .ofNat 3
   ·rw [if_pos g3] at hb
    refine .inr (.inr (.inr (.inl ⟨g3, ?_⟩)))
    cases n with
    | ofNat c => exact ⟨c, rfl, hb⟩
    | negSucc c => cases hb
   rw [if_neg g3] at hb
   by_cases g4 : kd = .ofNat 4
   ·rw [if_pos g4] at hb
    exact .inr (.inr (.inr (.inr (.inl ⟨g4, hb⟩))))
   rw [if_neg g4] at hb
   by_cases g5 : kd = .ofNat 5
   ·rw [if_pos g5, Bool.and_eq_true] at hb
    exact .inr (.inr (.inr (.inr (.inr (.inl ⟨g5, by simpa using hb.2⟩)))))
   rw [if_neg g5] at hb
   cases hb
theorem pX {kd n : Int} {t : List Nat} {ks : List DT} {p : Int} (h : kd ≠ .ofNat 6) : zC (.mk kd n t ks p) = none := by
 cases hk : zC (.mk kd n t ks p) with
 | none => rfl
 | some q => exact absurd (yi (x := q.1) (y := q.2) hk).1 h
theorem LE {d : DT} (hk : zC d = none) (h : mayE d = true) : mayD d = true := by
 rw [ga hk]; exact h
theorem GoodD.kids {n : Nat} {kd nn : Int} {t : List Nat} {ks : List DT} {p : Int} (h : GoodD (n + 1) (.mk kd nn t ks p)) (h7 : kd = .ofNat 7) : ∀ x ∈ ks, GoodD n x := by
 obtain ⟨h1, h2, h3⟩ := h
 intro x hx
 subst h7
 rw [hW (pX (by decide)), if_pos rfl] at h1
 simp only [TxD] at h2
 refine ⟨List.all_eq_true.1 h1 x hx, TxL.mem h2.2.2 hx, ?_⟩
 have := z6 hx
 simp only [wtD, zu, yV] at h3
 unfold wtD
 split <;> omega
theorem GoodD.items {n : Nat} {d : DT} (h : GoodD (n + 1) d) (h6 : yV d = .ofNat 6) : (∀ x ∈ (zm d).1, GoodD n x) ∧ GoodD n (zm d).2 ∧ zC (zm d).2 = none ∧ (zm d).1.length ≤ n + 1 := by
 obtain ⟨h1, h2, h3⟩ := h
 have hm := js _ d (Nat.lt_succ_self _)
 rw [h1] at hm
 have hm := hm.symm
 rw [Bool.and_eq_true] at hm
 have ht := pO d h2
 have hn := w9 d
 have he := jB d
 have hk : ∃ x y, zC d = some (x, y) := by
  obtain ⟨kd, nn, t, ks, p⟩ := d
  have := qp h1
  simp only [yV] at h6
  subst h6
  have h := this
  simp at h
  obtain ⟨x, y, e⟩ := h
  subst e
  exact ⟨x, y, rfl⟩
 obtain ⟨x, y, hk⟩ := hk
 have e1 : (zm d).1 = x :: (zm y).1 := by rw [yq hk]
 have hw : 2 * zu d ≤ n + 1 := by
  unfold wtD at h3; omega
 have hpos := yc (zm d).2
 have hposx := yc x
 have hll := yL (zm d).1
 have hlx : zu x ≤ yw (zm d).1 := by rw [e1]; exact z6 (by simp)
 refine ⟨fun z hz => ⟨List.all_eq_true.1 hm.1 z hz, TxL.mem ht.1 hz, ?_⟩, ⟨LE he hm.2, ht.2, ?_⟩, he, ?_⟩
 ·have := z6 hz
  unfold wtD
  split <;> omega
 ·unfold wtD
  split <;> omega
 ·omega
set_option maxRecDepth 100000
def zxg (n : Nat) (d : DT) (out : List Nat) (disp : Bool) : Prop := GoodD n d ∧ out.length + (txN disp n d).length < 1000000
noncomputable def gWd (n : Nat) : List AV → St → Option (AV × St) := orcW 54 5 z3 (zxg n) (fun d disp => txN disp n d)
def lY (l : List DT) : List AV := [.lst l.length false (zl l)]
def zz4 (n : Nat) (l : List DT) (out : List Nat) (disp : Bool) : Prop := l.length < 1000000 ∧ (∀ d ∈ l, GoodD n d) ∧ out.length + (allT (txN disp n) l).length < 1000000
noncomputable def gWa (n : Nat) : List AV → St → Option (AV × St) := orcW 54 5 lY (zz4 n) (fun l disp => allT (txN disp n) l)
theorem gM : ∀ x y, z3 x = z3 y → x = y := fun d e h => by
 simp only [z3, List.cons.injEq, and_true] at h; exact vq h
theorem U6 : ∀ x y, lY x = lY y → x = y := fun d e h => by
 simp only [lY, List.cons.injEq, AV.lst.injEq, and_true, true_and] at h; exact wp h.2
theorem Yo {O : Orc} {n : Nat} (h : O 20 = some (gWd n)) {d : DT} (hd : GoodD n d) (out : List Nat) (disp : Bool) (hb : out.length + (txN disp n d).length < 1000000) (l : List (Nat × Option AObj)) (nx m : Nat) (md : Bool) (id j : Nat) (ne : id ≠ j) (hi : id < nx) (hj : j < nx)
  (hw : getA l id = some (.row 54 [.ptr id 0, .sl j 0 out.length (.opn 1), .bool disp] false false)) (hb : getA l j = some (.row 5 (zh out) true false)) :
  (evW env O).call 20 [.ptr id 0, .agg (zF d)] (KL l nx m md [] none) = some (.tup [], KL ((nx, some (.row 5 (zh (out ++ txN disp n d)) true false)) :: (j, none) :: (id, some (.row 54 [.ptr id 0, .sl nx 0 (out ++ txN disp n d).length (.opn 1), .bool disp] false false)) :: l) (nx + 1) (mark (mark m id) j) md [] none) :=
 HF (E := env) h gM d out disp ⟨hd, by assumption⟩ l nx m md id j [.agg (zF d)] (by simp only [z3, encD, wkL, wkV, x0]) ne hi hj hw hb
theorem P5 {O : Orc} {n : Nat} (h : O 40 = some (gWa n)) {ls : List DT} (hl : ls.length < 1000000) (hd : ∀ d ∈ ls, GoodD n d) (out : List Nat) (disp : Bool) (hb : out.length + (allT (txN disp n) ls).length < 1000000) (l : List (Nat × Option AObj)) (nx m : Nat) (md : Bool) (id j : Nat) (ne : id ≠ j) (hi : id < nx) (hj : j < nx)
  (hw : getA l id = some (.row 54 [.ptr id 0, .sl j 0 out.length (.opn 1), .bool disp] false false)) (hb : getA l j = some (.row 5 (zh out) true false)) :
  (evW env O).call 40 [.ptr id 0, .lst ls.length false (zl ls)] (KL l nx m md [] none) = some (.tup [], KL ((nx, some (.row 5 (zh (out ++ allT (txN disp n) ls)) true false)) :: (j, none) :: (id, some (.row 54 [.ptr id 0, .sl nx 0 (out ++ allT (txN disp n) ls).length (.opn 1), .bool disp] false false)) :: l) (nx + 1) (mark (mark m id) j) md [] none) :=
 HF (E := env) h U6 ls out disp ⟨hl, hd, by assumption⟩ l nx m md id j [.lst ls.length false (zl ls)] (by simp only [lY, wkL, wkV, xH]) ne hi hj hw hb
noncomputable def wst (out : List Nat) (disp : Bool) : St := H [some (wrow 54 0 2 out.length disp), none, some (brow 5 out)] 3 true
def wM (f : DT → List Nat) (i : Nat) (l : List DT) : List Nat := match i with
 | 0 => allT f l
 | _ + 1 => wB f l
theorem Pp {P : Program} {w0 : World} (B : Bx P w0) {O : Orc} (hO : OrcOk P w0 O) (o41 : O 41 = none) (o72 : O 72 = none) {n : Nat} (h20 : O 20 = some (gWd n)) (ls : List DT) (out0 : List Nat) (disp : Bool) (hp : zz4 n ls out0 disp) :
  SC P w0 40 [.ptr 0 0, .lst ls.length false (zl ls)] (H [some (wrow 54 0 1 out0.length disp), some (brow 5 out0)] 0 true) (.tup []) (H [some (wrow 54 0 2 (out0 ++ allT (txN disp n) ls).length disp), none, some (brow 5 (out0 ++ allT (txN disp n) ls))] 3 true) := by
 obtain ⟨hl, hg, hb⟩ := hp
 refine Is.scK hO B.mixed B.glob B.env 3 (show env.funs.get 40 = some f40 from rfl) (Nat.le_of_ble_eq_true rfl) (KP rfl rfl) fun C k => ?_
 generalize hf : txN disp n = f
 rw [hf] at hb
 generalize hT : out0 ++ allT f ls = T
 refine kX k.ren0 ?_
 unfold f40
 simp only [Ko, Kn, Ki]
 refine ze (k.eval (by simp (disch := first | exact dis | fail) only [go_sem, seval, -reduceOfNat, -reduceNegSucc, wrow, brow]; exact rfl) ?_)
 simp only [za]
 refine zw (zI (k.gcL [2] [8, 7, 6, 0] true (fr1 := ⟨tmL [(8, .int .i64 (.ofNat 0)), (7, .int .i64 (.ofNat ls.length)), (6, .lst ls.length false (zl ls)), (0, .ptr 0 0)], []⟩) (s1 := wst out0 disp) (by simp (disch := first | exact dis | fail) only [go_sem, seval, -reduceOfNat, -reduceNegSucc, wst, wrow, brow]) ?_))
 refine zV (fun x : Nat × List Nat => ls.length - x.1) (fun x => ⟨tmL [(8, .int .i64 (.ofNat x.1)), (7, .int .i64 (.ofNat ls.length)), (6, .lst ls.length false (zl ls)), (0, .ptr 0 0)], []⟩) (fun x => wst x.2 disp) (fun x => x.1 ≤ ls.length ∧ x.2 ++ wM f x.1 (ls.drop x.1) = T) (fun x hx => ?_) (0, out0) ⟨Nat.zero_le _, hT⟩
 obtain ⟨i, out⟩ := x
 simp only at hx ⊢
 obtain ⟨h1, h3⟩ := hx
 have hTl := congrArg List.length hT
 rw [List.length_append] at hTl
 rcases zS ls i with ⟨hi, hd⟩ | ⟨d, hi, hd⟩
 ·have hlt : ¬ i < ls.length := by omega
  have e : wM f i [] = [] := by cases i <;> rfl
  rw [hd, e, List.append_nil] at h3
  subst h3
  refine k.eval (by simp (disch := first | exact dis | fail) only [go_sem, seval, -reduceOfNat, -reduceNegSucc, wst, wrow, brow, hlt]; exact rfl) ?_
  try simp only [za, zg]
  apply zP [2] (Or.inl rfl)
  iterate 5 (simp (disch := first | exact dis | fail) only [go_sem, seval, -reduceOfNat, -reduceNegSucc, wrow, brow] <;> exact rfl)
 ·have hgd := hg d (List.mem_of_mem_drop (show d ∈ ls.drop i by rw [hd]; simp))
  have hlen := congrArg List.length h3
  rw [hd, List.length_append] at hlen
  cases i with
  | zero =>
   have e : wM f 0 (d :: ls.drop (0 + 1)) = f d ++ wB f (ls.drop 1) := rfl
   rw [hd, e] at h3
   rw [e, List.length_append] at hlen
   have hcall := fun l nx m => Yo h20 hgd out disp (by rw [hf]; omega) l nx m true 0 2
   rw [hf] at hcall
   obtain ⟨dk, dn, dt, dks, dp⟩ := d
   simp only [zb] at hcall
   have hdr : yh 5 (zl ls) = some (zF (DT.mk dk dn dt dks dp)) := by
    rw [show ls = ls.drop 0 from rfl, hd, zM]; exact gu _ _
   simp only [zb] at hdr
   refine k.eval (by simp (disch := first | exact dis | fail) only [go_sem, seval, -reduceOfNat, -reduceNegSucc, wst, wrow, brow, hi, hdr, hcall]; exact rfl) ?_
   try simp only [za]
   refine ⟨(1, out ++ f (.mk dk dn dt dks dp)), ⟨by simp only; omega, by simp only [wM]; rw [List.append_assoc]; exact h3⟩, by simp only; omega, ?_⟩
   refine k.gcs (keep := [4]) (live := [8, 7, 6, 0]) (md := true) ?_
   simp (disch := first | exact dis | fail) only [go_sem, seval, -reduceOfNat, -reduceNegSucc, wst, wrow, brow]
  | succ i =>
   have e : wM f (i + 1) (d :: ls.drop (i + 1 + 1)) = 32 :: (f d ++ wB f (ls.drop (i + 2))) := rfl
   rw [hd, e] at h3
   rw [e, List.length_cons, List.length_append] at hlen
   have hwb := fun l nx m => ku o41 o72 l nx m 0 2 true out disp 32 (by omega) (by omega) (by omega)
   have hcall := fun l nx m => Yo h20 hgd (out ++ [32]) disp (by rw [hf]; simp only [List.length_append, List.length_cons, List.length_nil]; omega) l nx m true 0 5
   rw [hf] at hcall
   obtain ⟨dk, dn, dt, dks, dp⟩ := d
   simp only [zb] at hcall
   refine k.eval (by simp (disch := first | exact dis | fail) only [go_sem, seval, -reduceOfNat, -reduceNegSucc, wst, wrow, brow, hi, yu, hd, zM, zb, hwb, hcall]; exact rfl) ?_
   try simp only [za]
   refine ⟨(i + 2, out ++ [32] ++ f (.mk dk dn dt dks dp)), ⟨by simp only; omega, by simp only [wM]; rw [← h3]; simp⟩, by simp only; omega, ?_⟩
   refine k.gcs (keep := [6]) (live := [8, 7, 6, 0]) (md := true) ?_
   simp (disch := first | exact dis | fail) only [go_sem, seval, -reduceOfNat, -reduceNegSucc, wst, wrow, brow]
set_option maxRecDepth 100000
theorem xC {O : Orc} (o36 : O 36 = none) (o72 : O 72 = none) (id j : Nat) (out : List Nat) (disp : Bool) (s o1 : List Nat) (h1 : o1 = out ++ s) (hs : s ≠ []) (ho : o1.length < 1000000) (ne : id ≠ j) (l : List (Nat × Option AObj)) (n m : Nat) (b : Bool) (hi : id < n) (hj : j < n)
  (hw : getA l id = some (.row 54 [.ptr id 0, .sl j 0 out.length (.opn 1), .bool disp] false false)) (hb : getA l j = some (.row 5 (zh out) true false)) :
  (evW env O).call 36 [.ptr id 0, .str s] (KL l n m b [] none) = some (.tup [.int .i64 (.ofNat s.length), .nili], KL ((id, some (.row 54 [.ptr id 0, .sl n 0 o1.length (.opn 1), .bool disp] false false)) :: (n, some (.row 5 (zh o1) true false)) :: (j, none) :: l) (n + 1) (mark (mark m j) id) b [] none) := by
 subst h1
 rw [List.length_append] at ho
 exact gZ o36 o72 l n m id j b out disp s hs (by omega) (by omega) ne hi hj hw hb
theorem wg {O : Orc} (o41 : O 41 = none) (o72 : O 72 = none) (id j : Nat) (out : List Nat) (disp : Bool) (c : Nat) (o1 : List Nat) (h1 : o1 = out ++ [c]) (hc : c < 256) (ho : o1.length < 1000000) (ne : id ≠ j) (l : List (Nat × Option AObj)) (n m : Nat) (b : Bool) (hi : id < n) (hj : j < n)
  (hw : getA l id = some (.row 54 [.ptr id 0, .sl j 0 out.length (.opn 1), .bool disp] false false)) (hb : getA l j = some (.row 5 (zh out) true false)) :
  (evW env O).call 41 [.ptr id 0, .int .u8 (.ofNat c)] (KL l n m b [] none) = some (.nili, KL ((id, some (.row 54 [.ptr id 0, .sl (n + 1) 0 o1.length (.opn 1), .bool disp] false false)) :: (n + 1, some (.row 5 (zh o1) true false)) :: (j, none) :: (n, some (.row 5 (zh [c]) false false)) :: l) (n + 2) (mark (mark m j) id) b [] none) := by
 subst h1
 rw [List.length_append] at ho
 exact ku o41 o72 l n m id j b out disp c hc (by omega) ne hi hj hw hb
theorem Kk {O : Orc} (o38 : O 38 = none) (o72 : O 72 = none) (o74 : O 74 = none) (o96 : O 96 = none) (id j : Nat) (out : List Nat) (disp : Bool) (c : Nat) (o1 : List Nat) (h1 : o1 = out ++ encC c) (hv : zr c = true) (ho : o1.length < 1000000) (ne : id ≠ j) (l : List (Nat × Option AObj)) (n m : Nat) (b : Bool) (hi : id < n) (hj : j < n)
  (hw : getA l id = some (.row 54 [.ptr id 0, .sl j 0 out.length (.opn 1), .bool disp] false false)) (hb : getA l j = some (.row 5 (zh out) true false)) :
  (evW env O).call 38 [.ptr id 0, .int .i32 (.ofNat c)] (KL l n m b [] none) = some (.tup [.int .i64 (.ofNat (o1.length - out.length)), .nili], KL ((id, some (.row 54 [.ptr id 0, .sl (n + 1) 0 o1.length (.opn 1), .bool disp] false false)) :: (n + 1, some (.row 5 (zh o1) true false)) :: (j, none) :: (n, some (.row 5 (zh (encC c)) false false)) :: l) (n + 2) (mark (mark m j) id) b [] none) := by
 subst h1
 rw [List.length_append] at ho
 exact LR o38 o72 o74 o96 l n m id j b out disp c hv (by omega) ne hi hj hw hb
theorem XS {O : Orc} {n0 : Nat} (h : O 20 = some (gWd n0)) {d : DT} (hd : GoodD n0 d) (id j : Nat) (out : List Nat) (disp : Bool) (o1 : List Nat) (h1 : o1 = out ++ txN disp n0 d) (ho : o1.length < 1000000) (ne : id ≠ j) (l : List (Nat × Option AObj)) (n m : Nat) (b : Bool) (hi : id < n) (hj : j < n)
  (hw : getA l id = some (.row 54 [.ptr id 0, .sl j 0 out.length (.opn 1), .bool disp] false false)) (hb : getA l j = some (.row 5 (zh out) true false)) :
  (evW env O).call 20 [.ptr id 0, .agg (zF d)] (KL l n m b [] none) = some (.tup [], KL ((n, some (.row 5 (zh o1) true false)) :: (j, none) :: (id, some (.row 54 [.ptr id 0, .sl n 0 o1.length (.opn 1), .bool disp] false false)) :: l) (n + 1) (mark (mark m id) j) b [] none) := by
 subst h1
 rw [List.length_append] at ho
 exact Yo h hd out disp ho l n m b id j ne hi hj hw hb
theorem w6 {O : Orc} {n0 : Nat} (h : O 40 = some (gWa n0)) {ls : List DT} (hl : ls.length < 1000000) (hd : ∀ d ∈ ls, GoodD n0 d) (id j : Nat) (out : List Nat) (disp : Bool) (o1 : List Nat) (h1 : o1 = out ++ allT (txN disp n0) ls) (ho : o1.length < 1000000) (ne : id ≠ j) (l : List (Nat × Option AObj)) (n m : Nat) (b : Bool) (hi : id < n) (hj : j < n)
  (hw : getA l id = some (.row 54 [.ptr id 0, .sl j 0 out.length (.opn 1), .bool disp] false false)) (hb : getA l j = some (.row 5 (zh out) true false)) :
  (evW env O).call 40 [.ptr id 0, .lst ls.length false (zl ls)] (KL l n m b [] none) = some (.tup [], KL ((n, some (.row 5 (zh o1) true false)) :: (j, none) :: (id, some (.row 54 [.ptr id 0, .sl n 0 o1.length (.opn 1), .bool disp] false false)) :: l) (n + 1) (mark (mark m id) j) b [] none) := by
 subst h1
 rw [List.length_append] at ho
 exact P5 h hl hd out disp ho l n m b id j ne hi hj hw hb
theorem Kb {O : Orc} (h : O 39 = some gTxt) (id j : Nat) (out : List Nat) (disp : Bool) (t o1 : List Nat) (h1 : o1 = out ++ y7 disp t) (ht : t.length < 1000000) (ho : o1.length < 1000000) (ne : id ≠ j) (l : List (Nat × Option AObj)) (n m : Nat) (b : Bool) (hi : id < n) (hj : j < n)
  (hw : getA l id = some (.row 54 [.ptr id 0, .sl j 0 out.length (.opn 1), .bool disp] false false)) (hb : getA l j = some (.row 5 (zh out) true false)) :
  (evW env O).call 39 [.ptr id 0, .str t] (KL l n m b [] none) = some (.tup [], KL ((n, some (.row 5 (zh o1) true false)) :: (j, none) :: (id, some (.row 54 [.ptr id 0, .sl n 0 o1.length (.opn 1), .bool disp] false false)) :: l) (n + 1) (mark (mark m id) j) b [] none) := by
 subst h1
 rw [List.length_append] at ho
 exact HF (E := env) h Xm t out disp ⟨ht, ho⟩ l n m b id j [.str t] rfl ne hi hj hw hb
theorem vY (c : Nat) : (x7 c).length ≤ 7 := by
 have := wD c
 have := vv c
 unfold x7
 split
 ·simp
 ·split
  ·simp
  ·split
   ·simp
   ·split
    ·simp; omega
    ·omega
theorem kO (c : Nat) : (wd c).length ≤ 3 ∧ wd c ≠ [] := by
 unfold wd; split
 ·simp
 ·split <;> simp
theorem YU {disp : Bool} {n : Nat} (hn : 1 ≤ n) {t : List Nat} {x : DT} (h : x ∈ yK t) : txN disp n x = yr x := by
 obtain ⟨b, _, rfl⟩ := List.mem_map.1 h
 cases n with
 | zero => omega
 | succ n => rfl
theorem JD : ∀ c, c < 256 → numS (wd c) = true := fun c hc => by
 have key : (List.range 256).all (fun c => numS (wd c)) = true := by decide +kernel
 exact List.all_eq_true.1 key c (List.mem_range.2 hc)
theorem gm {n : Nat} (hn : 2 ≤ n) {t : List Nat} (hb : Byt t) {x : DT} (h : x ∈ yK t) : GoodD n x := by
 obtain ⟨b, hm, rfl⟩ := List.mem_map.1 h
 have h1 := kO b
 have h2 := JD b (hb b hm)
 refine ⟨?_, ?_, ?_⟩
 ·rw [lm, hW (pX (by decide)), if_neg (by decide)]
  rw [show u9 (.mk (.ofNat 2) (.ofNat 0) (wd b) [] (.ofNat 0)) = jE (.ofNat 2) (.ofNat 0) (wd b) from rfl, jE, if_neg (by decide), if_neg (by decide), if_pos rfl, h2]
  rfl
 ·simp only [lm, TxD, TxL]
  refine ⟨?_, by omega, trivial⟩
  intro x hx
  have := hb b hm
  unfold wd at hx
  split at hx
  ·simp at hx; omega
  ·split at hx
   ·simp at hx; omega
   ·simp at hx; omega
 ·have e : wtD (lm b) = 2 := rfl
  omega
theorem UO {P : Program} {w0 : World} (B : Bx P w0) {O : Orc} (hO : OrcOk P w0 O) (o36 : O 36 = none) (o38 : O 38 = none) (o41 : O 41 = none) (o72 : O 72 = none) (o74 : O 74 = none) (o96 : O 96 = none) (o43 : O 43 = none) (h19 : O 19 = some gItm) (h37 : O 37 = some vN) (h39 : O 39 = some gTxt) (h42 : O 42 = some Za) {n : Nat} (hn : n ≤ 100000) (h20 : O 20 = some (gWd n)) (h40 : O 40 = some (gWa n)) (d : DT) (out0 : List Nat) (disp : Bool) (hg : GoodD (n + 1) d) (hb : out0.length + (txN disp (n + 1) d).length < 1000000) :
  SC P w0 20 [.ptr 0 0, encD d] (H [some (wrow 54 0 1 out0.length disp), some (brow 5 out0)] 0 true) (.tup []) (H [some (wrow 54 0 2 (out0 ++ txN disp (n + 1) d).length disp), none, some (brow 5 (out0 ++ txN disp (n + 1) d))] 3 true) := by
 refine Is.scK hO B.mixed B.glob B.env 3 (show env.funs.get 20 = some f20 from rfl) (Nat.le_of_ble_eq_true rfl) (KP rfl rfl) fun C k => ?_
 have clist := @z5 env O _ _ o43 (show env.funs.get 43 = some f43 from rfl) rfl
 have htx := hg.2.1
 obtain ⟨kd, nn, tx, ks, p⟩ := d
 simp only [TxD] at htx
 obtain ⟨tx1, tx2, tx3⟩ := htx
 obtain ⟨T, hT⟩ : ∃ T, T = out0 ++ txN disp (n + 1) (.mk kd nn tx ks p) := ⟨_, rfl⟩
 have hTl : T.length < 1000000 := by rw [hT, List.length_append]; exact hb
 rw [← hT]
 rw [show txN disp (n + 1) (.mk kd nn tx ks p) = txK disp (txN disp n) (.mk kd nn tx ks p) kd from rfl] at hT
 have hcs := qp hg.1
 unfold f20
 simp only [Ko, Kd, Ki]
 rcases hcs with rfl | ⟨rfl, hcs⟩ | ⟨rfl, hcs⟩ | ⟨rfl, c, rfl, hv⟩ | ⟨rfl, hcs⟩ | ⟨rfl, hcs⟩ | ⟨rfl, hcs⟩ | ⟨rfl, hcs⟩ | rfl | rfl | rfl
 ·have e : T = out0 ++ [40, 41] := hT
  have hws := xC o36 o72 0 1 out0 disp [40, 41] T e (by simp) (by omega) (by omega)
  refine k.eval (by simp (disch := first | exact dis | fail) only [go_sem, seval, -reduceOfNat, -reduceNegSucc, encD, zb, wrow, brow, hws]; exact rfl) ?_
  try simp only [za, zg, Cut, if_true]
  apply zP [3] (by first | exact Or.inl rfl | exact Or.inr rfl)
  iterate 5 (simp (disch := first | exact dis | fail) only [go_sem, seval, -reduceOfNat, -reduceNegSucc, wrow, brow] <;> exact rfl)
 ·have hs0 : vSls (.str [102, 116]) (some (.int .i64 (.ofNat 0))) (some (.int .i64 (.ofNat 1))) = some (.str [102]) := rfl
  have hs1 : vSls (.str [102, 116]) (some (.int .i64 (.ofNat 1))) (some (.int .i64 (.ofNat 2))) = some (.str [116]) := rfl
  rcases hcs with rfl | rfl
  ·have e : T = out0 ++ [35, 102] := hT
   have hws := xC o36 o72 0 1 out0 disp [35, 102] T e (by simp) (by omega) (by omega)
   refine k.eval (by simp (disch := first | exact dis | fail) only [go_sem, seval, -reduceOfNat, -reduceNegSucc, encD, zb, wrow, brow, hws, hs0]; exact rfl) ?_
   try simp only [za, zg, Cut, if_true]
   apply zP [3] (by first | exact Or.inl rfl | exact Or.inr rfl)
   iterate 5 (simp (disch := first | exact dis | fail) only [go_sem, seval, -reduceOfNat, -reduceNegSucc, wrow, brow] <;> exact rfl)
  ·have e : T = out0 ++ [35, 116] := hT
   have hws := xC o36 o72 0 1 out0 disp [35, 116] T e (by simp) (by omega) (by omega)
   refine k.eval (by simp (disch := first | exact dis | fail) only [go_sem, seval, -reduceOfNat, -reduceNegSucc, encD, zb, wrow, brow, hws, hs1]; exact rfl) ?_
   try simp only [za, zg, Cut, if_true]
   apply zP [3] (by first | exact Or.inl rfl | exact Or.inr rfl)
   iterate 5 (simp (disch := first | exact dis | fail) only [go_sem, seval, -reduceOfNat, -reduceNegSucc, wrow, brow] <;> exact rfl)
 ·have e : T = out0 ++ tx := hT
  have hws := xC o36 o72 0 1 out0 disp tx T e hcs (by omega) (by omega)
  refine k.eval (by simp (disch := first | exact dis | fail) only [go_sem, seval, -reduceOfNat, -reduceNegSucc, encD, zb, wrow, brow, hws]; exact rfl) ?_
  try simp only [za, zg, Cut, if_true]
  apply zP [3] (by first | exact Or.inl rfl | exact Or.inr rfl)
  iterate 5 (simp (disch := first | exact dis | fail) only [go_sem, seval, -reduceOfNat, -reduceNegSucc, wrow, brow] <;> exact rfl)
 ·cases disp with
  | true =>
   have e : T = out0 ++ encC c := hT
   have hm := (zf.1 hv).1
   have hwr := Kk o38 o72 o74 o96 0 1 out0 true c T e hv (by omega) (by omega)
   refine k.eval (by simp (disch := first | exact dis | fail) only [go_sem, seval, -reduceOfNat, -reduceNegSucc, encD, zb, wrow, brow, WN, hwr]; exact rfl) ?_
   try simp only [za, zg, Cut, if_true]
   apply zP [4] (by first | exact Or.inl rfl | exact Or.inr rfl)
   iterate 5 (simp (disch := first | exact dis | fail) only [go_sem, seval, -reduceOfNat, -reduceNegSucc, wrow, brow] <;> exact rfl)
  | false =>
   have e : T = out0 ++ 35 :: 92 :: x7 c := hT
   have hnm := jp (f := 37) h37 hv
   have hnl := vY c
   have hws := xC o36 o72 0 1 out0 false (35 :: 92 :: x7 c) T e (by simp) (by omega) (by omega)
   refine k.eval (by simp (disch := first | exact dis | fail) only [go_sem, seval, -reduceOfNat, -reduceNegSucc, encD, zb, wrow, brow, hnm, hws]; exact rfl) ?_
   try simp only [za, zg, Cut, if_true]
   apply zP [3] (by first | exact Or.inl rfl | exact Or.inr rfl)
   iterate 5 (simp (disch := first | exact dis | fail) only [go_sem, seval, -reduceOfNat, -reduceNegSucc, wrow, brow] <;> exact rfl)
 ·have e : T = out0 ++ y7 disp tx := hT
  have hwt := Kb h39 0 1 out0 disp tx T e (by omega) (by omega) (by omega)
  refine k.eval (by simp (disch := first | exact dis | fail) only [go_sem, seval, -reduceOfNat, -reduceNegSucc, encD, zb, wrow, brow, hwt]; exact rfl) ?_
  try simp only [za, zg, Cut, if_true]
  apply zP [3] (by first | exact Or.inl rfl | exact Or.inr rfl)
  iterate 5 (simp (disch := first | exact dis | fail) only [go_sem, seval, -reduceOfNat, -reduceNegSucc, wrow, brow] <;> exact rfl)
 ·have e : T = out0 ++ tx := hT
  have hws := xC o36 o72 0 1 out0 disp tx T e hcs (by omega) (by omega)
  refine k.eval (by simp (disch := first | exact dis | fail) only [go_sem, seval, -reduceOfNat, -reduceNegSucc, encD, zb, wrow, brow, hws]; exact rfl) ?_
  try simp only [za, zg, Cut, if_true]
  apply zP [3] (by first | exact Or.inl rfl | exact Or.inr rfl)
  iterate 5 (simp (disch := first | exact dis | fail) only [go_sem, seval, -reduceOfNat, -reduceNegSucc, wrow, brow] <;> exact rfl)
 ·have hit := hg.items rfl
  have hitm := vy (f := 19) h19 (d := .mk (.ofNat 6) nn tx ks p) (by omega)
  simp only [itR] at hitm
  have e : T = out0 ++ ([40] ++ allT (txN disp n) (zm (.mk (.ofNat 6) nn tx ks p)).1 ++ endT (txN disp n) (zm (.mk (.ofNat 6) nn tx ks p)).2 ++ [41]) := hT
  revert e hitm hit
  generalize (zm (.mk (.ofNat 6) nn tx ks p)).1 = l
  generalize (zm (.mk (.ofNat 6) nn tx ks p)).2 = ed
  intro hit hitm e
  obtain ⟨hit1, hit2, _, hit3⟩ := hit
  have hk := hit2
  obtain ⟨ek, en, et, eks, ep⟩ := ed
  simp only [encD, zb] at hitm
  obtain ⟨o1, h1⟩ : ∃ o1, o1 = out0 ++ [40] := ⟨_, rfl⟩
  obtain ⟨o2, h2⟩ : ∃ o2, o2 = o1 ++ allT (txN disp n) l := ⟨_, rfl⟩
  have l1 := congrArg List.length h1
  have l2 := congrArg List.length h2
  simp only [List.length_append, List.length_cons, List.length_nil] at l1 l2
  by_cases hek : ek = .ofNat 0
  ·subst hek
   have e3 : T = o2 ++ [41] := by rw [e, h2, h1]; simp [endT, yV]
   have l3 := congrArg List.length e3
   simp only [List.length_append, List.length_cons, List.length_nil] at l3
   have hwb1 := wg o41 o72 0 1 out0 disp 40 o1 h1 (by omega) (by omega) (by omega)
   have hwa := w6 h40 (by omega) hit1 0 6 o1 disp o2 h2 (by omega) (by omega)
   have hwb2 := wg o41 o72 0 7 o2 disp 41 T e3 (by omega) (by omega) (by omega)
   refine k.eval (by simp (disch := first | exact dis | fail) only [go_sem, seval, -reduceOfNat, -reduceNegSucc, encD, zb, wrow, brow, clist, f43, hitm, hwb1, hwa, hwb2]; exact rfl) ?_
   try simp only [za, zg, Cut, if_true]
   apply zP [9] (by first | exact Or.inl rfl | exact Or.inr rfl)
   iterate 5 (simp (disch := first | exact dis | fail) only [go_sem, seval, -reduceOfNat, -reduceNegSucc, wrow, brow] <;> exact rfl)
  ·obtain ⟨o3, h3⟩ : ∃ o3, o3 = o2 ++ [32, 46, 32] := ⟨_, rfl⟩
   obtain ⟨o4, h4⟩ : ∃ o4, o4 = o3 ++ txN disp n (.mk ek en et eks ep) := ⟨_, rfl⟩
   have het : endT (txN disp n) (.mk ek en et eks ep) = [32, 46, 32] ++ txN disp n (.mk ek en et eks ep) := if_neg hek
   have e3 : T = o4 ++ [41] := by rw [e, het, h4, h3, h2, h1]; simp
   have l3 := congrArg List.length e3
   have l4 := congrArg List.length h4
   have l5 := congrArg List.length h3
   simp only [List.length_append, List.length_cons, List.length_nil] at l3 l4 l5
   have hne := ym hek
   have hwb1 := wg o41 o72 0 1 out0 disp 40 o1 h1 (by omega) (by omega) (by omega)
   have hwa := w6 h40 (by omega) hit1 0 6 o1 disp o2 h2 (by omega) (by omega)
   have hws := xC o36 o72 0 7 o2 disp [32, 46, 32] o3 h3 (by simp) (by omega) (by omega)
   have hwd := XS h20 hit2 0 8 o3 disp o4 h4 (by omega) (by omega)
   simp only [zb] at hwd
   have hwb2 := wg o41 o72 0 9 o4 disp 41 T e3 (by omega) (by omega) (by omega)
   refine k.eval (by simp (disch := first | exact dis | fail) only [go_sem, seval, -reduceOfNat, -reduceNegSucc, encD, zb, wrow, brow, clist, f43, hitm, hwb1, hwa, hne, hws, hwd, hwb2]; exact rfl) ?_
   try simp only [za, zg, Cut, if_true]
   apply zP [11] (by first | exact Or.inl rfl | exact Or.inr rfl)
   iterate 5 (simp (disch := first | exact dis | fail) only [go_sem, seval, -reduceOfNat, -reduceNegSucc, wrow, brow] <;> exact rfl)
 ·have hkl := yL ks
  have hkw := hg.2.2
  simp only [wtD, zu] at hkw
  obtain ⟨o1, h1⟩ : ∃ o1, o1 = out0 ++ [35, 40] := ⟨_, rfl⟩
  obtain ⟨o2, h2⟩ : ∃ o2, o2 = o1 ++ allT (txN disp n) ks := ⟨_, rfl⟩
  have e3 : T = o2 ++ [41] := by rw [hT, h2, h1]; simp [txK, yg]
  have l1 := congrArg List.length h1
  have l2 := congrArg List.length h2
  have l3 := congrArg List.length e3
  simp only [List.length_append, List.length_cons, List.length_nil] at l1 l2 l3
  have hws1 := xC o36 o72 0 1 out0 disp [35, 40] o1 h1 (by simp) (by omega) (by omega)
  have hwa := w6 h40 (by omega) (hg.kids rfl) 0 3 o1 disp o2 h2 (by omega) (by omega)
  have hwb2 := wg o41 o72 0 4 o2 disp 41 T e3 (by omega) (by omega) (by omega)
  refine k.eval (by simp (disch := first | exact dis | fail) only [go_sem, seval, -reduceOfNat, -reduceNegSucc, encD, zb, wrow, brow, hws1, hwa, hwb2]; exact rfl) ?_
  try simp only [za, zg, Cut, if_true]
  apply zP [6] (by first | exact Or.inl rfl | exact Or.inr rfl)
  iterate 5 (simp (disch := first | exact dis | fail) only [go_sem, seval, -reduceOfNat, -reduceNegSucc, wrow, brow] <;> exact rfl)
 ·have hn1 : 2 ≤ n := by have := hg.2.2; simp only [wtD, zu, yV, if_true] at this; omega
  have hnm := ZP (f := 42) h42 tx1 (by omega)
  simp only [gJ] at hnm
  obtain ⟨o1, h1⟩ : ∃ o1, o1 = out0 ++ [35, 117, 56, 40] := ⟨_, rfl⟩
  obtain ⟨o2, h2⟩ : ∃ o2, o2 = o1 ++ allT (txN disp n) (yK tx) := ⟨_, rfl⟩
  have e3 : T = o2 ++ [41] := by rw [hT, h2, h1, (jr (f := txN disp n) (g := yr) fun x hx => YU (by omega) hx).2]; simp [txK, yr]
  have l1 := congrArg List.length h1
  have l2 := congrArg List.length h2
  have l3 := congrArg List.length e3
  simp only [List.length_append, List.length_cons, List.length_nil] at l1 l2 l3
  have hws1 := xC o36 o72 0 1 out0 disp [35, 117, 56, 40] o1 h1 (by simp) (by omega) (by omega)
  have hwa := w6 h40 (by rw [yK, List.length_map]; omega) (fun d hd => gm hn1 tx1 hd) 0 3 o1 disp o2 h2 (by omega) (by omega)
  have hwb2 := wg o41 o72 0 4 o2 disp 41 T e3 (by omega) (by omega) (by omega)
  refine k.eval (by simp (disch := first | exact dis | fail) only [go_sem, seval, -reduceOfNat, -reduceNegSucc, encD, zb, wrow, brow, hws1, hnm, hwa, hwb2]; exact rfl) ?_
  try simp only [za, zg, Cut, if_true]
  apply zP [6] (by first | exact Or.inl rfl | exact Or.inr rfl)
  iterate 5 (simp (disch := first | exact dis | fail) only [go_sem, seval, -reduceOfNat, -reduceNegSucc, wrow, brow] <;> exact rfl)
 ·have e : T = out0 ++ [35, 33, 101, 111, 102] := hT
  have hws := xC o36 o72 0 1 out0 disp [35, 33, 101, 111, 102] T e (by simp) (by omega) (by omega)
  refine k.eval (by simp (disch := first | exact dis | fail) only [go_sem, seval, -reduceOfNat, -reduceNegSucc, encD, zb, wrow, brow, hws]; exact rfl) ?_
  try simp only [za, zg, Cut, if_true]
  apply zP [3] (by first | exact Or.inl rfl | exact Or.inr rfl)
  iterate 5 (simp (disch := first | exact dis | fail) only [go_sem, seval, -reduceOfNat, -reduceNegSucc, wrow, brow] <;> exact rfl)
 ·have e : T = out0 ++ [35, 33, 110, 111, 110, 101] := hT
  have hws := xC o36 o72 0 1 out0 disp [35, 33, 110, 111, 110, 101] T e (by simp) (by omega) (by omega)
  refine k.eval (by simp (disch := first | exact dis | fail) only [go_sem, seval, -reduceOfNat, -reduceNegSucc, encD, zb, wrow, brow, hws]; exact rfl) ?_
  try simp only [za, zg, Cut, if_true]
  apply zP [3] (by first | exact Or.inl rfl | exact Or.inr rfl)
  iterate 5 (simp (disch := first | exact dis | fail) only [go_sem, seval, -reduceOfNat, -reduceNegSucc, wrow, brow] <;> exact rfl)
set_option maxRecDepth 100000
theorem xG {O : Orc} (o36 : O 36 = none) (o72 : O 72 = none) (id : Nat) (disp : Bool) (s o1 : List Nat) (h1 : o1 = s) (hs : s ≠ []) (ho : o1.length < 1000000) (l : List (Nat × Option AObj)) (n m : Nat) (b : Bool) (hi : id < n)
  (hw : getA l id = some (.row 54 [.nilp, .nils, .bool disp] false false)) :
  (evW env O).call 36 [.ptr id 0, .str s] (KL l n m b [] none) = some (.tup [.int .i64 (.ofNat s.length), .nili], KL ((id, some (.row 54 [.ptr id 0, .sl n 0 o1.length (.opn 1), .bool disp] false false)) :: (n, some (.row 5 (zh o1) true false)) :: (id, some (.row 54 [.ptr id 0, .nils, .bool disp] false false)) :: l) (n + 1) (mark (mark m id) id) b [] none) := by
 subst h1
 exact Xn o36 o72 l n m id b disp o1 hs ho hi hw
theorem pW {O : Orc} (o41 : O 41 = none) (o72 : O 72 = none) (id : Nat) (disp : Bool) (c : Nat) (o1 : List Nat) (h1 : o1 = [c]) (hc : c < 256) (l : List (Nat × Option AObj)) (n m : Nat) (b : Bool) (hi : id < n)
  (hw : getA l id = some (.row 54 [.nilp, .nils, .bool disp] false false)) :
  (evW env O).call 41 [.ptr id 0, .int .u8 (.ofNat c)] (KL l n m b [] none) = some (.nili, KL ((id, some (.row 54 [.ptr id 0, .sl (n + 1) 0 o1.length (.opn 1), .bool disp] false false)) :: (n + 1, some (.row 5 (zh o1) true false)) :: (n, some (.row 5 (zh [c]) false false)) :: (id, some (.row 54 [.ptr id 0, .nils, .bool disp] false false)) :: l) (n + 2) (mark (mark m id) id) b [] none) := by
 subst h1
 exact Xe o41 o72 l n m id b disp c hc hi hw
theorem U8 {O : Orc} (o38 : O 38 = none) (o72 : O 72 = none) (o74 : O 74 = none) (o96 : O 96 = none) (id : Nat) (disp : Bool) (c : Nat) (o1 : List Nat) (h1 : o1 = encC c) (hv : zr c = true) (l : List (Nat × Option AObj)) (n m : Nat) (b : Bool) (hi : id < n)
  (hw : getA l id = some (.row 54 [.nilp, .nils, .bool disp] false false)) :
  (evW env O).call 38 [.ptr id 0, .int .i32 (.ofNat c)] (KL l n m b [] none) = some (.tup [.int .i64 (.ofNat o1.length), .nili], KL ((id, some (.row 54 [.ptr id 0, .sl (n + 1) 0 o1.length (.opn 1), .bool disp] false false)) :: (n + 1, some (.row 5 (zh o1) true false)) :: (n, some (.row 5 (zh (encC c)) false false)) :: (id, some (.row 54 [.ptr id 0, .nils, .bool disp] false false)) :: l) (n + 2) (mark (mark m id) id) b [] none) := by
 subst h1
 exact H5 o38 o72 o74 o96 l n m id b disp c hv hi hw
theorem VN {O : Orc} (h : O 39 = some K0) (id : Nat) (disp : Bool) (t o1 : List Nat) (h1 : o1 = y7 disp t) (ht : t.length < 1000000) (ho : o1.length < 1000000) (h0 : o1 ≠ []) (l : List (Nat × Option AObj)) (n m : Nat) (b : Bool) (hi : id < n)
  (hw : getA l id = some (.row 54 [.nilp, .nils, .bool disp] false false)) :
  (evW env O).call 39 [.ptr id 0, .str t] (KL l n m b [] none) = some (.tup [], KL ((n, some (.row 5 (zh o1) true false)) :: (id, some (.row 54 [.ptr id 0, .sl n 0 o1.length (.opn 1), .bool disp] false false)) :: l) (n + 1) (mark m id) b [] none) := by
 subst h1
 exact GD (E := env) h Xm t disp ⟨ht, ho, h0⟩ l n m b id [.str t] rfl hi hw
theorem WQ {P : Program} {w0 : World} (B : Bx P w0) {O : Orc} (hO : OrcOk P w0 O) (o36 : O 36 = none) (o38 : O 38 = none) (o41 : O 41 = none) (o72 : O 72 = none) (o74 : O 74 = none) (o96 : O 96 = none) (o43 : O 43 = none) (h19 : O 19 = some gItm) (h37 : O 37 = some vN) (h39 : O 39 = some K0) (h42 : O 42 = some Za) {n : Nat} (hn : n ≤ 100000) (h20 : O 20 = some (gWd n)) (h40 : O 40 = some (gWa n)) (d : DT) (disp : Bool) (hg : GoodD (n + 1) d) (hb : (txN disp (n + 1) d).length < 1000000) (h0 : txN disp (n + 1) d ≠ []) :
  SC P w0 20 [.ptr 0 0, encD d] (H [some (xE 54 disp)] 0 true) (.tup []) (H [some (wrow 54 0 1 (txN disp (n + 1) d).length disp), some (brow 5 (txN disp (n + 1) d))] 1 true) := by
 refine Is.scK hO B.mixed B.glob B.env 1 (show env.funs.get 20 = some f20 from rfl) (Nat.le_of_ble_eq_true rfl) (zz9 rfl) fun C k => ?_
 have clist := @z5 env O _ _ o43 (show env.funs.get 43 = some f43 from rfl) rfl
 have htx := hg.2.1
 obtain ⟨kd, nn, tx, ks, p⟩ := d
 simp only [TxD] at htx
 obtain ⟨tx1, tx2, tx3⟩ := htx
 obtain ⟨T, hT⟩ : ∃ T, T = txN disp (n + 1) (.mk kd nn tx ks p) := ⟨_, rfl⟩
 rw [← hT] at hb h0 ⊢
 have hTl : T.length < 1000000 := hb
 rw [show txN disp (n + 1) (.mk kd nn tx ks p) = txK disp (txN disp n) (.mk kd nn tx ks p) kd from rfl] at hT
 have hcs := qp hg.1
 unfold f20
 simp only [Ko, Kd, Ki]
 rcases hcs with rfl | ⟨rfl, hcs⟩ | ⟨rfl, hcs⟩ | ⟨rfl, c, rfl, hv⟩ | ⟨rfl, hcs⟩ | ⟨rfl, hcs⟩ | ⟨rfl, hcs⟩ | ⟨rfl, hcs⟩ | rfl | rfl | rfl
 ·have e : T = [40, 41] := hT
  have hws := xG o36 o72 0 disp [40, 41] T e (by simp) (by omega)
  refine k.eval (by simp (disch := first | exact dis | fail) only [go_sem, seval, -reduceOfNat, -reduceNegSucc, encD, zb, xE, hws]; exact rfl) ?_
  try simp only [za, zg, Cut, if_true]
  apply zP [2] (by first | exact Or.inl rfl | exact Or.inr rfl)
  iterate 5 (simp (disch := first | exact dis | fail) only [go_sem, seval, -reduceOfNat, -reduceNegSucc, wrow, brow] <;> exact rfl)
 ·have hs0 : vSls (.str [102, 116]) (some (.int .i64 (.ofNat 0))) (some (.int .i64 (.ofNat 1))) = some (.str [102]) := rfl
  have hs1 : vSls (.str [102, 116]) (some (.int .i64 (.ofNat 1))) (some (.int .i64 (.ofNat 2))) = some (.str [116]) := rfl
  rcases hcs with rfl | rfl
  ·have e : T = [35, 102] := hT
   have hws := xG o36 o72 0 disp [35, 102] T e (by simp) (by omega)
   refine k.eval (by simp (disch := first | exact dis | fail) only [go_sem, seval, -reduceOfNat, -reduceNegSucc, encD, zb, xE, hws, hs0]; exact rfl) ?_
   try simp only [za, zg, Cut, if_true]
   apply zP [2] (by first | exact Or.inl rfl | exact Or.inr rfl)
   iterate 5 (simp (disch := first | exact dis | fail) only [go_sem, seval, -reduceOfNat, -reduceNegSucc, wrow, brow] <;> exact rfl)
  ·have e : T = [35, 116] := hT
   have hws := xG o36 o72 0 disp [35, 116] T e (by simp) (by omega)
   refine k.eval (by simp (disch := first | exact dis | fail) only [go_sem, seval, -reduceOfNat, -reduceNegSucc, encD, zb, xE, hws, hs1]; exact rfl) ?_
   try simp only [za, zg, Cut, if_true]
   apply zP [2] (by first | exact Or.inl rfl | exact Or.inr rfl)
   iterate 5 (simp (disch := first | exact dis | fail) only [go_sem, seval, -reduceOfNat, -reduceNegSucc, wrow, brow] <;> exact rfl)
 ·have e : T = tx := hT
  have hws := xG o36 o72 0 disp tx T e hcs (by omega)
  refine k.eval (by simp (disch := first | exact dis | fail) only [go_sem, seval, -reduceOfNat, -reduceNegSucc, encD, zb, xE, hws]; exact rfl) ?_
  try simp only [za, zg, Cut, if_true]
  apply zP [2] (by first | exact Or.inl rfl | exact Or.inr rfl)
  iterate 5 (simp (disch := first | exact dis | fail) only [go_sem, seval, -reduceOfNat, -reduceNegSucc, wrow, brow] <;> exact rfl)
 ·cases disp with
  | true =>
   have e : T = encC c := hT
   have hm := (zf.1 hv).1
   have hwr := U8 o38 o72 o74 o96 0 true c T e hv
   refine k.eval (by simp (disch := first | exact dis | fail) only [go_sem, seval, -reduceOfNat, -reduceNegSucc, encD, zb, xE, WN, hwr]; exact rfl) ?_
   try simp only [za, zg, Cut, if_true]
   apply zP [3] (by first | exact Or.inl rfl | exact Or.inr rfl)
   iterate 5 (simp (disch := first | exact dis | fail) only [go_sem, seval, -reduceOfNat, -reduceNegSucc, wrow, brow] <;> exact rfl)
  | false =>
   have e : T = 35 :: 92 :: x7 c := hT
   have hnm := jp (f := 37) h37 hv
   have hnl := vY c
   have hws := xG o36 o72 0 false (35 :: 92 :: x7 c) T e (by simp) (by omega)
   refine k.eval (by simp (disch := first | exact dis | fail) only [go_sem, seval, -reduceOfNat, -reduceNegSucc, encD, zb, xE, hnm, hws]; exact rfl) ?_
   try simp only [za, zg, Cut, if_true]
   apply zP [2] (by first | exact Or.inl rfl | exact Or.inr rfl)
   iterate 5 (simp (disch := first | exact dis | fail) only [go_sem, seval, -reduceOfNat, -reduceNegSucc, wrow, brow] <;> exact rfl)
 ·have e : T = y7 disp tx := hT
  have hwt := VN h39 0 disp tx T e (by omega) (by omega) h0
  refine k.eval (by simp (disch := first | exact dis | fail) only [go_sem, seval, -reduceOfNat, -reduceNegSucc, encD, zb, xE, hwt]; exact rfl) ?_
  try simp only [za, zg, Cut, if_true]
  apply zP [2] (by first | exact Or.inl rfl | exact Or.inr rfl)
  iterate 5 (simp (disch := first | exact dis | fail) only [go_sem, seval, -reduceOfNat, -reduceNegSucc, wrow, brow] <;> exact rfl)
 ·have e : T = tx := hT
  have hws := xG o36 o72 0 disp tx T e hcs (by omega)
  refine k.eval (by simp (disch := first | exact dis | fail) only [go_sem, seval, -reduceOfNat, -reduceNegSucc, encD, zb, xE, hws]; exact rfl) ?_
  try simp only [za, zg, Cut, if_true]
  apply zP [2] (by first | exact Or.inl rfl | exact Or.inr rfl)
  iterate 5 (simp (disch := first | exact dis | fail) only [go_sem, seval, -reduceOfNat, -reduceNegSucc, wrow, brow] <;> exact rfl)
 ·have hit := hg.items rfl
  have hitm := vy (f := 19) h19 (d := .mk (.ofNat 6) nn tx ks p) (by omega)
  simp only [itR] at hitm
  have e : T = ([40] ++ allT (txN disp n) (zm (.mk (.ofNat 6) nn tx ks p)).1 ++ endT (txN disp n) (zm (.mk (.ofNat 6) nn tx ks p)).2 ++ [41]) := hT
  revert e hitm hit
  generalize (zm (.mk (.ofNat 6) nn tx ks p)).1 = l
  generalize (zm (.mk (.ofNat 6) nn tx ks p)).2 = ed
  intro hit hitm e
  obtain ⟨hit1, hit2, _, hit3⟩ := hit
  have hk := hit2
  obtain ⟨ek, en, et, eks, ep⟩ := ed
  simp only [encD, zb] at hitm
  obtain ⟨o1, h1⟩ : ∃ o1, o1 = [40] := ⟨_, rfl⟩
  obtain ⟨o2, h2⟩ : ∃ o2, o2 = o1 ++ allT (txN disp n) l := ⟨_, rfl⟩
  have l1 := congrArg List.length h1
  have l2 := congrArg List.length h2
  simp only [List.length_append, List.length_cons, List.length_nil] at l1 l2
  by_cases hek : ek = .ofNat 0
  ·subst hek
   have e3 : T = o2 ++ [41] := by rw [e, h2, h1]; simp [endT, yV]
   have l3 := congrArg List.length e3
   simp only [List.length_append, List.length_cons, List.length_nil] at l3
   have hwb1 := pW o41 o72 0 disp 40 o1 h1 (by omega)
   have hwa := w6 h40 (by omega) hit1 0 5 o1 disp o2 h2 (by omega) (by omega)
   have hwb2 := wg o41 o72 0 6 o2 disp 41 T e3 (by omega) (by omega) (by omega)
   refine k.eval (by simp (disch := first | exact dis | fail) only [go_sem, seval, -reduceOfNat, -reduceNegSucc, encD, zb, xE, clist, f43, hitm, hwb1, hwa, hwb2]; exact rfl) ?_
   try simp only [za, zg, Cut, if_true]
   apply zP [8] (by first | exact Or.inl rfl | exact Or.inr rfl)
   iterate 5 (simp (disch := first | exact dis | fail) only [go_sem, seval, -reduceOfNat, -reduceNegSucc, wrow, brow] <;> exact rfl)
  ·obtain ⟨o3, h3⟩ : ∃ o3, o3 = o2 ++ [32, 46, 32] := ⟨_, rfl⟩
   obtain ⟨o4, h4⟩ : ∃ o4, o4 = o3 ++ txN disp n (.mk ek en et eks ep) := ⟨_, rfl⟩
   have het : endT (txN disp n) (.mk ek en et eks ep) = [32, 46, 32] ++ txN disp n (.mk ek en et eks ep) := if_neg hek
   have e3 : T = o4 ++ [41] := by rw [e, het, h4, h3, h2, h1]; simp
   have l3 := congrArg List.length e3
   have l4 := congrArg List.length h4
   have l5 := congrArg List.length h3
   simp only [List.length_append, List.length_cons, List.length_nil] at l3 l4 l5
   have hne := ym hek
   have hwb1 := pW o41 o72 0 disp 40 o1 h1 (by omega)
   have hwa := w6 h40 (by omega) hit1 0 5 o1 disp o2 h2 (by omega) (by omega)
   have hws := xC o36 o72 0 6 o2 disp [32, 46, 32] o3 h3 (by simp) (by omega) (by omega)
   have hwd := XS h20 hit2 0 7 o3 disp o4 h4 (by omega) (by omega)
   simp only [zb] at hwd
   have hwb2 := wg o41 o72 0 8 o4 disp 41 T e3 (by omega) (by omega) (by omega)
   refine k.eval (by simp (disch := first | exact dis | fail) only [go_sem, seval, -reduceOfNat, -reduceNegSucc, encD, zb, xE, clist, f43, hitm, hwb1, hwa, hne, hws, hwd, hwb2]; exact rfl) ?_
   try simp only [za, zg, Cut, if_true]
   apply zP [10] (by first | exact Or.inl rfl | exact Or.inr rfl)
   iterate 5 (simp (disch := first | exact dis | fail) only [go_sem, seval, -reduceOfNat, -reduceNegSucc, wrow, brow] <;> exact rfl)
 ·have hkl := yL ks
  have hkw := hg.2.2
  simp only [wtD, zu] at hkw
  obtain ⟨o1, h1⟩ : ∃ o1, o1 = [35, 40] := ⟨_, rfl⟩
  obtain ⟨o2, h2⟩ : ∃ o2, o2 = o1 ++ allT (txN disp n) ks := ⟨_, rfl⟩
  have e3 : T = o2 ++ [41] := by rw [hT, h2, h1]; simp [txK, yg]
  have l1 := congrArg List.length h1
  have l2 := congrArg List.length h2
  have l3 := congrArg List.length e3
  simp only [List.length_append, List.length_cons, List.length_nil] at l1 l2 l3
  have hws1 := xG o36 o72 0 disp [35, 40] o1 h1 (by simp) (by omega)
  have hwa := w6 h40 (by omega) (hg.kids rfl) 0 2 o1 disp o2 h2 (by omega) (by omega)
  have hwb2 := wg o41 o72 0 3 o2 disp 41 T e3 (by omega) (by omega) (by omega)
  refine k.eval (by simp (disch := first | exact dis | fail) only [go_sem, seval, -reduceOfNat, -reduceNegSucc, encD, zb, xE, hws1, hwa, hwb2]; exact rfl) ?_
  try simp only [za, zg, Cut, if_true]
  apply zP [5] (by first | exact Or.inl rfl | exact Or.inr rfl)
  iterate 5 (simp (disch := first | exact dis | fail) only [go_sem, seval, -reduceOfNat, -reduceNegSucc, wrow, brow] <;> exact rfl)
 ·have hn1 : 2 ≤ n := by have := hg.2.2; simp only [wtD, zu, yV, if_true] at this; omega
  have hnm := ZP (f := 42) h42 tx1 (by omega)
  simp only [gJ] at hnm
  obtain ⟨o1, h1⟩ : ∃ o1, o1 = [35, 117, 56, 40] := ⟨_, rfl⟩
  obtain ⟨o2, h2⟩ : ∃ o2, o2 = o1 ++ allT (txN disp n) (yK tx) := ⟨_, rfl⟩
  have e3 : T = o2 ++ [41] := by rw [hT, h2, h1, (jr (f := txN disp n) (g := yr) fun x hx => YU (by omega) hx).2]; simp [txK, yr]
  have l1 := congrArg List.length h1
  have l2 := congrArg List.length h2
  have l3 := congrArg List.length e3
  simp only [List.length_append, List.length_cons, List.length_nil] at l1 l2 l3
  have hws1 := xG o36 o72 0 disp [35, 117, 56, 40] o1 h1 (by simp) (by omega)
  have hwa := w6 h40 (by rw [yK, List.length_map]; omega) (fun d hd => gm hn1 tx1 hd) 0 2 o1 disp o2 h2 (by omega) (by omega)
  have hwb2 := wg o41 o72 0 3 o2 disp 41 T e3 (by omega) (by omega) (by omega)
  refine k.eval (by simp (disch := first | exact dis | fail) only [go_sem, seval, -reduceOfNat, -reduceNegSucc, encD, zb, xE, hws1, hnm, hwa, hwb2]; exact rfl) ?_
  try simp only [za, zg, Cut, if_true]
  apply zP [5] (by first | exact Or.inl rfl | exact Or.inr rfl)
  iterate 5 (simp (disch := first | exact dis | fail) only [go_sem, seval, -reduceOfNat, -reduceNegSucc, wrow, brow] <;> exact rfl)
 ·have e : T = [35, 33, 101, 111, 102] := hT
  have hws := xG o36 o72 0 disp [35, 33, 101, 111, 102] T e (by simp) (by omega)
  refine k.eval (by simp (disch := first | exact dis | fail) only [go_sem, seval, -reduceOfNat, -reduceNegSucc, encD, zb, xE, hws]; exact rfl) ?_
  try simp only [za, zg, Cut, if_true]
  apply zP [2] (by first | exact Or.inl rfl | exact Or.inr rfl)
  iterate 5 (simp (disch := first | exact dis | fail) only [go_sem, seval, -reduceOfNat, -reduceNegSucc, wrow, brow] <;> exact rfl)
 ·have e : T = [35, 33, 110, 111, 110, 101] := hT
  have hws := xG o36 o72 0 disp [35, 33, 110, 111, 110, 101] T e (by simp) (by omega)
  refine k.eval (by simp (disch := first | exact dis | fail) only [go_sem, seval, -reduceOfNat, -reduceNegSucc, encD, zb, xE, hws]; exact rfl) ?_
  try simp only [za, zg, Cut, if_true]
  apply zP [2] (by first | exact Or.inl rfl | exact Or.inr rfl)
  iterate 5 (simp (disch := first | exact dis | fail) only [go_sem, seval, -reduceOfNat, -reduceNegSucc, wrow, brow] <;> exact rfl)
end Go.Proofs.YthcmnajcjapjbaaGreatDoor.Ev

/- Contracts of functions that DatumTokens calls: what a call answers, for all data, by symbolic evaluation. No conditions of its own. -/
import Derived.Test.YthcmnajcjapjbaaGreatDoorEvG
import Derived.Test.YthcmnajcjapjbaaGreatDoorIrDatumTokens
set_option linter.unusedSimpArgs false
set_option linter.unusedVariables false
set_option linter.defProp false
namespace Go.Proofs.YthcmnajcjapjbaaGreatDoor.Ev
open T
set_option maxRecDepth 100000
structure Bx (P : Program) (w0 : World) : Prop where
 mixed : P.follows .mixedOrders = true
 glob : zH env.globs w0
 env : vg P env
def drow (d : DT) : AObj := .row 24 (zT d) false false
def zY : AObj := .row 24 [.int .i64 (.ofNat 0), .int .i64 (.ofNat 0), .str [], .nils, .int .i64 (.ofNat 0)] false false
theorem jN {a b : Int} (h : a ≠ b) : eqD a b = false := by simp [eqD, h]
theorem zw6 {a : Int} : eqD a a = true := by simp [eqD]
theorem xd (x y : DT) : zm [x, y] = zT x ++ zT y := by simp only [zF, zg, List.append_nil]
def accD (acc : List DT) : AV := match acc with
 | [] => .nils
 | t :: r => .gr 2 5 (t :: r).length (zm (t :: r))
def zK (acc : List DT) : List (Option AObj) := match acc with
 | [] => []
 | t :: r => [some (.app 24 (zm (t :: r)))]
theorem wu (d : DT) : zD (encD d) = true := by simp only [encD, wA, yr]
theorem xb {α : Type} (l : List α) (i : Nat) : (l.length ≤ i ∧ l.drop i = []) ∨ ∃ x, i < l.length ∧ l.drop i = x :: l.drop (i + 1) := by
 by_cases h : i < l.length
 ·exact .inr ⟨l[i], h, List.drop_eq_getElem_cons h⟩
 ·exact .inl ⟨by omega, List.drop_eq_nil_of_le (by omega)⟩
def CutP (p : Prop) (C : Cx) (fr1 : Fr) (s1 : St) (Q : Res → Fr → St → Prop) : Res → Fr → St → Prop
 | .norm, f, t => p ∧ Gc C f t fr1 s1
 | r, f, t => Q r f t
theorem zzg {C : Cx} {ia ib : ICode} {fr : Fr} {s : St} {Q : Res → Fr → St → Prop} (p : Prop) (fr1 : Fr) (s1 : St) (h1 : Tri C ia fr s (CutP p C fr1 s1 Q)) (h2 : p → Tri C ib fr1 s1 Q) : Tri C (.seq ia ib) fr s Q :=
 zd (h1.mono fun r f t => by
  cases r with
  | norm => exact fun h => YM h.2 (h2 h.1)
  | exit i => exact fun h => h
  | ret => exact fun h => h)
open Nat (reduceEqDiff reduceLeDiff reduceLT reduceAdd reduceMul reduceSub reduceMod reducePow reduceDiv reduceOr reduceShiftLeft reduceGT reduceSucc)
open List (length_cons length_nil length_take length_drop)
open Int (reduceOfNat reduceNegSucc)
set_option maxRecDepth 100000
set_option maxRecDepth 100000
def yx : DT → Option (DT × DT)
 | .mk kd _ _ ks _ => match ks with
  | [x, y] => if kd = .ofNat 6 then some (x, y) else none
  | _ => none
theorem xw {kd n : Int} {t : List Nat} {ks : List DT} {p : Int} {x y : DT} (h : yx (.mk kd n t ks p) = some (x, y)) : kd = .ofNat 6 ∧ ks = [x, y] := by
 simp only [yx] at h
 split at h
 ·split at h
  ·cases h; exact ⟨by assumption, rfl⟩
  ·cases h
 ·cases h
theorem vl {kd n : Int} {t : List Nat} {ks : List DT} {p : Int} (h : yx (.mk kd n t ks p) = none) (hk : kd = .ofNat 6) : ¬ ks.length = 2 := by
 subst hk
 intro hl
 match ks, hl with
 | [x, y], _ => simp [yx] at h
theorem vQ {d x y : DT} (h : yx d = some (x, y)) : SizeOf.sizeOf x < SizeOf.sizeOf d ∧ SizeOf.sizeOf y < SizeOf.sizeOf d := by
 obtain ⟨kd, n, t, ks, p⟩ := d
 obtain ⟨rfl, rfl⟩ := xw h
 simp only [DT.mk.sizeOf_spec, List.cons.sizeOf_spec, List.nil.sizeOf_spec]; omega
def u5 : Nat → DT → List DT × DT
 | 0, d => ([], d)
 | k + 1, d => match yx d with
  | some (x, y) => (x :: (u5 k y).1, (u5 k y).2)
  | none => ([], d)
noncomputable def z9 (d : DT) : List DT × DT := u5 (SizeOf.sizeOf d) d
theorem jf : ∀ {k m : Nat} {d : DT}, SizeOf.sizeOf d ≤ k → SizeOf.sizeOf d ≤ m → u5 k d = u5 m d
 | 0, _, d, h, _ => by cases d; simp only [DT.mk.sizeOf_spec] at h; omega
 | _ + 1, 0, d, _, h => by cases d; simp only [DT.mk.sizeOf_spec] at h; omega
 | k + 1, m + 1, d, h, h' => by
  simp only [u5]
  cases hk : yx d with
  | none => rfl
  | some xy =>
   obtain ⟨x, y⟩ := xy
   have := (vQ hk).2
   simp only
   rw [jf (k := k) (m := m) (by omega) (by omega)]
theorem vv {d x y : DT} (h : yx d = some (x, y)) : z9 d = (x :: (z9 y).1, (z9 y).2) := by
 have := vQ h
 unfold z9
 rw [jf (d := d) (m := SizeOf.sizeOf d + 1) (Nat.le_refl _) (by omega), u5, h]
 simp only
 rw [jf (d := y) (m := SizeOf.sizeOf y) (by omega) (Nat.le_refl _)]
theorem vw {d : DT} (h : yx d = none) : z9 d = ([], d) := by
 unfold z9
 rw [jf (d := d) (m := SizeOf.sizeOf d + 1) (Nat.le_refl _) (by omega), u5, h]
theorem LW {P : Program} {w0 : World} (B : Bx P w0) {O : Orc} (hO : OrcOk P w0 O) (o23 : O 23 = none) (d0 : DT) (hlen : (z9 d0).1.length < 1000000) :
  SC P w0 19 [encD d0] (H [] 0 true) (.tup [.lst (z9 d0).1.length false (zm (z9 d0).1), encD (z9 d0).2]) (H [] 0 true) := by
 refine Is.sc hO B.mixed B.glob B.env 0 (show env.funs.get 19 = some f19 from rfl) (Nat.le_of_ble_eq_true rfl) xf fun C k => ?_
 have cpair := @zQ env O _ _ o23 (show env.funs.get 23 = some f23 from rfl) rfl
 generalize hl : (z9 d0).1 = l at hlen ⊢
 generalize he : (z9 d0).2 = e
 unfold f19
 simp only [Ko, Kn, Kd, Kf, Ki]
 refine zd (k.eval (by simp (disch := first | exact dis | fail) only [go_sem, seval, -reduceOfNat, -reduceNegSucc, encD]; exact rfl) ?_)
 simp only [za]
 refine xO ⟨tmL [(3, .ptr 1 0), (2, accD l), (1, .ptr 0 0)], []⟩ (H ([some (drow e), some zY] ++ zK l) 0 true) (zW (yb (k.gcL [0, 1] [3, 2, 1] true (fr1 := ⟨tmL [(3, .ptr 1 0), (2, accD []), (1, .ptr 0 0)], []⟩) (s1 := H ([some (drow d0), some zY] ++ zK []) 0 true) (by simp (disch := first | exact dis | fail) only [go_sem, seval, -reduceOfNat, -reduceNegSucc, drow, zY, accD, zK, yr]) ?_))) ?_
 ·refine yh (fun x : List DT × DT => SizeOf.sizeOf x.2) (fun x => ⟨tmL [(3, .ptr 1 0), (2, accD x.1), (1, .ptr 0 0)], []⟩) (fun x => H ([some (drow x.2), some zY] ++ zK x.1) 0 true) (fun x => x.1 ++ (z9 x.2).1 = l ∧ (z9 x.2).2 = e) (fun x hx => ?_) ([], d0) ⟨hl, he⟩
  obtain ⟨acc, cur⟩ := x
  simp only at hx ⊢
  obtain ⟨hx1, hx2⟩ := hx
  have hc2 : acc.length < 1000000 := by rw [← hx1, List.length_append] at hlen; omega
  cases hkd : yx cur with
  | some xy =>
   obtain ⟨x, y⟩ := xy
   have hm := vQ hkd
   rw [vv hkd] at hx1 hx2
   obtain ⟨kd, n, t, ks, p⟩ := cur
   obtain ⟨rfl, rfl⟩ := xw hkd
   obtain ⟨xk, xn, xt, xks, xp⟩ := x
   obtain ⟨yk, yn, yt, yks, yp⟩ := y
   cases acc with
   | nil =>
    refine k.eval (by simp (disch := first | exact dis | fail) only [go_sem, seval, -reduceOfNat, -reduceNegSucc, accD, zK, drow, zY, zb, xd, cpair, f23]; exact rfl) ?_
    try simp only [za]
    refine ⟨([] ++ [⟨xk, xn, xt, xks, xp⟩], ⟨yk, yn, yt, yks, yp⟩), ⟨by rw [← hx1]; simp, hx2⟩, hm.2, ?_⟩
    refine k.gcs (keep := [0, 1, 2]) (live := [3, 2, 1]) (md := true) ?_
    simp only [List.cons_append, List.nil_append, accD, zK, zF, zg, zb, List.append_nil, List.length_cons, List.length_nil]
    simp (disch := first | exact dis | fail) only [go_sem, seval, -reduceOfNat, -reduceNegSucc, drow, zY, zb]
   | cons a0 ar =>
    have hp1 := zt (a0 :: ar)
    simp only [List.length_cons] at hc2
    refine k.eval (by simp (disch := first | exact dis | fail) only [go_sem, seval, -reduceOfNat, -reduceNegSucc, accD, zK, drow, zY, zb, xd, cpair, f23]; exact rfl) ?_
    try simp only [za]
    refine ⟨((a0 :: ar) ++ [⟨xk, xn, xt, xks, xp⟩], ⟨yk, yn, yt, yks, yp⟩), ⟨by rw [← hx1]; simp, hx2⟩, hm.2, ?_⟩
    refine k.gcs (keep := [0, 1, 3]) (live := [3, 2, 1]) (md := true) ?_
    simp only [List.cons_append, List.nil_append, accD, zK, zF, yi, zg, zb, List.append_nil, List.append_assoc, List.length_append, List.length_cons, List.length_nil]
    simp (disch := first | exact dis | fail) only [go_sem, seval, -reduceOfNat, -reduceNegSucc, drow, zY, zb, zt, yr]
  | none =>
   rw [vw hkd] at hx1 hx2
   simp only [List.append_nil] at hx1 hx2
   subst hx1; subst hx2
   obtain ⟨kd, n, t, ks, p⟩ := cur
   by_cases hk : kd = .ofNat 6
   ·have hl := vl hkd hk
    subst hk
    cases acc with
    | nil =>
     refine k.eval (by simp (disch := first | exact dis | fail) only [go_sem, seval, -reduceOfNat, -reduceNegSucc, accD, zK, drow, zY, zb, cpair, f23]; exact rfl) ?_
     try simp only [za, zj, Cut]
     refine k.gcs (keep := [0, 1]) (live := [3, 2, 1]) (md := true) ?_
     simp (disch := first | exact dis | fail) only [go_sem, seval, -reduceOfNat, -reduceNegSucc, accD, zK, drow, zY, zb]
    | cons a0 ar =>
     have hp1 := zt (a0 :: ar)
     refine k.eval (by simp (disch := first | exact dis | fail) only [go_sem, seval, -reduceOfNat, -reduceNegSucc, accD, zK, drow, zY, zb, cpair, f23]; exact rfl) ?_
     try simp only [za, zj, Cut]
     refine k.gcs (keep := [0, 1, 2]) (live := [3, 2, 1]) (md := true) ?_
     simp (disch := first | exact dis | fail) only [go_sem, seval, -reduceOfNat, -reduceNegSucc, accD, zK, drow, zY, zb, hp1]
   ·have hke : eqD kd (.ofNat 6) = false := jN hk
    cases acc with
    | nil =>
     refine k.eval (by simp (disch := first | exact dis | fail) only [go_sem, seval, -reduceOfNat, -reduceNegSucc, accD, zK, drow, zY, zb, cpair, f23, hke]; exact rfl) ?_
     try simp only [za, zj, Cut]
     refine k.gcs (keep := [0, 1]) (live := [3, 2, 1]) (md := true) ?_
     simp (disch := first | exact dis | fail) only [go_sem, seval, -reduceOfNat, -reduceNegSucc, accD, zK, drow, zY, zb]
    | cons a0 ar =>
     have hp1 := zt (a0 :: ar)
     refine k.eval (by simp (disch := first | exact dis | fail) only [go_sem, seval, -reduceOfNat, -reduceNegSucc, accD, zK, drow, zY, zb, cpair, f23, hke]; exact rfl) ?_
     try simp only [za, zj, Cut]
     refine k.gcs (keep := [0, 1, 2]) (live := [3, 2, 1]) (md := true) ?_
     simp (disch := first | exact dis | fail) only [go_sem, seval, -reduceOfNat, -reduceNegSucc, accD, zK, drow, zY, zb, hp1]
 ·obtain ⟨ek, en, et, eks, ep⟩ := e
  cases l with
  | nil =>
   refine zd (k.eval (by simp (disch := first | exact dis | fail) only [go_sem, seval, -reduceOfNat, -reduceNegSucc, accD, zK, drow, zY, zb]; exact rfl) ?_)
   simp only [za]
   refine k.eval (by simp (disch := first | exact dis | fail) only [go_sem, seval, -reduceOfNat, -reduceNegSucc]; exact rfl) ?_
   try simp only [za, zj, Cut, if_true]
   apply ze (Or.inr rfl)
   iterate 5 (simp (disch := first | exact dis | fail) only [go_sem, seval, -reduceOfNat, -reduceNegSucc, zg, z7, encD, zb] <;> exact rfl)
  | cons a0 ar =>
   have hp1 := zt (a0 :: ar)
   refine zd (k.eval (by simp (disch := first | exact dis | fail) only [go_sem, seval, -reduceOfNat, -reduceNegSucc, accD, zK, drow, zY, zb]; exact rfl) ?_)
   simp only [za]
   refine k.eval (by simp (disch := first | exact dis | fail) only [go_sem, seval, -reduceOfNat, -reduceNegSucc]; exact rfl) ?_
   try simp only [za, zj, Cut, if_true]
   apply ze (Or.inr rfl)
   iterate 5 (simp (disch := first | exact dis | fail) only [go_sem, seval, -reduceOfNat, -reduceNegSucc, z7, encD, zb] <;> exact rfl)
theorem Jv {P : Program} {w0 : World} (B : Bx P w0) {O : Orc} (hO : OrcOk P w0 O) (d0 : DT) (hlen : (z9 d0).1.length < 1000000) :
  SC P w0 27 [encD d0] (H [] 0 true) (.tup [.lst (z9 d0).1.length false (zm (z9 d0).1), encD (z9 d0).2]) (H [] 0 true) := by
 refine Is.sc hO B.mixed B.glob B.env 0 (show env.funs.get 27 = some f27 from rfl) (Nat.le_of_ble_eq_true rfl) xf fun C k => ?_
 generalize hl : (z9 d0).1 = l at hlen ⊢
 generalize he : (z9 d0).2 = e
 unfold f27
 simp only [Ko, Kg, Kn, Kd, Kf, Ki]
 refine zd (k.eval (by simp (disch := first | exact dis | fail) only [go_sem, seval, -reduceOfNat, -reduceNegSucc, encD]; exact rfl) ?_)
 simp only [za]
 refine zd (k.eval (by simp (disch := first | exact dis | fail) only [go_sem, seval, -reduceOfNat, -reduceNegSucc]; exact rfl) ?_)
 simp only [za]
 refine xO ⟨tmL [(4, accD l), (3, .ptr 1 0), (1, .ptr 0 0)], []⟩ (H ([some (drow e), some zY] ++ zK l) 0 true) (zW (yb (k.gcL [0, 1] [4, 3, 1] true (fr1 := ⟨tmL [(4, accD []), (3, .ptr 1 0), (1, .ptr 0 0)], []⟩) (s1 := H ([some (drow d0), some zY] ++ zK []) 0 true) (by simp (disch := first | exact dis | fail) only [go_sem, seval, -reduceOfNat, -reduceNegSucc, drow, zY, accD, zK, yr]) ?_))) ?_
 ·refine yh (fun x : List DT × DT => SizeOf.sizeOf x.2) (fun x => ⟨tmL [(4, accD x.1), (3, .ptr 1 0), (1, .ptr 0 0)], []⟩) (fun x => H ([some (drow x.2), some zY] ++ zK x.1) 0 true) (fun x => x.1 ++ (z9 x.2).1 = l ∧ (z9 x.2).2 = e) (fun x hx => ?_) ([], d0) ⟨hl, he⟩
  obtain ⟨acc, cur⟩ := x
  simp only at hx ⊢
  obtain ⟨hx1, hx2⟩ := hx
  have hc2 : acc.length < 1000000 := by rw [← hx1, List.length_append] at hlen; omega
  cases hkd : yx cur with
  | some xy =>
   obtain ⟨x, y⟩ := xy
   have hm := vQ hkd
   rw [vv hkd] at hx1 hx2
   obtain ⟨kd, n, t, ks, p⟩ := cur
   obtain ⟨rfl, rfl⟩ := xw hkd
   obtain ⟨xk, xn, xt, xks, xp⟩ := x
   obtain ⟨yk, yn, yt, yks, yp⟩ := y
   cases acc with
   | nil =>
    refine k.eval (by simp (disch := first | exact dis | fail) only [go_sem, seval, -reduceOfNat, -reduceNegSucc, accD, zK, drow, zY, zb, xd]; exact rfl) ?_
    try simp only [za]
    refine ⟨([] ++ [⟨xk, xn, xt, xks, xp⟩], ⟨yk, yn, yt, yks, yp⟩), ⟨by rw [← hx1]; simp, hx2⟩, hm.2, ?_⟩
    refine k.gcs (keep := [0, 1, 2]) (live := [4, 3, 1]) (md := true) ?_
    simp only [List.cons_append, List.nil_append, accD, zK, zF, zg, zb, List.append_nil, List.length_cons, List.length_nil]
    simp (disch := first | exact dis | fail) only [go_sem, seval, -reduceOfNat, -reduceNegSucc, drow, zY, zb]
   | cons a0 ar =>
    have hp1 := zt (a0 :: ar)
    simp only [List.length_cons] at hc2
    refine k.eval (by simp (disch := first | exact dis | fail) only [go_sem, seval, -reduceOfNat, -reduceNegSucc, accD, zK, drow, zY, zb, xd]; exact rfl) ?_
    try simp only [za]
    refine ⟨((a0 :: ar) ++ [⟨xk, xn, xt, xks, xp⟩], ⟨yk, yn, yt, yks, yp⟩), ⟨by rw [← hx1]; simp, hx2⟩, hm.2, ?_⟩
    refine k.gcs (keep := [0, 1, 3]) (live := [4, 3, 1]) (md := true) ?_
    simp only [List.cons_append, List.nil_append, accD, zK, zF, yi, zg, zb, List.append_nil, List.append_assoc, List.length_append, List.length_cons, List.length_nil]
    simp (disch := first | exact dis | fail) only [go_sem, seval, -reduceOfNat, -reduceNegSucc, drow, zY, zb, zt, yr]
  | none =>
   rw [vw hkd] at hx1 hx2
   simp only [List.append_nil] at hx1 hx2
   subst hx1; subst hx2
   obtain ⟨kd, n, t, ks, p⟩ := cur
   by_cases hk : kd = .ofNat 6
   ·have hl := vl hkd hk
    subst hk
    cases acc with
    | nil =>
     refine k.eval (by simp (disch := first | exact dis | fail) only [go_sem, seval, -reduceOfNat, -reduceNegSucc, accD, zK, drow, zY, zb]; exact rfl) ?_
     try simp only [za, zj, Cut]
     refine k.gcs (keep := [0, 1]) (live := [4, 3, 1]) (md := true) ?_
     simp (disch := first | exact dis | fail) only [go_sem, seval, -reduceOfNat, -reduceNegSucc, accD, zK, drow, zY, zb]
    | cons a0 ar =>
     have hp1 := zt (a0 :: ar)
     refine k.eval (by simp (disch := first | exact dis | fail) only [go_sem, seval, -reduceOfNat, -reduceNegSucc, accD, zK, drow, zY, zb]; exact rfl) ?_
     try simp only [za, zj, Cut]
     refine k.gcs (keep := [0, 1, 2]) (live := [4, 3, 1]) (md := true) ?_
     simp (disch := first | exact dis | fail) only [go_sem, seval, -reduceOfNat, -reduceNegSucc, accD, zK, drow, zY, zb, hp1]
   ·have hke : eqD kd (.ofNat 6) = false := jN hk
    cases acc with
    | nil =>
     refine k.eval (by simp (disch := first | exact dis | fail) only [go_sem, seval, -reduceOfNat, -reduceNegSucc, accD, zK, drow, zY, zb, hke]; exact rfl) ?_
     try simp only [za, zj, Cut]
     refine k.gcs (keep := [0, 1]) (live := [4, 3, 1]) (md := true) ?_
     simp (disch := first | exact dis | fail) only [go_sem, seval, -reduceOfNat, -reduceNegSucc, accD, zK, drow, zY, zb]
    | cons a0 ar =>
     have hp1 := zt (a0 :: ar)
     refine k.eval (by simp (disch := first | exact dis | fail) only [go_sem, seval, -reduceOfNat, -reduceNegSucc, accD, zK, drow, zY, zb, hke]; exact rfl) ?_
     try simp only [za, zj, Cut]
     refine k.gcs (keep := [0, 1, 2]) (live := [4, 3, 1]) (md := true) ?_
     simp (disch := first | exact dis | fail) only [go_sem, seval, -reduceOfNat, -reduceNegSucc, accD, zK, drow, zY, zb, hp1]
 ·obtain ⟨ek, en, et, eks, ep⟩ := e
  cases l with
  | nil =>
   refine zd (k.eval (by simp (disch := first | exact dis | fail) only [go_sem, seval, -reduceOfNat, -reduceNegSucc, accD, zK, drow, zY, zb]; exact rfl) ?_)
   simp only [za]
   refine k.eval (by simp (disch := first | exact dis | fail) only [go_sem, seval, -reduceOfNat, -reduceNegSucc]; exact rfl) ?_
   try simp only [za, zj, Cut, if_true]
   apply ze (Or.inr rfl)
   iterate 5 (simp (disch := first | exact dis | fail) only [go_sem, seval, -reduceOfNat, -reduceNegSucc, zg, z7, encD, zb] <;> exact rfl)
  | cons a0 ar =>
   have hp1 := zt (a0 :: ar)
   refine zd (k.eval (by simp (disch := first | exact dis | fail) only [go_sem, seval, -reduceOfNat, -reduceNegSucc, accD, zK, drow, zY, zb]; exact rfl) ?_)
   simp only [za]
   refine k.eval (by simp (disch := first | exact dis | fail) only [go_sem, seval, -reduceOfNat, -reduceNegSucc]; exact rfl) ?_
   try simp only [za, zj, Cut, if_true]
   apply ze (Or.inr rfl)
   iterate 5 (simp (disch := first | exact dis | fail) only [go_sem, seval, -reduceOfNat, -reduceNegSucc, z7, encD, zb] <;> exact rfl)
def uS (d : DT) : List AV := [encD d]
theorem VL : ∀ x y, uS x = uS y → x = y := fun d e h => by
 simp only [uS, List.cons.injEq, and_true] at h; exact uG h
theorem Ju (d : DT) : wkL [AV.agg (zT d)] = uS d := by simp only [uS, encD, wkL, wkV, wY]
theorem g8 (d : DT) : zu (uS d) = true := by simp only [uS, zB, wu, zI, Bool.and_self]
noncomputable def itR (d : DT) : AV := .tup [.lst (z9 d).1.length false (zm (z9 d).1), encD (z9 d).2]
noncomputable def gItm : List AV → St → Option (AV × St) := orc0 uS (fun d => (z9 d).1.length < 1000000) itR
theorem WX {O : Orc} {f : Nat} (h : O f = some gItm) {d : DT} (hi : (z9 d).1.length < 1000000) (s : St) : (evW env O).call f [.agg (zT d)] s = some (itR d, s) := by
 rw [zJ h, gItm, yM VL s d hi (Ju d)]
theorem Wu (d : DT) : zD (itR d) = true := by simp only [itR, yF, zB, yy, wu, zI, Bool.and_self]
theorem Kb {P : Program} {w0 : World} (B : Bx P w0) {O : Orc} (hO : OrcOk P w0 O) : OrcOk P w0 (withG 19 gItm (withG 27 gItm O)) :=
 (hO.withG yV (wP true g8 Wu fun d hd => ⟨_, Jv B (xr P w0) d hd⟩)).withG yV (wP true g8 Wu fun d hd => ⟨_, LW B (xr P w0) rfl d hd⟩)
set_option maxRecDepth 100000
mutual
def zR : DT → Nat
 | .mk _ _ _ ks _ => 1 + zO ks
def zO : List DT → Nat
 | [] => 0
 | d :: r => zR d + zO r
end
theorem w6 : ∀ d, 0 < zR d
 | .mk _ _ _ ks _ => by simp only [zR]; omega
theorem wo : ∀ l, l.length ≤ zO l
 | [] => Nat.le_refl _
 | d :: r => by simp only [zO, List.length_cons]; have := wo r; have := w6 d; omega
theorem xS : ∀ {l : List DT} {d : DT}, d ∈ l → zR d ≤ zO l
 | [], d, h => by cases h
 | x :: r, d, h => by
  simp only [zO]
  rcases List.mem_cons.1 h with rfl | h
  ·omega
  ·have := xS h; omega
theorem qZ {d x y : DT} (h : yx d = some (x, y)) : zR d = 1 + zR x + zR y := by
 obtain ⟨kd, n, t, ks, p⟩ := d
 obtain ⟨rfl, rfl⟩ := xw h
 simp only [zR, zO]; omega
theorem gI (d : DT) : zO (z9 d).1 + zR (z9 d).2 ≤ zR d := by
 have key : ∀ (k : Nat) (d : DT), SizeOf.sizeOf d < k → zO (z9 d).1 + zR (z9 d).2 ≤ zR d := by
  intro k
  induction k with
  | zero => intro d h; omega
  | succ k ih =>
   intro d h
   cases hk : yx d with
   | none => rw [vw hk]; simp only [zO]; omega
   | some xy =>
    obtain ⟨x, y⟩ := xy
    have := ih y (by have := (vQ hk).2; omega)
    have h2 := qZ hk
    rw [vv hk]; simp only [zO]; omega
 exact key _ d (Nat.lt_succ_self _)
def jB : DT → Int | .mk k _ _ _ _ => k
def numD : DT → Int | .mk _ n _ _ _ => n
def y8 : DT → List Nat | .mk _ _ t _ _ => t
def wa : DT → List DT | .mk _ _ _ ks _ => ks
theorem qm (d : DT) : zR d = 1 + zO (wa d) := by cases d; simp only [zR, wa]
def yO (f : DT → DT → Bool) : List DT → List DT → Bool
 | [], [] => true
 | x :: r, y :: s => f x y && yO f r s
 | _, _ => false
theorem gX {f : DT → DT → Bool} : ∀ {l m : List DT}, l.length ≠ m.length → yO f l m = false
 | [], [], h => absurd rfl h
 | [], _ :: _, _ => rfl
 | _ :: _, [], _ => rfl
 | x :: r, y :: s, h => by simp only [yO, gX (l := r) (m := s) (by simpa using h), Bool.and_false]
theorem vG {f g : DT → DT → Bool} : ∀ {l m : List DT}, (∀ x ∈ l, ∀ y, f x y = g x y) → yO f l m = yO g l m
 | [], [], _ => rfl
 | [], _ :: _, _ => rfl
 | _ :: _, [], _ => rfl
 | x :: r, y :: s, h => by simp only [yO, h x (by simp), vG (l := r) (m := s) fun z hz => h z (by simp [hz])]
def uy : Nat → DT → DT → Bool
 | 0, _, _ => false
 | k + 1, a, b => match yx a, yx b with
  | some p, some q => uy k p.1 q.1 && uy k p.2 q.2
  | _, _ => eqD (jB a) (jB b) && (eqD (numD a) (numD b) && (eqS (y8 a) (y8 b) && yO (uy k) (wa a) (wa b)))
def xV (a b : DT) : Bool := uy (zR a) a b
theorem qe : ∀ {k m : Nat} {a b : DT}, zR a ≤ k → zR a ≤ m → uy k a b = uy m a b
 | 0, _, a, _, h, _ => by have := w6 a; omega
 | _ + 1, 0, a, _, _, h => by have := w6 a; omega
 | k + 1, m + 1, a, b, h, h' => by
  have hk := qm a
  have e : yO (uy k) (wa a) (wa b) = yO (uy m) (wa a) (wa b) := vG fun x hx y => by
   have := xS hx
   exact qe (by omega) (by omega)
  simp only [uy]
  rw [e]
  cases hka : yx a with
  | none => rfl
  | some p =>
   cases hkb : yx b with
   | none => rfl
   | some q =>
    have := qZ (x := p.1) (y := p.2) hka
    simp only
    rw [qe (k := k) (m := m) (a := p.1) (by omega) (by omega), qe (k := k) (m := m) (a := p.2) (by omega) (by omega)]
theorem VK {a b : DT} {p q : DT × DT} (ha : yx a = some p) (hb : yx b = some q) : xV a b = (xV p.1 q.1 && xV p.2 q.2) := by
 have := qZ (x := p.1) (y := p.2) ha
 unfold xV
 rw [qe (m := zR a + 1) (Nat.le_refl _) (by omega), uy, ha, hb]
 simp only
 rw [qe (k := zR a) (m := zR p.1) (by omega) (Nat.le_refl _), qe (k := zR a) (m := zR p.2) (by omega) (Nat.le_refl _)]
theorem pk {a b : DT} (h : yx a = none ∨ yx b = none) : xV a b = (eqD (jB a) (jB b) && (eqD (numD a) (numD b) && (eqS (y8 a) (y8 b) && yO xV (wa a) (wa b)))) := by
 have hk := qm a
 have e : yO (uy (zR a)) (wa a) (wa b) = yO xV (wa a) (wa b) := vG fun x hx y => by
  have := xS hx
  exact qe (by omega) (Nat.le_refl _)
 unfold xV at e ⊢
 rw [qe (m := zR a + 1) (Nat.le_refl _) (by omega), uy, e]
 rcases h with h | h
 ·rw [h]
 ·rw [h]; cases yx a <;> rfl
def gW (x : DT × DT) : List AV := [encD x.1, encD x.2]
theorem Ys : ∀ x y, gW x = gW y → x = y := fun ⟨a, b⟩ ⟨c, d⟩ h => by
 simp only [gW, List.cons.injEq, and_true] at h
 rw [uG h.1, uG h.2]
theorem lV (x : DT × DT) : zu (gW x) = true := by simp only [gW, zB, wu, zI, Bool.and_self]
noncomputable def km (N : Nat) : List AV → St → Option (AV × St) := orc0 gW (fun x => zR x.1 < N) (fun x => .bool (xV x.1 x.2))
theorem gu {O : Orc} {f N : Nat} (h : O f = some (km N)) {a b : DT} (hn : zR a < N) (s : St) : (evW env O).call f [.agg (zT a), .agg (zT b)] s = some (.bool (xV a b), s) := by
 rw [zJ h, km, yM Ys s (a, b) hn (by simp only [gW, encD, wkL, wkV, wY])]
def kv (f : Nat) (x : List DT × List DT) : List AV := [.lst x.1.length false (zm x.1), .lst x.2.length false (zm x.2), .fn f [] []]
theorem KV (f : Nat) : ∀ x y, kv f x = kv f y → x = y := fun ⟨a, b⟩ ⟨c, d⟩ h => by
 simp only [kv, List.cons.injEq, AV.lst.injEq, true_and, and_true] at h
 rw [qW h.1.2, qW h.2.2]
theorem QO (f : Nat) (x : List DT × List DT) : zu (kv f x) = true := by simp only [kv, zB, yy, lP, zI, Bool.and_self]
noncomputable def gEqf (N : Nat) : List AV → St → Option (AV × St) := orc0 (kv 13) (fun x => zO x.1 < N) (fun x => .bool (yO xV x.1 x.2))
theorem Pd {O : Orc} {N : Nat} (h : O 31 = some (gEqf N)) {a b : List DT} (hn : zO a < N) (s : St) : (evW env O).call 31 [.lst a.length false (zm a), .lst b.length false (zm b), .fn 13 [] []] s = some (.bool (yO xV a b), s) := by
 rw [zJ h, gEqf, yM (KV _) s (a, b) hn (by simp only [kv, wkL, wkV, z7])]
theorem zwo {P : Program} {w0 : World} (B : Bx P w0) {O : Orc} (hO : OrcOk P w0 O) {N : Nat} (h13 : O 13 = some (km N)) (hN : N ≤ 100000) (a b : List DT) (hn : zO a < N) :
  SC P w0 31 (kv 13 (a, b)) (H [] 0 true) (.bool (yO xV a b)) (H [] 0 true) := by
 refine Is.sc hO B.mixed B.glob B.env 0 (show env.funs.get 31 = some f31 from rfl) (Nat.le_of_ble_eq_true rfl) xf fun C k => ?_
 unfold f31
 simp only [Ko, Kn, Ki]
 refine zd (k.eval (by simp (disch := first | exact dis | fail) only [go_sem, seval, -reduceOfNat, -reduceNegSucc, kv]; exact rfl) ?_)
 simp only [za]
 by_cases hl : a.length = b.length
 ·have hla := wo a
  refine zd (k.eval (by simp (disch := first | exact dis | fail) only [go_sem, seval, -reduceOfNat, -reduceNegSucc, hl]; exact rfl) ?_)
  simp only [za]
  refine zzg (p := yO xV a b = true) ⟨tmL [], []⟩ (H [] 0 true) ?_ ?_
  ·
   refine zd (k.eval (by simp (disch := first | exact dis | fail) only [go_sem, seval, -reduceOfNat, -reduceNegSucc]; exact rfl) ?_)
   simp only [za]
   refine zW (yb (k.gcL [] [17, 16, 15, 2, 1] true (fr1 := ⟨tmL [(17, .int .i64 (.ofNat 0)), (16, .int .i64 (.ofNat b.length)), (15, .lst b.length false (zm a)), (2, .fn 13 [] []), (1, .lst b.length false (zm b))], []⟩) (s1 := H [] 0 true) (by simp (disch := first | exact dis | fail) only [go_sem, seval, -reduceOfNat, -reduceNegSucc]) ?_))
   refine yh (fun i : Nat => a.length - i) (fun i => ⟨tmL [(17, .int .i64 (.ofNat i)), (16, .int .i64 (.ofNat b.length)), (15, .lst b.length false (zm a)), (2, .fn 13 [] []), (1, .lst b.length false (zm b))], []⟩) (fun _ => H [] 0 true) (fun i => i ≤ a.length ∧ yO xV (a.drop i) (b.drop i) = yO xV a b) (fun i hi => ?_) 0 ⟨Nat.zero_le _, rfl⟩
   obtain ⟨g1, g2⟩ := hi
   rcases xb a i with ⟨hi, hd⟩ | ⟨x, hi, hd⟩
   ·have hlt : ¬ i < b.length := by omega
    have hd2 : b.drop i = [] := List.drop_eq_nil_of_le (by omega)
    rw [hd, hd2] at g2
    refine k.eval (by simp (disch := first | exact dis | fail) only [go_sem, seval, -reduceOfNat, -reduceNegSucc, hlt]; exact rfl) ?_
    try simp only [za, zj]
    simp only [CutP]
    refine ⟨g2.symm, ?_⟩
    refine k.gcs (keep := []) (live := []) (md := true) ?_
    simp (disch := first | exact dis | fail) only [go_sem, seval, -reduceOfNat, -reduceNegSucc]
   ·rcases xb b i with ⟨hi2, _⟩ | ⟨y, hi2, hd2⟩
    ·omega
    have hnx : zR x < N := by
     have h1 : x ∈ a := List.mem_of_mem_drop (by rw [hd]; exact List.mem_cons_self)
     have := xS h1; omega
    have hc := gu (f := 13) h13 (b := y) hnx
    have hdr : yw (i * 5) (zm a) = zT x ++ zm (a.drop (i + 1)) := by rw [yR, hd, zF]
    have hdr2 : yw (i * 5) (zm b) = zT y ++ zm (b.drop (i + 1)) := by rw [yR, hd2, zF]
    rw [hd, hd2] at g2
    simp only [yO] at g2
    obtain ⟨xk, xn, xt, xks, xp⟩ := x
    obtain ⟨yk, yn, yt, yks, yp⟩ := y
    simp only [zb] at hc
    cases hsm : xV (.mk xk xn xt xks xp) (.mk yk yn yt yks yp) with
    | true =>
     rw [hsm] at hc g2
     refine k.eval (by simp (disch := first | exact dis | fail) only [go_sem, seval, -reduceOfNat, -reduceNegSucc, hi2, hdr, hdr2, zb, hc]; exact rfl) ?_
     try simp only [za]
     refine ⟨i + 1, ⟨by omega, by rw [← g2, Bool.true_and]⟩, by omega, ?_⟩
     refine k.gcs (keep := []) (live := [17, 16, 15, 2, 1]) (md := true) ?_
     simp (disch := first | exact dis | fail) only [go_sem, seval, -reduceOfNat, -reduceNegSucc]
    | false =>
     rw [hsm] at hc g2
     refine k.eval (by simp (disch := first | exact dis | fail) only [go_sem, seval, -reduceOfNat, -reduceNegSucc, hi2, hdr, hdr2, zb, hc]; exact rfl) ?_
     try simp only [za, zj]
     simp only [CutP]
     rw [← g2]
     apply ze (Or.inr rfl)
     iterate 5 (simp (disch := first | exact dis | fail) only [go_sem, seval, -reduceOfNat, -reduceNegSucc] <;> exact rfl)
  ·intro hp
   rw [hp]
   refine zd (k.eval (by simp (disch := first | exact dis | fail) only [go_sem, seval, -reduceOfNat, -reduceNegSucc]; exact rfl) ?_)
   simp only [za]
   refine k.eval (by simp (disch := first | exact dis | fail) only [go_sem, seval, -reduceOfNat, -reduceNegSucc]; exact rfl) ?_
   try simp only [za, zj, Cut, if_true]
   apply ze (Or.inr rfl)
   iterate 5 (simp (disch := first | exact dis | fail) only [go_sem, seval, -reduceOfNat, -reduceNegSucc] <;> exact rfl)
 ·rw [gX hl]
  refine k.eval (by simp (disch := first | exact dis | fail) only [go_sem, seval, -reduceOfNat, -reduceNegSucc, hl]; exact rfl) ?_
  try simp only [za, zj, Cut, if_true]
  apply ze (Or.inr rfl)
  iterate 5 (simp (disch := first | exact dis | fail) only [go_sem, seval, -reduceOfNat, -reduceNegSucc] <;> exact rfl)
set_option maxRecDepth 100000
def Gcx {α : Type} (p : α → Prop) (C : Cx) (fr1 : α → Fr) (s1 : α → St) (Q : Res → Fr → St → Prop) : Res → Fr → St → Prop
 | .norm, f, t => ∃ x, p x ∧ Gc C f t (fr1 x) (s1 x)
 | r, f, t => Q r f t
theorem wI {α : Type} {C : Cx} {ia ib : ICode} {fr : Fr} {s : St} {Q : Res → Fr → St → Prop} (p : α → Prop) (fr1 : α → Fr) (s1 : α → St) (h1 : Tri C ia fr s (Gcx p C fr1 s1 Q)) (h2 : ∀ x, p x → Tri C ib (fr1 x) (s1 x) Q) : Tri C (.seq ia ib) fr s Q :=
 zd (h1.mono fun r f t => by
  cases r with
  | norm => exact fun ⟨x, hp, hg⟩ => YM hg (h2 x hp)
  | exit i => exact fun h => h
  | ret => exact fun h => h)
theorem Ue : ∀ {a b : List Nat}, eqS a b = true → a = b
 | [], [], _ => rfl
 | [], _ :: _, h => by cases h
 | _ :: _, [], h => by cases h
 | x :: r, y :: s, h => by
  simp only [eqS] at h
  cases hb : Nat.beq x y with
  | false => rw [hb] at h; cases h
  | true => rw [hb] at h; rw [zw.1 hb, Ue h]
theorem pL : ∀ a : List Nat, eqS a a = true
 | [] => rfl
 | x :: r => by simp only [eqS, zw.2 (rfl : x = x), cond_true]; exact pL r
theorem V4 {kd n : Int} {t : List Nat} {ks : List DT} {p : Int} (h : yx (.mk kd n t ks p) = none) : (eqD kd (.ofNat 6) = false) ∨ (kd = .ofNat 6 ∧ ¬ ks.length = 2) := by
 by_cases hk : kd = .ofNat 6
 ·exact .inr ⟨hk, vl h hk⟩
 ·exact .inl (jN hk)
theorem zzR {P : Program} {w0 : World} (B : Bx P w0) {O : Orc} (hO : OrcOk P w0 O) (o23 : O 23 = none) {N : Nat} (h31 : O 31 = some (gEqf N)) (h13 : O 13 = some (km N)) (a0 b0 : DT) (hN : zR a0 < N + 1) :
  SC P w0 13 [encD a0, encD b0] (H [] 0 true) (.bool (xV a0 b0)) (H [] 0 true) := by
 refine Is.sc hO B.mixed B.glob B.env 0 (show env.funs.get 13 = some f13 from rfl) (Nat.le_of_ble_eq_true rfl) xf fun C k => ?_
 have cpair := @zQ env O _ _ o23 (show env.funs.get 23 = some f23 from rfl) rfl
 generalize hres : xV a0 b0 = res
 unfold f13
 simp only [Ko, Kg, Kd, Kf, Ki]
 refine zd (k.eval (by simp (disch := first | exact dis | fail) only [go_sem, seval, -reduceOfNat, -reduceNegSucc, encD]; exact rfl) ?_)
 simp only [za]
 refine wI (fun x : DT × DT => xV x.1 x.2 = res ∧ (yx x.1 = none ∨ yx x.2 = none) ∧ zR x.1 < N + 1) (fun _ => ⟨tmL [(4, .bool false), (3, .ptr 1 0), (2, .ptr 0 0)], []⟩) (fun x => H [some (drow x.1), some (drow x.2)] 0 true) (zW (yb (k.gcL [0, 1] [4, 3, 2] true (fr1 := ⟨tmL [(4, .bool false), (3, .ptr 1 0), (2, .ptr 0 0)], []⟩) (s1 := H [some (drow a0), some (drow b0)] 0 true) (by simp (disch := first | exact dis | fail) only [go_sem, seval, -reduceOfNat, -reduceNegSucc, drow, yr]) ?_))) ?_
 ·refine yh (fun x : DT × DT => zR x.1) (fun x => ⟨tmL [(4, .bool false), (3, .ptr 1 0), (2, .ptr 0 0)], []⟩) (fun x => H [some (drow x.1), some (drow x.2)] 0 true) (fun x => xV x.1 x.2 = res ∧ zR x.1 < N + 1) (fun x hx => ?_) (a0, b0) ⟨hres, hN⟩
  obtain ⟨⟨ak, an, at_, aks, ap⟩, ⟨bk, bn, bt, bks, bp⟩⟩ := x
  obtain ⟨g1, g2⟩ := hx
  simp only at g1 g2 ⊢
  cases hka : yx (.mk ak an at_ aks ap) with
  | none =>
   rcases V4 hka with he | ⟨rfl, hl⟩
   ·
    refine k.eval (by simp (disch := first | exact dis | fail) only [go_sem, seval, -reduceOfNat, -reduceNegSucc, drow, zb, cpair, f23, he]; exact rfl) ?_
    try simp only [za, zj]
    simp only [Gcx]
    refine ⟨(.mk ak an at_ aks ap, .mk bk bn bt bks bp), ⟨g1, .inl hka, g2⟩, ?_⟩
    refine k.gcs (keep := [0, 1]) (live := [4, 3, 2]) (md := true) ?_
    simp (disch := first | exact dis | fail) only [go_sem, seval, -reduceOfNat, -reduceNegSucc, drow, zb]
   ·
    refine k.eval (by simp (disch := first | exact dis | fail) only [go_sem, seval, -reduceOfNat, -reduceNegSucc, drow, zb, cpair, f23, hl]; exact rfl) ?_
    try simp only [za, zj]
    simp only [Gcx]
    refine ⟨(.mk (.ofNat 6) an at_ aks ap, .mk bk bn bt bks bp), ⟨g1, .inl hka, g2⟩, ?_⟩
    refine k.gcs (keep := [0, 1]) (live := [4, 3, 2]) (md := true) ?_
    simp (disch := first | exact dis | fail) only [go_sem, seval, -reduceOfNat, -reduceNegSucc, drow, zb]
  | some p =>
   obtain ⟨⟨xk, xn, xt, xks, xp⟩, ⟨yk, yn, yt, yks, yp⟩⟩ := p
   have hna := qZ hka
   cases hkb : yx (.mk bk bn bt bks bp) with
   | none =>
    obtain ⟨rfl, rfl⟩ := xw hka
    rcases V4 hkb with he | ⟨rfl, hl⟩
    ·
     refine k.eval (by simp (disch := first | exact dis | fail) only [go_sem, seval, -reduceOfNat, -reduceNegSucc, drow, zb, xd, cpair, f23, he]; exact rfl) ?_
     try simp only [za, zj]
     simp only [Gcx]
     refine ⟨(.mk (.ofNat 6) an at_ [.mk xk xn xt xks xp, .mk yk yn yt yks yp] ap, .mk bk bn bt bks bp), ⟨g1, .inr hkb, g2⟩, ?_⟩
     refine k.gcs (keep := [0, 1]) (live := [4, 3, 2]) (md := true) ?_
     simp (disch := first | exact dis | fail) only [go_sem, seval, -reduceOfNat, -reduceNegSucc, drow, zb, xd]
    ·
     refine k.eval (by simp (disch := first | exact dis | fail) only [go_sem, seval, -reduceOfNat, -reduceNegSucc, drow, zb, xd, cpair, f23, hl]; exact rfl) ?_
     try simp only [za, zj]
     simp only [Gcx]
     refine ⟨(.mk (.ofNat 6) an at_ [.mk xk xn xt xks xp, .mk yk yn yt yks yp] ap, .mk (.ofNat 6) bn bt bks bp), ⟨g1, .inr hkb, g2⟩, ?_⟩
     refine k.gcs (keep := [0, 1]) (live := [4, 3, 2]) (md := true) ?_
     simp (disch := first | exact dis | fail) only [go_sem, seval, -reduceOfNat, -reduceNegSucc, drow, zb, xd]
   | some q =>
    obtain ⟨⟨uk, un, ut, uks, up⟩, ⟨vk, vn, vt, vks, vp⟩⟩ := q
    have hsp := VK hka hkb
    simp only at hsp
    obtain ⟨rfl, rfl⟩ := xw hka
    obtain ⟨rfl, rfl⟩ := xw hkb
    rw [hsp] at g1
    have hc := gu (f := 13) h13 (a := .mk xk xn xt xks xp) (b := .mk uk un ut uks up) (by have := w6 (.mk yk yn yt yks yp); omega)
    simp only [zb] at hc
    cases hsm : xV (.mk xk xn xt xks xp) (.mk uk un ut uks up) with
    | true =>
     rw [hsm] at hc g1
     refine k.eval (by simp (disch := first | exact dis | fail) only [go_sem, seval, -reduceOfNat, -reduceNegSucc, drow, zb, xd, cpair, f23, hc]; exact rfl) ?_
     try simp only [za]
     refine ⟨(.mk yk yn yt yks yp, .mk vk vn vt vks vp), ⟨by rw [← g1, Bool.true_and], by simp only; omega⟩, by simp only; omega, ?_⟩
     refine k.gcs (keep := [0, 1]) (live := [4, 3, 2]) (md := true) ?_
     simp (disch := first | exact dis | fail) only [go_sem, seval, -reduceOfNat, -reduceNegSucc, drow, zb]
    | false =>
     rw [hsm] at hc g1
     refine k.eval (by simp (disch := first | exact dis | fail) only [go_sem, seval, -reduceOfNat, -reduceNegSucc, drow, zb, xd, cpair, f23, hc]; exact rfl) ?_
     try simp only [za, zj]
     simp only [Gcx]
     rw [← g1]
     apply ze (Or.inr rfl)
     iterate 5 (simp (disch := first | exact dis | fail) only [go_sem, seval, -reduceOfNat, -reduceNegSucc] <;> exact rfl)
 ·rintro ⟨⟨ak, an, at_, aks, ap⟩, ⟨bk, bn, bt, bks, bp⟩⟩ ⟨g1, g2, g3⟩
  simp only at g1 g2 g3
  rw [pk g2] at g1
  simp only [jB, numD, y8, wa] at g1
  have hn := qm (.mk ak an at_ aks ap)
  simp only [wa] at hn
  have hc := Pd h31 (a := aks) (b := bks) (by omega)
  cases h1 : eqD ak bk with
  | false =>
   rw [h1] at g1; subst g1
   refine zd (k.eval (by simp (disch := first | exact dis | fail) only [go_sem, seval, -reduceOfNat, -reduceNegSucc, drow, zb, h1]; exact rfl) ?_)
   simp only [za]
   refine k.eval (by simp (disch := first | exact dis | fail) only [go_sem, seval, -reduceOfNat, -reduceNegSucc]; exact rfl) ?_
   try simp only [za, zj, Cut, if_true]
   apply ze (Or.inr rfl)
   iterate 5 (simp (disch := first | exact dis | fail) only [go_sem, seval, -reduceOfNat, -reduceNegSucc] <;> exact rfl)
  | true =>
   cases h2 : eqD an bn with
   | false =>
    rw [h1, h2] at g1; subst g1
    refine zd (k.eval (by simp (disch := first | exact dis | fail) only [go_sem, seval, -reduceOfNat, -reduceNegSucc, drow, zb, h1, h2]; exact rfl) ?_)
    simp only [za]
    refine k.eval (by simp (disch := first | exact dis | fail) only [go_sem, seval, -reduceOfNat, -reduceNegSucc]; exact rfl) ?_
    try simp only [za, zj, Cut, if_true]
    apply ze (Or.inr rfl)
    iterate 5 (simp (disch := first | exact dis | fail) only [go_sem, seval, -reduceOfNat, -reduceNegSucc] <;> exact rfl)
   | true =>
    cases h3 : eqS at_ bt with
    | true =>
     rw [h1, h2, h3] at g1; subst g1
     have h4 : at_ = bt := Ue h3
     subst h4
     refine zd (k.eval (by simp (disch := first | exact dis | fail) only [go_sem, seval, -reduceOfNat, -reduceNegSucc, drow, zb, h1, h2, hc]; exact rfl) ?_)
     simp only [za]
     refine k.eval (by simp (disch := first | exact dis | fail) only [go_sem, seval, -reduceOfNat, -reduceNegSucc]; exact rfl) ?_
     try simp only [za, zj, Cut, if_true]
     apply ze (Or.inr rfl)
     iterate 5 (simp (disch := first | exact dis | fail) only [go_sem, seval, -reduceOfNat, -reduceNegSucc] <;> exact rfl)
    | false =>
     rw [h1, h2, h3] at g1; subst g1
     have h4 : ¬ at_ = bt := fun h => by rw [h, pL] at h3; cases h3
     refine zd (k.eval (by simp (disch := first | exact dis | fail) only [go_sem, seval, -reduceOfNat, -reduceNegSucc, drow, zb, h1, h2, h4]; exact rfl) ?_)
     simp only [za]
     refine k.eval (by simp (disch := first | exact dis | fail) only [go_sem, seval, -reduceOfNat, -reduceNegSucc]; exact rfl) ?_
     try simp only [za, zj, Cut, if_true]
     apply ze (Or.inr rfl)
     iterate 5 (simp (disch := first | exact dis | fail) only [go_sem, seval, -reduceOfNat, -reduceNegSucc] <;> exact rfl)
set_option maxRecDepth 100000
set_option maxRecDepth 100000
def isCh (c : Int) : Bool := match c with
 | .ofNat n => zX n
 | .negSucc _ => false
theorem zf {n : Nat} : zX n = true ↔ n ≤ 1114111 ∧ (n < 55296 ∨ 57343 < n) := by
 unfold zX
 rw [wK]
 by_cases h : n < 55296
 ·rw [if_pos h]; simp; omega
 ·rw [if_neg h, Bool.and_eq_true, zL, zL]; omega
theorem zxv {n : Nat} : isCh (.ofNat n) = decide (n ≤ 1114111 ∧ (n < 55296 ∨ 57343 < n)) := by
 show zX n = _
 by_cases h : n ≤ 1114111 ∧ (n < 55296 ∨ 57343 < n)
 ·rw [zf.2 h]; exact (decide_eq_true h).symm
 ·rw [decide_eq_false h]; cases hv : zX n with
  | false => rfl
  | true => exact absurd (zf.1 hv) h
def encI (c : Int) : List AV := [.int .i64 c]
theorem G0 : ∀ x y, encI x = encI y → x = y := fun x y h => by
 simp only [encI, List.cons.injEq, AV.int.injEq, true_and, and_true] at h; exact h
noncomputable def gIs : List AV → St → Option (AV × St) := orc0 encI (fun _ => True) (fun c => .bool (isCh c))
theorem zxg {O : Orc} {f : Nat} (h : O f = some gIs) (c : Int) (s : St) : (evW env O).call f [.int .i64 c] s = some (.bool (isCh c), s) := by
 rw [zJ h, gIs, yM G0 s c trivial rfl]
theorem zvI {P : Program} {w0 : World} (B : Bx P w0) {O : Orc} (hO : OrcOk P w0 O) (o82 : O 82 = none) (c : Int) :
  SC P w0 51 (encI c) (H [] 0 true) (.bool (isCh c)) (H [] 0 true) := by
 refine Is.sc hO B.mixed B.glob B.env 0 (show env.funs.get 51 = some f51 from rfl) (Nat.le_of_ble_eq_true rfl) xf fun C k => ?_
 have cv := @zQ env O _ _ o82 (show env.funs.get 82 = some f82 from rfl) rfl
 unfold f51
 simp only [Ko, Kg, Ki]
 cases c with
 | negSucc m =>
  refine k.eval (by simp (disch := first | exact dis | fail) only [go_sem, seval, -reduceOfNat, -reduceNegSucc, encI]; exact rfl) ?_
  try simp only [za, zj, Cut, if_true]
  apply ze (Or.inr rfl)
  iterate 5 (simp (disch := first | exact dis | fail) only [go_sem, seval, -reduceOfNat, -reduceNegSucc, isCh] <;> exact rfl)
 | ofNat n =>
  rw [zxv]
  by_cases h1 : n ≤ 1114111
  ·by_cases h2 : n < 55296
   ·rw [decide_eq_true ⟨h1, .inl h2⟩]
    refine k.eval (by simp (disch := first | exact dis | fail) only [go_sem, seval, -reduceOfNat, -reduceNegSucc, encI, h2, cv, f82]; exact rfl) ?_
    try simp only [za, zj, Cut, if_true]
    apply ze (Or.inr rfl)
    iterate 5 (simp (disch := first | exact dis | fail) only [go_sem, seval, -reduceOfNat, -reduceNegSucc] <;> exact rfl)
   ·by_cases h3 : 57343 < n
    ·rw [decide_eq_true ⟨h1, .inr h3⟩]
     refine k.eval (by simp (disch := first | exact dis | fail) only [go_sem, seval, -reduceOfNat, -reduceNegSucc, encI, h2, h3, cv, f82]; exact rfl) ?_
     try simp only [za, zj, Cut, if_true]
     apply ze (Or.inr rfl)
     iterate 5 (simp (disch := first | exact dis | fail) only [go_sem, seval, -reduceOfNat, -reduceNegSucc] <;> exact rfl)
    ·rw [decide_eq_false (by omega)]
     refine k.eval (by simp (disch := first | exact dis | fail) only [go_sem, seval, -reduceOfNat, -reduceNegSucc, encI, h2, h3, cv, f82]; exact rfl) ?_
     try simp only [za, zj, Cut, if_true]
     apply ze (Or.inr rfl)
     iterate 5 (simp (disch := first | exact dis | fail) only [go_sem, seval, -reduceOfNat, -reduceNegSucc] <;> exact rfl)
  ·rw [decide_eq_false (by omega)]
   refine k.eval (by simp (disch := first | exact dis | fail) only [go_sem, seval, -reduceOfNat, -reduceNegSucc, encI]; exact rfl) ?_
   try simp only [za, zj, Cut, if_true]
   apply ze (Or.inr rfl)
   iterate 5 (simp (disch := first | exact dis | fail) only [go_sem, seval, -reduceOfNat, -reduceNegSucc] <;> exact rfl)
set_option maxRecDepth 100000
def encB (l : List Nat) : List AV := [.lst l.length false (zh l)]
theorem Xw : ∀ x y, encB x = encB y → x = y := fun x y h => by
 simp only [encB, List.cons.injEq, AV.lst.injEq, true_and, and_true] at h; exact wW h.2
theorem Z6 (l : List Nat) : zu (encB l) = true := by simp only [encB, zB, yy, zI, Bool.and_self]
theorem Um (l : List Nat) (e : Bool) : wkL [AV.lst l.length e (zh l)] = encB l := by simp only [encB, wkL, wkV, x3]
set_option maxRecDepth 100000
theorem lC (c : Nat) : encC c = if c < 128 then [c] else if c < 2048 then [192 + c / 64, 128 + c % 64] else if c < 65536 then [224 + c / 4096, 128 + c / 64 % 64, 128 + c % 64] else [240 + c / 262144, 128 + c / 4096 % 64, 128 + c / 64 % 64, 128 + c % 64] := by
 unfold encC; rw [wK, wK, wK]; rfl
theorem X7 {c : Nat} (h : c ≤ 1114111) : Byt (encC c) := by
 rw [lC]
 intro x hx
 split at hx
 ·simp at hx; omega
 ·split at hx
  ·simp at hx; omega
  ·split at hx
   ·simp at hx; omega
   ·simp at hx; omega
theorem qk (c : Nat) : 1 ≤ (encC c).length ∧ (encC c).length ≤ 4 := by
 rw [lC]
 split
 ·simp
 ·split
  ·simp
  ·split <;> simp
def uU (x : List Nat × Nat) : List AV := [.lst x.1.length false (zh x.1), .int .i64 (.ofNat x.2)]
theorem Gz : ∀ x y, uU x = uU y → x = y := fun ⟨a, b⟩ ⟨c, d⟩ h => by
 simp only [uU, List.cons.injEq, AV.lst.injEq, AV.int.injEq, true_and, and_true] at h
 rw [wW h.1.2]; cases h.2; rfl
theorem Vt (x : List Nat × Nat) : zu (uU x) = true := by simp only [uU, zB, yy, yu, zI, Bool.and_self]
def zwt (x : List Nat × Nat) : Prop := Byt x.1 ∧ x.2 < x.1.length ∧ x.1.length < 1000000
set_option maxRecDepth 100000
def decR (l : List Nat) : Option (Nat × Nat) := if (decL l).1 = 65533 ∧ (decL l).2 ≤ 1 then none else some (decL l)
theorem ndiv (a b : Nat) : Nat.div a b = a / b := rfl
theorem bb (a b : Nat) : Nat.beq a b = decide (a = b) := by
 cases h : Nat.beq a b with
 | true => exact (decide_eq_true (zw.1 h)).symm
 | false => exact (decide_eq_false (fun h' => by rw [zw.2 h'] at h; cases h)).symm
theorem zo (a b : Nat) : dec2 a b = a % 32 * 64 + b % 64 := rfl
theorem zv (a b c : Nat) : dec3 a b c = a % 16 * 4096 + b % 64 * 64 + c % 64 := rfl
theorem zG (a b c d : Nat) : dec4 a b c d = a % 8 * 262144 + b % 64 * 4096 + c % 64 * 64 + d % 64 := rfl
theorem ub (a : Nat) : decL [a] = if a < 128 then (a, 1) else (65533, 1) := by
 simp only [decL, kn, Bool.cond_decide]
theorem q7 (a b : Nat) : decL [a, b] = if a < 128 then (a, 1) else if a / 32 = 6 ∧ b / 64 = 2 ∧ 128 ≤ dec2 a b then (dec2 a b, 2) else (65533, 1) := by
 simp only [decL, kn, Bool.cond_decide, decC, bb, kc, ndiv]
 by_cases h0 : a < 128
 ·rw [if_pos h0, if_pos h0]
 rw [if_neg h0, if_neg h0]
 by_cases h1 : a / 32 = 6 <;> by_cases h2 : b / 64 = 2 <;> by_cases h3 : 128 ≤ dec2 a b <;> simp [h1, h2, h3]
theorem yW (a b c : Nat) : decL [a, b, c] = if a < 128 then (a, 1) else if a / 32 = 6 ∧ b / 64 = 2 ∧ 128 ≤ dec2 a b then (dec2 a b, 2) else if a / 16 = 14 ∧ b / 64 = 2 ∧ c / 64 = 2 ∧ 2048 ≤ dec3 a b c ∧ zX (dec3 a b c) = true then (dec3 a b c, 3) else (65533, 1) := by
 simp only [decL, kn, Bool.cond_decide, decC, bb, kc, ndiv]
 by_cases h0 : a < 128
 ·rw [if_pos h0, if_pos h0]
 rw [if_neg h0, if_neg h0]
 by_cases h1 : a / 32 = 6
 ·have h4 : ¬ a / 16 = 14 := by omega
  by_cases h2 : b / 64 = 2 <;> by_cases h3 : 128 ≤ dec2 a b <;> simp [h1, h2, h3, h4]
 ·by_cases h4 : a / 16 = 14 <;> by_cases h2 : b / 64 = 2 <;> by_cases h5 : c / 64 = 2 <;> by_cases h6 : 2048 ≤ dec3 a b c <;> cases h7 : zX (dec3 a b c) <;> simp [h1, h2, h4, h5, h6]
theorem z6 (a b c d : Nat) (r : List Nat) : decL (a :: b :: c :: d :: r) = if a < 128 then (a, 1) else if a / 32 = 6 ∧ b / 64 = 2 ∧ 128 ≤ dec2 a b then (dec2 a b, 2) else if a / 16 = 14 ∧ b / 64 = 2 ∧ c / 64 = 2 ∧ 2048 ≤ dec3 a b c ∧ zX (dec3 a b c) = true then (dec3 a b c, 3)
  else if a / 8 = 30 ∧ b / 64 = 2 ∧ c / 64 = 2 ∧ d / 64 = 2 ∧ 65536 ≤ dec4 a b c d ∧ zX (dec4 a b c d) = true then (dec4 a b c d, 4) else (65533, 1) := by
 simp only [decL, kn, Bool.cond_decide, decC, bb, kc, ndiv]
 by_cases h0 : a < 128
 ·rw [if_pos h0, if_pos h0]
 rw [if_neg h0, if_neg h0]
 by_cases h1 : a / 32 = 6
 ·have h4 : ¬ a / 16 = 14 := by omega
  have h8 : ¬ a / 8 = 30 := by omega
  by_cases h2 : b / 64 = 2 <;> by_cases h3 : 128 ≤ dec2 a b <;> simp [h1, h2, h3, h4, h8]
 ·by_cases h4 : a / 16 = 14
  ·have h8 : ¬ a / 8 = 30 := by omega
   by_cases h2 : b / 64 = 2 <;> by_cases h5 : c / 64 = 2 <;> by_cases h6 : 2048 ≤ dec3 a b c <;> cases h7 : zX (dec3 a b c) <;> simp [h1, h2, h4, h5, h6, h8]
  ·by_cases h8 : a / 8 = 30 <;> by_cases h2 : b / 64 = 2 <;> by_cases h5 : c / 64 = 2 <;> by_cases h9 : d / 64 = 2 <;> by_cases h6 : 65536 ≤ dec4 a b c d <;> cases h7 : zX (dec4 a b c d) <;> simp [h1, h2, h4, h5, h6, h8, h9]
set_option maxRecDepth 100000
theorem zvG {a : Nat} (h : a < 256) : binI .and .u8 (.ofNat a) .u8 (.ofNat 31) = some (.int .u8 (.ofNat (a % 32))) := by
 have : ∀ a, a < 256 → bits .and .u8 (.ofNat a) (.ofNat 31) = some (.ofNat (a % 32)) := by decide +kernel
 show (match bits .and .u8 (.ofNat a) (.ofNat 31) with | some n => some (AV.int .u8 n) | none => none) = _
 rw [this a h]
theorem Lt {a : Nat} (h : a < 256) : binI .and .u8 (.ofNat a) .u8 (.ofNat 15) = some (.int .u8 (.ofNat (a % 16))) := by
 have : ∀ a, a < 256 → bits .and .u8 (.ofNat a) (.ofNat 15) = some (.ofNat (a % 16)) := by decide +kernel
 show (match bits .and .u8 (.ofNat a) (.ofNat 15) with | some n => some (AV.int .u8 n) | none => none) = _
 rw [this a h]
theorem and7 {a : Nat} (h : a < 256) : binI .and .u8 (.ofNat a) .u8 (.ofNat 7) = some (.int .u8 (.ofNat (a % 8))) := by
 have : ∀ a, a < 256 → bits .and .u8 (.ofNat a) (.ofNat 7) = some (.ofNat (a % 8)) := by decide +kernel
 show (match bits .and .u8 (.ofNat a) (.ofNat 7) with | some n => some (AV.int .u8 n) | none => none) = _
 rw [this a h]
theorem qQ {a : Nat} (h : a < 256) : binI .and .u8 (.ofNat a) .u8 (.ofNat 63) = some (.int .u8 (.ofNat (a % 64))) := by
 have : ∀ a, a < 256 → bits .and .u8 (.ofNat a) (.ofNat 63) = some (.ofNat (a % 64)) := by decide +kernel
 show (match bits .and .u8 (.ofNat a) (.ofNat 63) with | some n => some (AV.int .u8 n) | none => none) = _
 rw [this a h]
theorem zyv {a : Nat} (h : a < 256) : binI .andNot .i32 (.ofNat a) .i32 (.negSucc 0) = some (.int .i32 (.ofNat 0)) := by
 have : ∀ a, a < 256 → bits .andNot .i32 (.ofNat a) (.negSucc 0) = some (.ofNat 0) := by decide +kernel
 show (match bits .andNot .i32 (.ofNat a) (.negSucc 0) with | some n => some (AV.int .i32 n) | none => none) = _
 rw [this a h]
theorem andM : binI .and .i32 (.ofNat 65533) .i32 (.negSucc 0) = some (.int .i32 (.ofNat 65533)) := by
 have : bits .and .i32 (.ofNat 65533) (.negSucc 0) = some (.ofNat 65533) := by decide +kernel
 show (match bits .and .i32 (.ofNat 65533) (.negSucc 0) with | some n => some (AV.int .i32 n) | none => none) = _
 rw [this]
theorem zvM : binI .shl .i32 (.ofNat 241) .u64 (.ofNat 31) = some (.int .i32 (.negSucc 2147483647)) := by
 have : xG .i32 (Int.ofNat 241 * 2 ^ (min (Int.ofNat 31).toNat (IntKind.bits .i32))) = .negSucc 2147483647 := by decide +kernel
 show some (AV.int .i32 _) = _
 rw [this]
theorem zvO : binI .shr .i32 (.negSucc 2147483647) .u64 (.ofNat 31) = some (.int .i32 (.negSucc 0)) := by
 have : (Int.negSucc 2147483647).fdiv (2 ^ (min (Int.ofNat 31).toNat (IntKind.bits .i32))) = .negSucc 0 := by decide +kernel
 show some (AV.int .i32 _) = _
 rw [this]
theorem shr4 (a : Nat) : binI .shr .u8 (.ofNat a) .u64 (.ofNat 4) = some (.int .u8 (.ofNat (a / 16))) := by
 show some (AV.int .u8 (Int.fdiv (.ofNat a) (.ofNat 16))) = _
 cases a <;> rfl
theorem shl6 (a : Nat) : binI .shl .i32 (.ofNat a) .u64 (.ofNat 6) = some (.int .i32 (xG .i32 (.ofNat (a * 64)))) := rfl
theorem Z0 (a : Nat) : binI .shl .i32 (.ofNat a) .u64 (.ofNat 12) = some (.int .i32 (xG .i32 (.ofNat (a * 4096)))) := rfl
theorem PQ (a : Nat) : binI .shl .i32 (.ofNat a) .u64 (.ofNat 18) = some (.int .i32 (xG .i32 (.ofNat (a * 262144)))) := rfl
theorem GG {n : Nat} (h : n < 2147483648) : IntKind.wrap .i32 ((n : Nat) : Int) = .ofNat n := by
 have h1 : ((n : Nat) : Int) % (2 ^ IntKind.bits .i32 : Int) = (n : Int) := by
  show (n : Int) % 4294967296 = _
  omega
 have h2 : ¬ ((n : Nat) : Int) ≥ (2 ^ (IntKind.bits .i32 - 1) : Int) := by
  show ¬ (n : Int) ≥ 2147483648
  omega
 unfold IntKind.wrap
 simp only [h1, h2, decide_false, Bool.and_false, Bool.false_eq_true, if_false]
 rfl
theorem orN {a b : Nat} (h : a < 16777216) (h' : b < 16777216) : binI .or .i32 (.ofNat a) .i32 (.ofNat b) = some (.int .i32 (.ofNat (a ||| b))) := by
 have e : ∀ n, n < 16777216 → BitVec.ofInt 32 (Int.ofNat n) = BitVec.ofNat 32 n := fun n _ => rfl
 have hor : a ||| b < 16777216 := Nat.or_lt_two_pow (n := 24) h h'
 have : bits .or .i32 (.ofNat a) (.ofNat b) = some (.ofNat (a ||| b)) := by
  show some (IntKind.wrap .i32 _) = _
  congr 1
  have : ((BitVec.ofInt (IntKind.bits .i32) (Int.ofNat a)) ||| (BitVec.ofInt (IntKind.bits .i32) (Int.ofNat b))).toNat = a ||| b := by
   show ((BitVec.ofNat 32 a) ||| (BitVec.ofNat 32 b)).toNat = _
   rw [BitVec.toNat_or, BitVec.toNat_ofNat, BitVec.toNat_ofNat, Nat.mod_eq_of_lt (by omega), Nat.mod_eq_of_lt (by omega)]
  rw [this]
  exact GG (by omega)
 show (match bits .or .i32 (.ofNat a) (.ofNat b) with | some n => some (AV.int .i32 n) | none => none) = _
 rw [this]
theorem or2 {a b : Nat} (h : b < 64) : a * 64 ||| b = a * 64 + b := by
 have := Nat.two_pow_add_eq_or_of_lt (i := 6) h a
 rw [Nat.mul_comm a 64]; exact this.symm
theorem or12 {a b : Nat} (h : b < 64) : a * 4096 ||| b * 64 = a * 4096 + b * 64 := by
 have e1 := Nat.two_pow_add_eq_or_of_lt (i := 12) (b := b * 64) (by omega) a
 rw [Nat.mul_comm a 4096]; exact e1.symm
theorem GO {a b c : Nat} (h : c < 64) : (a * 4096 + b * 64) ||| c = a * 4096 + b * 64 + c := by
 have := or2 (a := a * 64 + b) h
 rw [show (a * 64 + b) * 64 = a * 4096 + b * 64 by omega] at this; exact this
theorem or18 {a b : Nat} (h : b < 64) : a * 262144 ||| b * 4096 = a * 262144 + b * 4096 := by
 have e1 := Nat.two_pow_add_eq_or_of_lt (i := 18) (b := b * 4096) (by omega) a
 rw [Nat.mul_comm a 262144]; exact e1.symm
theorem zzk {a b c : Nat} (h : c < 64) : (a * 262144 + b * 4096) ||| c * 64 = a * 262144 + b * 4096 + c * 64 := by
 have := or12 (a := a * 64 + b) h
 rw [show (a * 64 + b) * 4096 = a * 262144 + b * 4096 by omega] at this; exact this
theorem Lg {a b c d : Nat} (h : d < 64) : (a * 262144 + b * 4096 + c * 64) ||| d = a * 262144 + b * 4096 + c * 64 + d := by
 have := or2 (a := a * 4096 + b * 64 + c) h
 rw [show (a * 4096 + b * 64 + c) * 64 = a * 262144 + b * 4096 + c * 64 by omega] at this; exact this
def xL (c : Nat) : Nat := if c < 128 then 240 else if c < 194 then 241 else if c < 224 then 2 else if c = 224 then 19 else if c < 237 then 3 else if c = 237 then 35 else if c < 240 then 3 else if c = 240 then 52 else if c < 244 then 4 else if c = 244 then 68 else 241
def u8V (v : Option AV) (n : Nat) : Bool := match v with
 | some (.int .u8 (.ofNat m)) => Nat.beq m n
 | _ => false
theorem zvr {v : Option AV} {n : Nat} (h : u8V v n = true) : v = some (.int .u8 (.ofNat n)) := by
 unfold u8V at h
 split at h
 ·rw [zw.1 h]
 ·cases h
theorem gU {c : Nat} (h : c < 256) (s : St) : vLd env.globs s (.gptr 2 c) = some (.int .u8 (.ofNat (xL c))) := by
 have key : (List.range 256).all (fun c => u8V (vLd env.globs s0 (.gptr 2 c)) (xL c)) = true := by decide +kernel
 have := zvr (List.all_eq_true.1 key c (List.mem_range.2 h))
 rw [← this]; rfl
theorem gE (s : St) : vLdn env.globs s 2 (.gptr 3 0) = some (.agg [.int .u8 (.ofNat 128), .int .u8 (.ofNat 191)]) ∧ vLdn env.globs s 2 (.gptr 3 2) = some (.agg [.int .u8 (.ofNat 160), .int .u8 (.ofNat 191)]) ∧ vLdn env.globs s 2 (.gptr 3 4) = some (.agg [.int .u8 (.ofNat 128), .int .u8 (.ofNat 159)]) ∧ vLdn env.globs s 2 (.gptr 3 6) = some (.agg [.int .u8 (.ofNat 144), .int .u8 (.ofNat 191)]) ∧ vLdn env.globs s 2 (.gptr 3 8) = some (.agg [.int .u8 (.ofNat 128), .int .u8 (.ofNat 143)]) :=
 ⟨rfl, rfl, rfl, rfl, rfl⟩
theorem zN {n esz g off i : Nat} {k : IntKind} (h : i < n) : vIaa n esz (.gptr g off) (.int k (.ofNat i)) = some (.gptr g (off + i * esz)) := by
 simp only [vIaa, Lk k h]; rfl
noncomputable def zM (l : List Nat) : AV := .tup [.int .i32 (.ofNat (decL l).1), .int .i64 (.ofNat (decL l).2)]
theorem lQ (l : List Nat) : zD (zM l) = true := by simp only [zM, yF, zB, yu, zI, Bool.and_self]
set_option maxRecDepth 100000
set_option maxHeartbeats 2000000
theorem Ht {P : Program} {w0 : World} (B : Bx P w0) {O : Orc} (hO : OrcOk P w0 O) (b0 : Nat) (r : List Nat) (hb : Byt (b0 :: r)) (hc : 128 ≤ b0 ∧ (b0 < 194 ∨ 244 < b0)) (hlen : (b0 :: r).length < 1000000) :
  SC P w0 117 (encB (b0 :: r)) (H [] 0 true) (zM (b0 :: r)) (H [] 0 true) := by
 refine Is.sc hO B.mixed B.glob B.env 0 (show env.funs.get 117 = some f117 from rfl) (Nat.le_of_ble_eq_true rfl) xf fun C k => ?_
 have h0 : b0 < 256 := hb b0 (by simp)
 have hx : xL b0 = 241 := by
  unfold xL
  repeat' split
  all_goals omega
 have hl2 := fun s => gU (c := b0) h0 s
 rw [hx] at hl2
 have hl3 := fun s => gE s
 unfold f117
 simp only [Ko, Kg, Kn, Ki]
 have hd : decL (b0 :: r) = (65533, 1) := by
  match r with
  | [] => rw [ub]; (repeat' split); all_goals first | rfl | (exfalso; (try simp only [zo, zv, zG, zf] at *); omega)
  | [b1] => rw [q7]; (repeat' split); all_goals first | rfl | (exfalso; (try simp only [zo] at *); omega)
  | [b1, b2] => rw [yW]; (repeat' split); all_goals first | rfl | (exfalso; (try simp only [zo, zv, zf] at *); omega)
  | b1 :: b2 :: b3 :: r => rw [z6]; (repeat' split); all_goals first | rfl | (exfalso; (try simp only [zo, zv, zG, zf] at *); omega)
 rw [zM, hd]
 refine k.eval (by simp (disch := first | exact dis | fail) only [go_sem, seval, -reduceOfNat, -reduceNegSucc, encB, zN, hl2, zvM, zvO, zyv, andM, orN, Nat.zero_or]; exact rfl) ?_
 try simp only [za]
 apply ze (Or.inr rfl)
 iterate 5 (simp (disch := first | exact dis | fail) only [go_sem, seval, -reduceOfNat, -reduceNegSucc] <;> exact rfl)
theorem zzo {P : Program} {w0 : World} (B : Bx P w0) {O : Orc} (hO : OrcOk P w0 O) (b0 : Nat) (r : List Nat) (hb : Byt (b0 :: r)) (hc : 128 ≤ b0 ∧ (194 ≤ b0 ∧ b0 < 224)) (hlen : (b0 :: r).length < 1000000) :
  SC P w0 117 (encB (b0 :: r)) (H [] 0 true) (zM (b0 :: r)) (H [] 0 true) := by
 refine Is.sc hO B.mixed B.glob B.env 0 (show env.funs.get 117 = some f117 from rfl) (Nat.le_of_ble_eq_true rfl) xf fun C k => ?_
 have h0 : b0 < 256 := hb b0 (by simp)
 have hx : xL b0 = 2 := by
  unfold xL
  repeat' split
  all_goals omega
 have hl2 := fun s => gU (c := b0) h0 s
 rw [hx] at hl2
 have hl3 := fun s => gE s
 unfold f117
 simp only [Ko, Kg, Kn, Ki]
 match r, hb, hlen with
 | [], hb, hlen =>
  rw [zM, show decL [b0] = (65533, 1) from by rw [ub]; (repeat' split); all_goals first | rfl | (exfalso; (try simp only [zo, zv, zG, zf] at *); omega)]
  refine k.eval (by simp (disch := first | exact dis | fail) only [go_sem, seval, -reduceOfNat, -reduceNegSucc, encB, zN, hl2, hl3, and7, shr4]; exact rfl) ?_
  try simp only [za]
  apply ze (Or.inr rfl)
  iterate 5 (simp (disch := first | exact dis | fail) only [go_sem, seval, -reduceOfNat, -reduceNegSucc] <;> exact rfl)
 | b1 :: r, hb, hlen =>
  have h1 : b1 < 256 := hb b1 (by simp)
  simp only [List.length_cons] at hlen
  have hlr : r.length < 1000000 := by omega
  by_cases g1 : b1 < 128
 
  case pos =>
   have hd : decL (b0 :: b1 :: r) = (65533, 1) := (by match r, hb with
     | [], hb => rw [q7]; (repeat' split); all_goals first | rfl | (exfalso; (try simp only [zo] at *); omega)
     | [b2], hb => rw [yW]; (repeat' split); all_goals first | rfl | (exfalso; (try simp only [zo, zv, zf] at *); omega)
     | b2 :: b3 :: r, hb => rw [z6]; (repeat' split); all_goals first | rfl | (exfalso; (try simp only [zo, zv, zG, zf] at *); omega))
   rw [zM, hd]
   refine k.eval (by simp (disch := first | exact dis | fail) only [go_sem, seval, -reduceOfNat, -reduceNegSucc, encB, zN, hl2, hl3, and7, shr4, g1]; exact rfl) ?_
   try simp only [za]
   apply ze (Or.inr rfl)
   iterate 5 (simp (disch := first | exact dis | fail) only [go_sem, seval, -reduceOfNat, -reduceNegSucc] <;> exact rfl)
  by_cases g2 : 191 < b1
  case pos =>
   have hd : decL (b0 :: b1 :: r) = (65533, 1) := (by match r, hb with
     | [], hb => rw [q7]; (repeat' split); all_goals first | rfl | (exfalso; (try simp only [zo] at *); omega)
     | [b2], hb => rw [yW]; (repeat' split); all_goals first | rfl | (exfalso; (try simp only [zo, zv, zf] at *); omega)
     | b2 :: b3 :: r, hb => rw [z6]; (repeat' split); all_goals first | rfl | (exfalso; (try simp only [zo, zv, zG, zf] at *); omega))
   rw [zM, hd]
   refine k.eval (by simp (disch := first | exact dis | fail) only [go_sem, seval, -reduceOfNat, -reduceNegSucc, encB, zN, hl2, hl3, and7, shr4, g1, g2]; exact rfl) ?_
   try simp only [za]
   apply ze (Or.inr rfl)
   iterate 5 (simp (disch := first | exact dis | fail) only [go_sem, seval, -reduceOfNat, -reduceNegSucc] <;> exact rfl)
  have hd : decL (b0 :: b1 :: r) = (dec2 b0 b1, 2) := (by match r, hb with
     | [], hb => rw [q7]; (repeat' split); all_goals first | rfl | (exfalso; (try simp only [zo] at *); omega)
     | [b2], hb => rw [yW]; (repeat' split); all_goals first | rfl | (exfalso; (try simp only [zo, zv, zf] at *); omega)
     | b2 :: b3 :: r, hb => rw [z6]; (repeat' split); all_goals first | rfl | (exfalso; (try simp only [zo, zv, zG, zf] at *); omega))
  rw [zM, hd]
  refine k.eval (by simp (disch := first | exact dis | fail) only [go_sem, seval, -reduceOfNat, -reduceNegSucc, encB, zN, hl2, hl3, and7, shr4, g1, g2, zvG, qQ, shl6, orN, or2]; exact rfl) ?_
  try simp only [za]
  apply ze (Or.inr rfl)
  iterate 5 (simp (disch := first | exact dis | fail) only [go_sem, seval, -reduceOfNat, -reduceNegSucc, zo] <;> exact rfl)
theorem JK {P : Program} {w0 : World} (B : Bx P w0) {O : Orc} (hO : OrcOk P w0 O) (b0 : Nat) (r : List Nat) (hb : Byt (b0 :: r)) (hc : 128 ≤ b0 ∧ (b0 = 224)) (hlen : (b0 :: r).length < 1000000) :
  SC P w0 117 (encB (b0 :: r)) (H [] 0 true) (zM (b0 :: r)) (H [] 0 true) := by
 refine Is.sc hO B.mixed B.glob B.env 0 (show env.funs.get 117 = some f117 from rfl) (Nat.le_of_ble_eq_true rfl) xf fun C k => ?_
 have h0 : b0 < 256 := hb b0 (by simp)
 have hx : xL b0 = 19 := by
  unfold xL
  repeat' split
  all_goals omega
 have hl2 := fun s => gU (c := b0) h0 s
 rw [hx] at hl2
 have hl3 := fun s => gE s
 unfold f117
 simp only [Ko, Kg, Kn, Ki]
 match r, hb, hlen with
 | [], hb, hlen =>
  rw [zM, show decL [b0] = (65533, 1) from by rw [ub]; (repeat' split); all_goals first | rfl | (exfalso; (try simp only [zo, zv, zG, zf] at *); omega)]
  refine k.eval (by simp (disch := first | exact dis | fail) only [go_sem, seval, -reduceOfNat, -reduceNegSucc, encB, zN, hl2, hl3, and7, shr4]; exact rfl) ?_
  try simp only [za]
  apply ze (Or.inr rfl)
  iterate 5 (simp (disch := first | exact dis | fail) only [go_sem, seval, -reduceOfNat, -reduceNegSucc] <;> exact rfl)
 | [b1], hb, hlen =>
  have h1 : b1 < 256 := hb b1 (by simp)
  rw [zM, show decL [b0, b1] = (65533, 1) from by rw [q7]; (repeat' split); all_goals first | rfl | (exfalso; (try simp only [zo] at *); omega)]
  refine k.eval (by simp (disch := first | exact dis | fail) only [go_sem, seval, -reduceOfNat, -reduceNegSucc, encB, zN, hl2, hl3, and7, shr4]; exact rfl) ?_
  try simp only [za]
  apply ze (Or.inr rfl)
  iterate 5 (simp (disch := first | exact dis | fail) only [go_sem, seval, -reduceOfNat, -reduceNegSucc] <;> exact rfl)
 | b1 :: b2 :: r, hb, hlen =>
  have h1 : b1 < 256 := hb b1 (by simp)
  have h2 : b2 < 256 := hb b2 (by simp)
  simp only [List.length_cons] at hlen
  have hlr : r.length < 1000000 := by omega
  by_cases g1 : b1 < 160
 
  case pos =>
   have hd : decL (b0 :: b1 :: b2 :: r) = (65533, 1) := (by match r, hb with
     | [], hb => rw [yW]; (repeat' split); all_goals first | rfl | (exfalso; (try simp only [zo, zv, zf] at *); omega)
     | b3 :: r, hb => rw [z6]; (repeat' split); all_goals first | rfl | (exfalso; (try simp only [zo, zv, zG, zf] at *); omega))
   rw [zM, hd]
   refine k.eval (by simp (disch := first | exact dis | fail) only [go_sem, seval, -reduceOfNat, -reduceNegSucc, encB, zN, hl2, hl3, and7, shr4, g1]; exact rfl) ?_
   try simp only [za]
   apply ze (Or.inr rfl)
   iterate 5 (simp (disch := first | exact dis | fail) only [go_sem, seval, -reduceOfNat, -reduceNegSucc] <;> exact rfl)
  by_cases g2 : 191 < b1
  case pos =>
   have hd : decL (b0 :: b1 :: b2 :: r) = (65533, 1) := (by match r, hb with
     | [], hb => rw [yW]; (repeat' split); all_goals first | rfl | (exfalso; (try simp only [zo, zv, zf] at *); omega)
     | b3 :: r, hb => rw [z6]; (repeat' split); all_goals first | rfl | (exfalso; (try simp only [zo, zv, zG, zf] at *); omega))
   rw [zM, hd]
   refine k.eval (by simp (disch := first | exact dis | fail) only [go_sem, seval, -reduceOfNat, -reduceNegSucc, encB, zN, hl2, hl3, and7, shr4, g1, g2]; exact rfl) ?_
   try simp only [za]
   apply ze (Or.inr rfl)
   iterate 5 (simp (disch := first | exact dis | fail) only [go_sem, seval, -reduceOfNat, -reduceNegSucc] <;> exact rfl)
  by_cases g3 : b2 < 128
  case pos =>
   have hd : decL (b0 :: b1 :: b2 :: r) = (65533, 1) := (by match r, hb with
     | [], hb => rw [yW]; (repeat' split); all_goals first | rfl | (exfalso; (try simp only [zo, zv, zf] at *); omega)
     | b3 :: r, hb => rw [z6]; (repeat' split); all_goals first | rfl | (exfalso; (try simp only [zo, zv, zG, zf] at *); omega))
   rw [zM, hd]
   refine k.eval (by simp (disch := first | exact dis | fail) only [go_sem, seval, -reduceOfNat, -reduceNegSucc, encB, zN, hl2, hl3, and7, shr4, g1, g2, g3]; exact rfl) ?_
   try simp only [za]
   apply ze (Or.inr rfl)
   iterate 5 (simp (disch := first | exact dis | fail) only [go_sem, seval, -reduceOfNat, -reduceNegSucc] <;> exact rfl)
  by_cases g4 : 191 < b2
  case pos =>
   have hd : decL (b0 :: b1 :: b2 :: r) = (65533, 1) := (by match r, hb with
     | [], hb => rw [yW]; (repeat' split); all_goals first | rfl | (exfalso; (try simp only [zo, zv, zf] at *); omega)
     | b3 :: r, hb => rw [z6]; (repeat' split); all_goals first | rfl | (exfalso; (try simp only [zo, zv, zG, zf] at *); omega))
   rw [zM, hd]
   refine k.eval (by simp (disch := first | exact dis | fail) only [go_sem, seval, -reduceOfNat, -reduceNegSucc, encB, zN, hl2, hl3, and7, shr4, g1, g2, g3, g4]; exact rfl) ?_
   try simp only [za]
   apply ze (Or.inr rfl)
   iterate 5 (simp (disch := first | exact dis | fail) only [go_sem, seval, -reduceOfNat, -reduceNegSucc] <;> exact rfl)
  have hd : decL (b0 :: b1 :: b2 :: r) = (dec3 b0 b1 b2, 3) := (by match r, hb with
     | [], hb => rw [yW]; (repeat' split); all_goals first | rfl | (exfalso; (try simp only [zo, zv, zf] at *); omega)
     | b3 :: r, hb => rw [z6]; (repeat' split); all_goals first | rfl | (exfalso; (try simp only [zo, zv, zG, zf] at *); omega))
  rw [zM, hd]
  refine k.eval (by simp (disch := first | exact dis | fail) only [go_sem, seval, -reduceOfNat, -reduceNegSucc, encB, zN, hl2, hl3, and7, shr4, g1, g2, g3, g4, Lt, qQ, shl6, Z0, orN, or12, GO]; exact rfl) ?_
  try simp only [za]
  apply ze (Or.inr rfl)
  iterate 5 (simp (disch := first | exact dis | fail) only [go_sem, seval, -reduceOfNat, -reduceNegSucc, zv] <;> exact rfl)
theorem U8 {P : Program} {w0 : World} (B : Bx P w0) {O : Orc} (hO : OrcOk P w0 O) (b0 : Nat) (r : List Nat) (hb : Byt (b0 :: r)) (hc : 128 ≤ b0 ∧ ((225 ≤ b0 ∧ b0 < 237) ∨ (238 ≤ b0 ∧ b0 < 240))) (hlen : (b0 :: r).length < 1000000) :
  SC P w0 117 (encB (b0 :: r)) (H [] 0 true) (zM (b0 :: r)) (H [] 0 true) := by
 refine Is.sc hO B.mixed B.glob B.env 0 (show env.funs.get 117 = some f117 from rfl) (Nat.le_of_ble_eq_true rfl) xf fun C k => ?_
 have h0 : b0 < 256 := hb b0 (by simp)
 have hx : xL b0 = 3 := by
  unfold xL
  repeat' split
  all_goals omega
 have hl2 := fun s => gU (c := b0) h0 s
 rw [hx] at hl2
 have hl3 := fun s => gE s
 unfold f117
 simp only [Ko, Kg, Kn, Ki]
 match r, hb, hlen with
 | [], hb, hlen =>
  rw [zM, show decL [b0] = (65533, 1) from by rw [ub]; (repeat' split); all_goals first | rfl | (exfalso; (try simp only [zo, zv, zG, zf] at *); omega)]
  refine k.eval (by simp (disch := first | exact dis | fail) only [go_sem, seval, -reduceOfNat, -reduceNegSucc, encB, zN, hl2, hl3, and7, shr4]; exact rfl) ?_
  try simp only [za]
  apply ze (Or.inr rfl)
  iterate 5 (simp (disch := first | exact dis | fail) only [go_sem, seval, -reduceOfNat, -reduceNegSucc] <;> exact rfl)
 | [b1], hb, hlen =>
  have h1 : b1 < 256 := hb b1 (by simp)
  rw [zM, show decL [b0, b1] = (65533, 1) from by rw [q7]; (repeat' split); all_goals first | rfl | (exfalso; (try simp only [zo] at *); omega)]
  refine k.eval (by simp (disch := first | exact dis | fail) only [go_sem, seval, -reduceOfNat, -reduceNegSucc, encB, zN, hl2, hl3, and7, shr4]; exact rfl) ?_
  try simp only [za]
  apply ze (Or.inr rfl)
  iterate 5 (simp (disch := first | exact dis | fail) only [go_sem, seval, -reduceOfNat, -reduceNegSucc] <;> exact rfl)
 | b1 :: b2 :: r, hb, hlen =>
  have h1 : b1 < 256 := hb b1 (by simp)
  have h2 : b2 < 256 := hb b2 (by simp)
  simp only [List.length_cons] at hlen
  have hlr : r.length < 1000000 := by omega
  by_cases g1 : b1 < 128
 
  case pos =>
   have hd : decL (b0 :: b1 :: b2 :: r) = (65533, 1) := (by match r, hb with
     | [], hb => rw [yW]; (repeat' split); all_goals first | rfl | (exfalso; (try simp only [zo, zv, zf] at *); omega)
     | b3 :: r, hb => rw [z6]; (repeat' split); all_goals first | rfl | (exfalso; (try simp only [zo, zv, zG, zf] at *); omega))
   rw [zM, hd]
   refine k.eval (by simp (disch := first | exact dis | fail) only [go_sem, seval, -reduceOfNat, -reduceNegSucc, encB, zN, hl2, hl3, and7, shr4, g1]; exact rfl) ?_
   try simp only [za]
   apply ze (Or.inr rfl)
   iterate 5 (simp (disch := first | exact dis | fail) only [go_sem, seval, -reduceOfNat, -reduceNegSucc] <;> exact rfl)
  by_cases g2 : 191 < b1
  case pos =>
   have hd : decL (b0 :: b1 :: b2 :: r) = (65533, 1) := (by match r, hb with
     | [], hb => rw [yW]; (repeat' split); all_goals first | rfl | (exfalso; (try simp only [zo, zv, zf] at *); omega)
     | b3 :: r, hb => rw [z6]; (repeat' split); all_goals first | rfl | (exfalso; (try simp only [zo, zv, zG, zf] at *); omega))
   rw [zM, hd]
   refine k.eval (by simp (disch := first | exact dis | fail) only [go_sem, seval, -reduceOfNat, -reduceNegSucc, encB, zN, hl2, hl3, and7, shr4, g1, g2]; exact rfl) ?_
   try simp only [za]
   apply ze (Or.inr rfl)
   iterate 5 (simp (disch := first | exact dis | fail) only [go_sem, seval, -reduceOfNat, -reduceNegSucc] <;> exact rfl)
  by_cases g3 : b2 < 128
  case pos =>
   have hd : decL (b0 :: b1 :: b2 :: r) = (65533, 1) := (by match r, hb with
     | [], hb => rw [yW]; (repeat' split); all_goals first | rfl | (exfalso; (try simp only [zo, zv, zf] at *); omega)
     | b3 :: r, hb => rw [z6]; (repeat' split); all_goals first | rfl | (exfalso; (try simp only [zo, zv, zG, zf] at *); omega))
   rw [zM, hd]
   refine k.eval (by simp (disch := first | exact dis | fail) only [go_sem, seval, -reduceOfNat, -reduceNegSucc, encB, zN, hl2, hl3, and7, shr4, g1, g2, g3]; exact rfl) ?_
   try simp only [za]
   apply ze (Or.inr rfl)
   iterate 5 (simp (disch := first | exact dis | fail) only [go_sem, seval, -reduceOfNat, -reduceNegSucc] <;> exact rfl)
  by_cases g4 : 191 < b2
  case pos =>
   have hd : decL (b0 :: b1 :: b2 :: r) = (65533, 1) := (by match r, hb with
     | [], hb => rw [yW]; (repeat' split); all_goals first | rfl | (exfalso; (try simp only [zo, zv, zf] at *); omega)
     | b3 :: r, hb => rw [z6]; (repeat' split); all_goals first | rfl | (exfalso; (try simp only [zo, zv, zG, zf] at *); omega))
   rw [zM, hd]
   refine k.eval (by simp (disch := first | exact dis | fail) only [go_sem, seval, -reduceOfNat, -reduceNegSucc, encB, zN, hl2, hl3, and7, shr4, g1, g2, g3, g4]; exact rfl) ?_
   try simp only [za]
   apply ze (Or.inr rfl)
   iterate 5 (simp (disch := first | exact dis | fail) only [go_sem, seval, -reduceOfNat, -reduceNegSucc] <;> exact rfl)
  have hd : decL (b0 :: b1 :: b2 :: r) = (dec3 b0 b1 b2, 3) := (by match r, hb with
     | [], hb => rw [yW]; (repeat' split); all_goals first | rfl | (exfalso; (try simp only [zo, zv, zf] at *); omega)
     | b3 :: r, hb => rw [z6]; (repeat' split); all_goals first | rfl | (exfalso; (try simp only [zo, zv, zG, zf] at *); omega))
  rw [zM, hd]
  refine k.eval (by simp (disch := first | exact dis | fail) only [go_sem, seval, -reduceOfNat, -reduceNegSucc, encB, zN, hl2, hl3, and7, shr4, g1, g2, g3, g4, Lt, qQ, shl6, Z0, orN, or12, GO]; exact rfl) ?_
  try simp only [za]
  apply ze (Or.inr rfl)
  iterate 5 (simp (disch := first | exact dis | fail) only [go_sem, seval, -reduceOfNat, -reduceNegSucc, zv] <;> exact rfl)
theorem Kz {P : Program} {w0 : World} (B : Bx P w0) {O : Orc} (hO : OrcOk P w0 O) (b0 : Nat) (r : List Nat) (hb : Byt (b0 :: r)) (hc : 128 ≤ b0 ∧ (b0 = 237)) (hlen : (b0 :: r).length < 1000000) :
  SC P w0 117 (encB (b0 :: r)) (H [] 0 true) (zM (b0 :: r)) (H [] 0 true) := by
 refine Is.sc hO B.mixed B.glob B.env 0 (show env.funs.get 117 = some f117 from rfl) (Nat.le_of_ble_eq_true rfl) xf fun C k => ?_
 have h0 : b0 < 256 := hb b0 (by simp)
 have hx : xL b0 = 35 := by
  unfold xL
  repeat' split
  all_goals omega
 have hl2 := fun s => gU (c := b0) h0 s
 rw [hx] at hl2
 have hl3 := fun s => gE s
 unfold f117
 simp only [Ko, Kg, Kn, Ki]
 match r, hb, hlen with
 | [], hb, hlen =>
  rw [zM, show decL [b0] = (65533, 1) from by rw [ub]; (repeat' split); all_goals first | rfl | (exfalso; (try simp only [zo, zv, zG, zf] at *); omega)]
  refine k.eval (by simp (disch := first | exact dis | fail) only [go_sem, seval, -reduceOfNat, -reduceNegSucc, encB, zN, hl2, hl3, and7, shr4]; exact rfl) ?_
  try simp only [za]
  apply ze (Or.inr rfl)
  iterate 5 (simp (disch := first | exact dis | fail) only [go_sem, seval, -reduceOfNat, -reduceNegSucc] <;> exact rfl)
 | [b1], hb, hlen =>
  have h1 : b1 < 256 := hb b1 (by simp)
  rw [zM, show decL [b0, b1] = (65533, 1) from by rw [q7]; (repeat' split); all_goals first | rfl | (exfalso; (try simp only [zo] at *); omega)]
  refine k.eval (by simp (disch := first | exact dis | fail) only [go_sem, seval, -reduceOfNat, -reduceNegSucc, encB, zN, hl2, hl3, and7, shr4]; exact rfl) ?_
  try simp only [za]
  apply ze (Or.inr rfl)
  iterate 5 (simp (disch := first | exact dis | fail) only [go_sem, seval, -reduceOfNat, -reduceNegSucc] <;> exact rfl)
 | b1 :: b2 :: r, hb, hlen =>
  have h1 : b1 < 256 := hb b1 (by simp)
  have h2 : b2 < 256 := hb b2 (by simp)
  simp only [List.length_cons] at hlen
  have hlr : r.length < 1000000 := by omega
  by_cases g1 : b1 < 128
 
  case pos =>
   have hd : decL (b0 :: b1 :: b2 :: r) = (65533, 1) := (by match r, hb with
     | [], hb => rw [yW]; (repeat' split); all_goals first | rfl | (exfalso; (try simp only [zo, zv, zf] at *); omega)
     | b3 :: r, hb => rw [z6]; (repeat' split); all_goals first | rfl | (exfalso; (try simp only [zo, zv, zG, zf] at *); omega))
   rw [zM, hd]
   refine k.eval (by simp (disch := first | exact dis | fail) only [go_sem, seval, -reduceOfNat, -reduceNegSucc, encB, zN, hl2, hl3, and7, shr4, g1]; exact rfl) ?_
   try simp only [za]
   apply ze (Or.inr rfl)
   iterate 5 (simp (disch := first | exact dis | fail) only [go_sem, seval, -reduceOfNat, -reduceNegSucc] <;> exact rfl)
  by_cases g2 : 159 < b1
  case pos =>
   have hd : decL (b0 :: b1 :: b2 :: r) = (65533, 1) := (by match r, hb with
     | [], hb => rw [yW]; (repeat' split); all_goals first | rfl | (exfalso; (try simp only [zo, zv, zf] at *); omega)
     | b3 :: r, hb => rw [z6]; (repeat' split); all_goals first | rfl | (exfalso; (try simp only [zo, zv, zG, zf] at *); omega))
   rw [zM, hd]
   refine k.eval (by simp (disch := first | exact dis | fail) only [go_sem, seval, -reduceOfNat, -reduceNegSucc, encB, zN, hl2, hl3, and7, shr4, g1, g2]; exact rfl) ?_
   try simp only [za]
   apply ze (Or.inr rfl)
   iterate 5 (simp (disch := first | exact dis | fail) only [go_sem, seval, -reduceOfNat, -reduceNegSucc] <;> exact rfl)
  by_cases g3 : b2 < 128
  case pos =>
   have hd : decL (b0 :: b1 :: b2 :: r) = (65533, 1) := (by match r, hb with
     | [], hb => rw [yW]; (repeat' split); all_goals first | rfl | (exfalso; (try simp only [zo, zv, zf] at *); omega)
     | b3 :: r, hb => rw [z6]; (repeat' split); all_goals first | rfl | (exfalso; (try simp only [zo, zv, zG, zf] at *); omega))
   rw [zM, hd]
   refine k.eval (by simp (disch := first | exact dis | fail) only [go_sem, seval, -reduceOfNat, -reduceNegSucc, encB, zN, hl2, hl3, and7, shr4, g1, g2, g3]; exact rfl) ?_
   try simp only [za]
   apply ze (Or.inr rfl)
   iterate 5 (simp (disch := first | exact dis | fail) only [go_sem, seval, -reduceOfNat, -reduceNegSucc] <;> exact rfl)
  by_cases g4 : 191 < b2
  case pos =>
   have hd : decL (b0 :: b1 :: b2 :: r) = (65533, 1) := (by match r, hb with
     | [], hb => rw [yW]; (repeat' split); all_goals first | rfl | (exfalso; (try simp only [zo, zv, zf] at *); omega)
     | b3 :: r, hb => rw [z6]; (repeat' split); all_goals first | rfl | (exfalso; (try simp only [zo, zv, zG, zf] at *); omega))
   rw [zM, hd]
   refine k.eval (by simp (disch := first | exact dis | fail) only [go_sem, seval, -reduceOfNat, -reduceNegSucc, encB, zN, hl2, hl3, and7, shr4, g1, g2, g3, g4]; exact rfl) ?_
   try simp only [za]
   apply ze (Or.inr rfl)
   iterate 5 (simp (disch := first | exact dis | fail) only [go_sem, seval, -reduceOfNat, -reduceNegSucc] <;> exact rfl)
  have hd : decL (b0 :: b1 :: b2 :: r) = (dec3 b0 b1 b2, 3) := (by match r, hb with
     | [], hb => rw [yW]; (repeat' split); all_goals first | rfl | (exfalso; (try simp only [zo, zv, zf] at *); omega)
     | b3 :: r, hb => rw [z6]; (repeat' split); all_goals first | rfl | (exfalso; (try simp only [zo, zv, zG, zf] at *); omega))
  rw [zM, hd]
  refine k.eval (by simp (disch := first | exact dis | fail) only [go_sem, seval, -reduceOfNat, -reduceNegSucc, encB, zN, hl2, hl3, and7, shr4, g1, g2, g3, g4, Lt, qQ, shl6, Z0, orN, or12, GO]; exact rfl) ?_
  try simp only [za]
  apply ze (Or.inr rfl)
  iterate 5 (simp (disch := first | exact dis | fail) only [go_sem, seval, -reduceOfNat, -reduceNegSucc, zv] <;> exact rfl)
theorem Gx {P : Program} {w0 : World} (B : Bx P w0) {O : Orc} (hO : OrcOk P w0 O) (b0 : Nat) (r : List Nat) (hb : Byt (b0 :: r)) (hc : 128 ≤ b0 ∧ (b0 = 240)) (hlen : (b0 :: r).length < 1000000) :
  SC P w0 117 (encB (b0 :: r)) (H [] 0 true) (zM (b0 :: r)) (H [] 0 true) := by
 refine Is.sc hO B.mixed B.glob B.env 0 (show env.funs.get 117 = some f117 from rfl) (Nat.le_of_ble_eq_true rfl) xf fun C k => ?_
 have h0 : b0 < 256 := hb b0 (by simp)
 have hx : xL b0 = 52 := by
  unfold xL
  repeat' split
  all_goals omega
 have hl2 := fun s => gU (c := b0) h0 s
 rw [hx] at hl2
 have hl3 := fun s => gE s
 unfold f117
 simp only [Ko, Kg, Kn, Ki]
 match r, hb, hlen with
 | [], hb, hlen =>
  rw [zM, show decL [b0] = (65533, 1) from by rw [ub]; (repeat' split); all_goals first | rfl | (exfalso; (try simp only [zo, zv, zG, zf] at *); omega)]
  refine k.eval (by simp (disch := first | exact dis | fail) only [go_sem, seval, -reduceOfNat, -reduceNegSucc, encB, zN, hl2, hl3, and7, shr4]; exact rfl) ?_
  try simp only [za]
  apply ze (Or.inr rfl)
  iterate 5 (simp (disch := first | exact dis | fail) only [go_sem, seval, -reduceOfNat, -reduceNegSucc] <;> exact rfl)
 | [b1], hb, hlen =>
  have h1 : b1 < 256 := hb b1 (by simp)
  rw [zM, show decL [b0, b1] = (65533, 1) from by rw [q7]; (repeat' split); all_goals first | rfl | (exfalso; (try simp only [zo] at *); omega)]
  refine k.eval (by simp (disch := first | exact dis | fail) only [go_sem, seval, -reduceOfNat, -reduceNegSucc, encB, zN, hl2, hl3, and7, shr4]; exact rfl) ?_
  try simp only [za]
  apply ze (Or.inr rfl)
  iterate 5 (simp (disch := first | exact dis | fail) only [go_sem, seval, -reduceOfNat, -reduceNegSucc] <;> exact rfl)
 | [b1, b2], hb, hlen =>
  have h1 : b1 < 256 := hb b1 (by simp)
  have h2 : b2 < 256 := hb b2 (by simp)
  rw [zM, show decL [b0, b1, b2] = (65533, 1) from by rw [yW]; (repeat' split); all_goals first | rfl | (exfalso; (try simp only [zo, zv, zf] at *); omega)]
  refine k.eval (by simp (disch := first | exact dis | fail) only [go_sem, seval, -reduceOfNat, -reduceNegSucc, encB, zN, hl2, hl3, and7, shr4]; exact rfl) ?_
  try simp only [za]
  apply ze (Or.inr rfl)
  iterate 5 (simp (disch := first | exact dis | fail) only [go_sem, seval, -reduceOfNat, -reduceNegSucc] <;> exact rfl)
 | b1 :: b2 :: b3 :: r, hb, hlen =>
  have h1 : b1 < 256 := hb b1 (by simp)
  have h2 : b2 < 256 := hb b2 (by simp)
  have h3 : b3 < 256 := hb b3 (by simp)
  simp only [List.length_cons] at hlen
  have hlr : r.length < 1000000 := by omega
  by_cases g1 : b1 < 144
 
  case pos =>
   have hd : decL (b0 :: b1 :: b2 :: b3 :: r) = (65533, 1) := (by rw [z6]; (repeat' split); all_goals first | rfl | (exfalso; (try simp only [zo, zv, zG, zf] at *); omega))
   rw [zM, hd]
   refine k.eval (by simp (disch := first | exact dis | fail) only [go_sem, seval, -reduceOfNat, -reduceNegSucc, encB, zN, hl2, hl3, and7, shr4, g1]; exact rfl) ?_
   try simp only [za]
   apply ze (Or.inr rfl)
   iterate 5 (simp (disch := first | exact dis | fail) only [go_sem, seval, -reduceOfNat, -reduceNegSucc] <;> exact rfl)
  by_cases g2 : 191 < b1
  case pos =>
   have hd : decL (b0 :: b1 :: b2 :: b3 :: r) = (65533, 1) := (by rw [z6]; (repeat' split); all_goals first | rfl | (exfalso; (try simp only [zo, zv, zG, zf] at *); omega))
   rw [zM, hd]
   refine k.eval (by simp (disch := first | exact dis | fail) only [go_sem, seval, -reduceOfNat, -reduceNegSucc, encB, zN, hl2, hl3, and7, shr4, g1, g2]; exact rfl) ?_
   try simp only [za]
   apply ze (Or.inr rfl)
   iterate 5 (simp (disch := first | exact dis | fail) only [go_sem, seval, -reduceOfNat, -reduceNegSucc] <;> exact rfl)
  by_cases g3 : b2 < 128
  case pos =>
   have hd : decL (b0 :: b1 :: b2 :: b3 :: r) = (65533, 1) := (by rw [z6]; (repeat' split); all_goals first | rfl | (exfalso; (try simp only [zo, zv, zG, zf] at *); omega))
   rw [zM, hd]
   refine k.eval (by simp (disch := first | exact dis | fail) only [go_sem, seval, -reduceOfNat, -reduceNegSucc, encB, zN, hl2, hl3, and7, shr4, g1, g2, g3]; exact rfl) ?_
   try simp only [za]
   apply ze (Or.inr rfl)
   iterate 5 (simp (disch := first | exact dis | fail) only [go_sem, seval, -reduceOfNat, -reduceNegSucc] <;> exact rfl)
  by_cases g4 : 191 < b2
  case pos =>
   have hd : decL (b0 :: b1 :: b2 :: b3 :: r) = (65533, 1) := (by rw [z6]; (repeat' split); all_goals first | rfl | (exfalso; (try simp only [zo, zv, zG, zf] at *); omega))
   rw [zM, hd]
   refine k.eval (by simp (disch := first | exact dis | fail) only [go_sem, seval, -reduceOfNat, -reduceNegSucc, encB, zN, hl2, hl3, and7, shr4, g1, g2, g3, g4]; exact rfl) ?_
   try simp only [za]
   apply ze (Or.inr rfl)
   iterate 5 (simp (disch := first | exact dis | fail) only [go_sem, seval, -reduceOfNat, -reduceNegSucc] <;> exact rfl)
  by_cases g5 : b3 < 128
  case pos =>
   have hd : decL (b0 :: b1 :: b2 :: b3 :: r) = (65533, 1) := (by rw [z6]; (repeat' split); all_goals first | rfl | (exfalso; (try simp only [zo, zv, zG, zf] at *); omega))
   rw [zM, hd]
   refine k.eval (by simp (disch := first | exact dis | fail) only [go_sem, seval, -reduceOfNat, -reduceNegSucc, encB, zN, hl2, hl3, and7, shr4, g1, g2, g3, g4, g5]; exact rfl) ?_
   try simp only [za]
   apply ze (Or.inr rfl)
   iterate 5 (simp (disch := first | exact dis | fail) only [go_sem, seval, -reduceOfNat, -reduceNegSucc] <;> exact rfl)
  by_cases g6 : 191 < b3
  case pos =>
   have hd : decL (b0 :: b1 :: b2 :: b3 :: r) = (65533, 1) := (by rw [z6]; (repeat' split); all_goals first | rfl | (exfalso; (try simp only [zo, zv, zG, zf] at *); omega))
   rw [zM, hd]
   refine k.eval (by simp (disch := first | exact dis | fail) only [go_sem, seval, -reduceOfNat, -reduceNegSucc, encB, zN, hl2, hl3, and7, shr4, g1, g2, g3, g4, g5, g6]; exact rfl) ?_
   try simp only [za]
   apply ze (Or.inr rfl)
   iterate 5 (simp (disch := first | exact dis | fail) only [go_sem, seval, -reduceOfNat, -reduceNegSucc] <;> exact rfl)
  have hd : decL (b0 :: b1 :: b2 :: b3 :: r) = (dec4 b0 b1 b2 b3, 4) := (by rw [z6]; (repeat' split); all_goals first | rfl | (exfalso; (try simp only [zo, zv, zG, zf] at *); omega))
  rw [zM, hd]
  refine k.eval (by simp (disch := first | exact dis | fail) only [go_sem, seval, -reduceOfNat, -reduceNegSucc, encB, zN, hl2, hl3, and7, shr4, g1, g2, g3, g4, g5, g6, and7, qQ, shl6, Z0, PQ, orN, or18, zzk, Lg]; exact rfl) ?_
  try simp only [za]
  apply ze (Or.inr rfl)
  iterate 5 (simp (disch := first | exact dis | fail) only [go_sem, seval, -reduceOfNat, -reduceNegSucc, zG] <;> exact rfl)
theorem Gu {P : Program} {w0 : World} (B : Bx P w0) {O : Orc} (hO : OrcOk P w0 O) (b0 : Nat) (r : List Nat) (hb : Byt (b0 :: r)) (hc : 128 ≤ b0 ∧ (241 ≤ b0 ∧ b0 < 244)) (hlen : (b0 :: r).length < 1000000) :
  SC P w0 117 (encB (b0 :: r)) (H [] 0 true) (zM (b0 :: r)) (H [] 0 true) := by
 refine Is.sc hO B.mixed B.glob B.env 0 (show env.funs.get 117 = some f117 from rfl) (Nat.le_of_ble_eq_true rfl) xf fun C k => ?_
 have h0 : b0 < 256 := hb b0 (by simp)
 have hx : xL b0 = 4 := by
  unfold xL
  repeat' split
  all_goals omega
 have hl2 := fun s => gU (c := b0) h0 s
 rw [hx] at hl2
 have hl3 := fun s => gE s
 unfold f117
 simp only [Ko, Kg, Kn, Ki]
 match r, hb, hlen with
 | [], hb, hlen =>
  rw [zM, show decL [b0] = (65533, 1) from by rw [ub]; (repeat' split); all_goals first | rfl | (exfalso; (try simp only [zo, zv, zG, zf] at *); omega)]
  refine k.eval (by simp (disch := first | exact dis | fail) only [go_sem, seval, -reduceOfNat, -reduceNegSucc, encB, zN, hl2, hl3, and7, shr4]; exact rfl) ?_
  try simp only [za]
  apply ze (Or.inr rfl)
  iterate 5 (simp (disch := first | exact dis | fail) only [go_sem, seval, -reduceOfNat, -reduceNegSucc] <;> exact rfl)
 | [b1], hb, hlen =>
  have h1 : b1 < 256 := hb b1 (by simp)
  rw [zM, show decL [b0, b1] = (65533, 1) from by rw [q7]; (repeat' split); all_goals first | rfl | (exfalso; (try simp only [zo] at *); omega)]
  refine k.eval (by simp (disch := first | exact dis | fail) only [go_sem, seval, -reduceOfNat, -reduceNegSucc, encB, zN, hl2, hl3, and7, shr4]; exact rfl) ?_
  try simp only [za]
  apply ze (Or.inr rfl)
  iterate 5 (simp (disch := first | exact dis | fail) only [go_sem, seval, -reduceOfNat, -reduceNegSucc] <;> exact rfl)
 | [b1, b2], hb, hlen =>
  have h1 : b1 < 256 := hb b1 (by simp)
  have h2 : b2 < 256 := hb b2 (by simp)
  rw [zM, show decL [b0, b1, b2] = (65533, 1) from by rw [yW]; (repeat' split); all_goals first | rfl | (exfalso; (try simp only [zo, zv, zf] at *); omega)]
  refine k.eval (by simp (disch := first | exact dis | fail) only [go_sem, seval, -reduceOfNat, -reduceNegSucc, encB, zN, hl2, hl3, and7, shr4]; exact rfl) ?_
  try simp only [za]
  apply ze (Or.inr rfl)
  iterate 5 (simp (disch := first | exact dis | fail) only [go_sem, seval, -reduceOfNat, -reduceNegSucc] <;> exact rfl)
 | b1 :: b2 :: b3 :: r, hb, hlen =>
  have h1 : b1 < 256 := hb b1 (by simp)
  have h2 : b2 < 256 := hb b2 (by simp)
  have h3 : b3 < 256 := hb b3 (by simp)
  simp only [List.length_cons] at hlen
  have hlr : r.length < 1000000 := by omega
  by_cases g1 : b1 < 128
 
  case pos =>
   have hd : decL (b0 :: b1 :: b2 :: b3 :: r) = (65533, 1) := (by rw [z6]; (repeat' split); all_goals first | rfl | (exfalso; (try simp only [zo, zv, zG, zf] at *); omega))
   rw [zM, hd]
   refine k.eval (by simp (disch := first | exact dis | fail) only [go_sem, seval, -reduceOfNat, -reduceNegSucc, encB, zN, hl2, hl3, and7, shr4, g1]; exact rfl) ?_
   try simp only [za]
   apply ze (Or.inr rfl)
   iterate 5 (simp (disch := first | exact dis | fail) only [go_sem, seval, -reduceOfNat, -reduceNegSucc] <;> exact rfl)
  by_cases g2 : 191 < b1
  case pos =>
   have hd : decL (b0 :: b1 :: b2 :: b3 :: r) = (65533, 1) := (by rw [z6]; (repeat' split); all_goals first | rfl | (exfalso; (try simp only [zo, zv, zG, zf] at *); omega))
   rw [zM, hd]
   refine k.eval (by simp (disch := first | exact dis | fail) only [go_sem, seval, -reduceOfNat, -reduceNegSucc, encB, zN, hl2, hl3, and7, shr4, g1, g2]; exact rfl) ?_
   try simp only [za]
   apply ze (Or.inr rfl)
   iterate 5 (simp (disch := first | exact dis | fail) only [go_sem, seval, -reduceOfNat, -reduceNegSucc] <;> exact rfl)
  by_cases g3 : b2 < 128
  case pos =>
   have hd : decL (b0 :: b1 :: b2 :: b3 :: r) = (65533, 1) := (by rw [z6]; (repeat' split); all_goals first | rfl | (exfalso; (try simp only [zo, zv, zG, zf] at *); omega))
   rw [zM, hd]
   refine k.eval (by simp (disch := first | exact dis | fail) only [go_sem, seval, -reduceOfNat, -reduceNegSucc, encB, zN, hl2, hl3, and7, shr4, g1, g2, g3]; exact rfl) ?_
   try simp only [za]
   apply ze (Or.inr rfl)
   iterate 5 (simp (disch := first | exact dis | fail) only [go_sem, seval, -reduceOfNat, -reduceNegSucc] <;> exact rfl)
  by_cases g4 : 191 < b2
  case pos =>
   have hd : decL (b0 :: b1 :: b2 :: b3 :: r) = (65533, 1) := (by rw [z6]; (repeat' split); all_goals first | rfl | (exfalso; (try simp only [zo, zv, zG, zf] at *); omega))
   rw [zM, hd]
   refine k.eval (by simp (disch := first | exact dis | fail) only [go_sem, seval, -reduceOfNat, -reduceNegSucc, encB, zN, hl2, hl3, and7, shr4, g1, g2, g3, g4]; exact rfl) ?_
   try simp only [za]
   apply ze (Or.inr rfl)
   iterate 5 (simp (disch := first | exact dis | fail) only [go_sem, seval, -reduceOfNat, -reduceNegSucc] <;> exact rfl)
  by_cases g5 : b3 < 128
  case pos =>
   have hd : decL (b0 :: b1 :: b2 :: b3 :: r) = (65533, 1) := (by rw [z6]; (repeat' split); all_goals first | rfl | (exfalso; (try simp only [zo, zv, zG, zf] at *); omega))
   rw [zM, hd]
   refine k.eval (by simp (disch := first | exact dis | fail) only [go_sem, seval, -reduceOfNat, -reduceNegSucc, encB, zN, hl2, hl3, and7, shr4, g1, g2, g3, g4, g5]; exact rfl) ?_
   try simp only [za]
   apply ze (Or.inr rfl)
   iterate 5 (simp (disch := first | exact dis | fail) only [go_sem, seval, -reduceOfNat, -reduceNegSucc] <;> exact rfl)
  by_cases g6 : 191 < b3
  case pos =>
   have hd : decL (b0 :: b1 :: b2 :: b3 :: r) = (65533, 1) := (by rw [z6]; (repeat' split); all_goals first | rfl | (exfalso; (try simp only [zo, zv, zG, zf] at *); omega))
   rw [zM, hd]
   refine k.eval (by simp (disch := first | exact dis | fail) only [go_sem, seval, -reduceOfNat, -reduceNegSucc, encB, zN, hl2, hl3, and7, shr4, g1, g2, g3, g4, g5, g6]; exact rfl) ?_
   try simp only [za]
   apply ze (Or.inr rfl)
   iterate 5 (simp (disch := first | exact dis | fail) only [go_sem, seval, -reduceOfNat, -reduceNegSucc] <;> exact rfl)
  have hd : decL (b0 :: b1 :: b2 :: b3 :: r) = (dec4 b0 b1 b2 b3, 4) := (by rw [z6]; (repeat' split); all_goals first | rfl | (exfalso; (try simp only [zo, zv, zG, zf] at *); omega))
  rw [zM, hd]
  refine k.eval (by simp (disch := first | exact dis | fail) only [go_sem, seval, -reduceOfNat, -reduceNegSucc, encB, zN, hl2, hl3, and7, shr4, g1, g2, g3, g4, g5, g6, and7, qQ, shl6, Z0, PQ, orN, or18, zzk, Lg]; exact rfl) ?_
  try simp only [za]
  apply ze (Or.inr rfl)
  iterate 5 (simp (disch := first | exact dis | fail) only [go_sem, seval, -reduceOfNat, -reduceNegSucc, zG] <;> exact rfl)
theorem Gs {P : Program} {w0 : World} (B : Bx P w0) {O : Orc} (hO : OrcOk P w0 O) (b0 : Nat) (r : List Nat) (hb : Byt (b0 :: r)) (hc : 128 ≤ b0 ∧ (b0 = 244)) (hlen : (b0 :: r).length < 1000000) :
  SC P w0 117 (encB (b0 :: r)) (H [] 0 true) (zM (b0 :: r)) (H [] 0 true) := by
 refine Is.sc hO B.mixed B.glob B.env 0 (show env.funs.get 117 = some f117 from rfl) (Nat.le_of_ble_eq_true rfl) xf fun C k => ?_
 have h0 : b0 < 256 := hb b0 (by simp)
 have hx : xL b0 = 68 := by
  unfold xL
  repeat' split
  all_goals omega
 have hl2 := fun s => gU (c := b0) h0 s
 rw [hx] at hl2
 have hl3 := fun s => gE s
 unfold f117
 simp only [Ko, Kg, Kn, Ki]
 match r, hb, hlen with
 | [], hb, hlen =>
  rw [zM, show decL [b0] = (65533, 1) from by rw [ub]; (repeat' split); all_goals first | rfl | (exfalso; (try simp only [zo, zv, zG, zf] at *); omega)]
  refine k.eval (by simp (disch := first | exact dis | fail) only [go_sem, seval, -reduceOfNat, -reduceNegSucc, encB, zN, hl2, hl3, and7, shr4]; exact rfl) ?_
  try simp only [za]
  apply ze (Or.inr rfl)
  iterate 5 (simp (disch := first | exact dis | fail) only [go_sem, seval, -reduceOfNat, -reduceNegSucc] <;> exact rfl)
 | [b1], hb, hlen =>
  have h1 : b1 < 256 := hb b1 (by simp)
  rw [zM, show decL [b0, b1] = (65533, 1) from by rw [q7]; (repeat' split); all_goals first | rfl | (exfalso; (try simp only [zo] at *); omega)]
  refine k.eval (by simp (disch := first | exact dis | fail) only [go_sem, seval, -reduceOfNat, -reduceNegSucc, encB, zN, hl2, hl3, and7, shr4]; exact rfl) ?_
  try simp only [za]
  apply ze (Or.inr rfl)
  iterate 5 (simp (disch := first | exact dis | fail) only [go_sem, seval, -reduceOfNat, -reduceNegSucc] <;> exact rfl)
 | [b1, b2], hb, hlen =>
  have h1 : b1 < 256 := hb b1 (by simp)
  have h2 : b2 < 256 := hb b2 (by simp)
  rw [zM, show decL [b0, b1, b2] = (65533, 1) from by rw [yW]; (repeat' split); all_goals first | rfl | (exfalso; (try simp only [zo, zv, zf] at *); omega)]
  refine k.eval (by simp (disch := first | exact dis | fail) only [go_sem, seval, -reduceOfNat, -reduceNegSucc, encB, zN, hl2, hl3, and7, shr4]; exact rfl) ?_
  try simp only [za]
  apply ze (Or.inr rfl)
  iterate 5 (simp (disch := first | exact dis | fail) only [go_sem, seval, -reduceOfNat, -reduceNegSucc] <;> exact rfl)
 | b1 :: b2 :: b3 :: r, hb, hlen =>
  have h1 : b1 < 256 := hb b1 (by simp)
  have h2 : b2 < 256 := hb b2 (by simp)
  have h3 : b3 < 256 := hb b3 (by simp)
  simp only [List.length_cons] at hlen
  have hlr : r.length < 1000000 := by omega
  by_cases g1 : b1 < 128
 
  case pos =>
   have hd : decL (b0 :: b1 :: b2 :: b3 :: r) = (65533, 1) := (by rw [z6]; (repeat' split); all_goals first | rfl | (exfalso; (try simp only [zo, zv, zG, zf] at *); omega))
   rw [zM, hd]
   refine k.eval (by simp (disch := first | exact dis | fail) only [go_sem, seval, -reduceOfNat, -reduceNegSucc, encB, zN, hl2, hl3, and7, shr4, g1]; exact rfl) ?_
   try simp only [za]
   apply ze (Or.inr rfl)
   iterate 5 (simp (disch := first | exact dis | fail) only [go_sem, seval, -reduceOfNat, -reduceNegSucc] <;> exact rfl)
  by_cases g2 : 143 < b1
  case pos =>
   have hd : decL (b0 :: b1 :: b2 :: b3 :: r) = (65533, 1) := (by rw [z6]; (repeat' split); all_goals first | rfl | (exfalso; (try simp only [zo, zv, zG, zf] at *); omega))
   rw [zM, hd]
   refine k.eval (by simp (disch := first | exact dis | fail) only [go_sem, seval, -reduceOfNat, -reduceNegSucc, encB, zN, hl2, hl3, and7, shr4, g1, g2]; exact rfl) ?_
   try simp only [za]
   apply ze (Or.inr rfl)
   iterate 5 (simp (disch := first | exact dis | fail) only [go_sem, seval, -reduceOfNat, -reduceNegSucc] <;> exact rfl)
  by_cases g3 : b2 < 128
  case pos =>
   have hd : decL (b0 :: b1 :: b2 :: b3 :: r) = (65533, 1) := (by rw [z6]; (repeat' split); all_goals first | rfl | (exfalso; (try simp only [zo, zv, zG, zf] at *); omega))
   rw [zM, hd]
   refine k.eval (by simp (disch := first | exact dis | fail) only [go_sem, seval, -reduceOfNat, -reduceNegSucc, encB, zN, hl2, hl3, and7, shr4, g1, g2, g3]; exact rfl) ?_
   try simp only [za]
   apply ze (Or.inr rfl)
   iterate 5 (simp (disch := first | exact dis | fail) only [go_sem, seval, -reduceOfNat, -reduceNegSucc] <;> exact rfl)
  by_cases g4 : 191 < b2
  case pos =>
   have hd : decL (b0 :: b1 :: b2 :: b3 :: r) = (65533, 1) := (by rw [z6]; (repeat' split); all_goals first | rfl | (exfalso; (try simp only [zo, zv, zG, zf] at *); omega))
   rw [zM, hd]
   refine k.eval (by simp (disch := first | exact dis | fail) only [go_sem, seval, -reduceOfNat, -reduceNegSucc, encB, zN, hl2, hl3, and7, shr4, g1, g2, g3, g4]; exact rfl) ?_
   try simp only [za]
   apply ze (Or.inr rfl)
   iterate 5 (simp (disch := first | exact dis | fail) only [go_sem, seval, -reduceOfNat, -reduceNegSucc] <;> exact rfl)
  by_cases g5 : b3 < 128
  case pos =>
   have hd : decL (b0 :: b1 :: b2 :: b3 :: r) = (65533, 1) := (by rw [z6]; (repeat' split); all_goals first | rfl | (exfalso; (try simp only [zo, zv, zG, zf] at *); omega))
   rw [zM, hd]
   refine k.eval (by simp (disch := first | exact dis | fail) only [go_sem, seval, -reduceOfNat, -reduceNegSucc, encB, zN, hl2, hl3, and7, shr4, g1, g2, g3, g4, g5]; exact rfl) ?_
   try simp only [za]
   apply ze (Or.inr rfl)
   iterate 5 (simp (disch := first | exact dis | fail) only [go_sem, seval, -reduceOfNat, -reduceNegSucc] <;> exact rfl)
  by_cases g6 : 191 < b3
  case pos =>
   have hd : decL (b0 :: b1 :: b2 :: b3 :: r) = (65533, 1) := (by rw [z6]; (repeat' split); all_goals first | rfl | (exfalso; (try simp only [zo, zv, zG, zf] at *); omega))
   rw [zM, hd]
   refine k.eval (by simp (disch := first | exact dis | fail) only [go_sem, seval, -reduceOfNat, -reduceNegSucc, encB, zN, hl2, hl3, and7, shr4, g1, g2, g3, g4, g5, g6]; exact rfl) ?_
   try simp only [za]
   apply ze (Or.inr rfl)
   iterate 5 (simp (disch := first | exact dis | fail) only [go_sem, seval, -reduceOfNat, -reduceNegSucc] <;> exact rfl)
  have hd : decL (b0 :: b1 :: b2 :: b3 :: r) = (dec4 b0 b1 b2 b3, 4) := (by rw [z6]; (repeat' split); all_goals first | rfl | (exfalso; (try simp only [zo, zv, zG, zf] at *); omega))
  rw [zM, hd]
  refine k.eval (by simp (disch := first | exact dis | fail) only [go_sem, seval, -reduceOfNat, -reduceNegSucc, encB, zN, hl2, hl3, and7, shr4, g1, g2, g3, g4, g5, g6, and7, qQ, shl6, Z0, PQ, orN, or18, zzk, Lg]; exact rfl) ?_
  try simp only [za]
  apply ze (Or.inr rfl)
  iterate 5 (simp (disch := first | exact dis | fail) only [go_sem, seval, -reduceOfNat, -reduceNegSucc, zG] <;> exact rfl)
set_option maxRecDepth 100000
theorem zyg {P : Program} {w0 : World} (B : Bx P w0) {O : Orc} (hO : OrcOk P w0 O) (b0 : Nat) (r : List Nat) (hb : Byt (b0 :: r)) (hc : 128 ≤ b0) (hlen : (b0 :: r).length < 1000000) :
  SC P w0 117 (encB (b0 :: r)) (H [] 0 true) (zM (b0 :: r)) (H [] 0 true) := by
 have h0 : b0 < 256 := hb b0 (by simp)
 by_cases c1 : b0 < 194 ∨ 244 < b0
 ·exact Ht B hO b0 r hb ⟨hc, c1⟩ hlen
 by_cases c2 : b0 < 224
 ·exact zzo B hO b0 r hb ⟨hc, by omega, c2⟩ hlen
 by_cases c3 : b0 = 224
 ·exact JK B hO b0 r hb ⟨hc, c3⟩ hlen
 by_cases c4 : b0 = 237
 ·exact Kz B hO b0 r hb ⟨hc, c4⟩ hlen
 by_cases c5 : b0 < 240
 ·exact U8 B hO b0 r hb ⟨hc, by omega⟩ hlen
 by_cases c6 : b0 = 240
 ·exact Gx B hO b0 r hb ⟨hc, c6⟩ hlen
 by_cases c7 : b0 = 244
 ·exact Gs B hO b0 r hb ⟨hc, c7⟩ hlen
 exact Gu B hO b0 r hb ⟨hc, by omega, by omega⟩ hlen
def zy2 (l : List Nat) : Prop := ∃ b0 r, l = b0 :: r ∧ Byt l ∧ 128 ≤ b0 ∧ l.length < 1000000
noncomputable def X2 : List AV → St → Option (AV × St) := orc0 encB zy2 zM
theorem Jx {O : Orc} (h : O 117 = some X2) {b0 : Nat} {r : List Nat} (hb : Byt (b0 :: r)) (h1 : 128 ≤ b0) (h2 : (b0 :: r).length < 1000000) (e : Bool) (s : St) : (evW env O).call 117 [.lst (r.length + 1) e (.int .u8 (.ofNat b0) :: zh r)] s = some (zM (b0 :: r), s) := by
 rw [zJ h, X2]; exact yM Xw s (b0 :: r) ⟨b0, r, rfl, hb, h1, h2⟩ (Um (b0 :: r) e)
def zvN (l : List Nat) : Prop := l ≠ [] ∧ Byt l ∧ l.length < 1000000
noncomputable def gDr : List AV → St → Option (AV × St) := orc0 encB zvN zM
theorem zyQ {O : Orc} (h : O 100 = some gDr) {l : List Nat} (h0 : l ≠ []) (hb : Byt l) (h2 : l.length < 1000000) {n : Nat} (hn : n = l.length) (e : Bool) (s : St) : (evW env O).call 100 [.lst n e (zh l)] s = some (zM l, s) := by
 subst hn
 rw [zJ h, gDr, yM Xw s l ⟨h0, hb, h2⟩ (Um l e)]
theorem Qx {b0 : Nat} (h : b0 < 128) (r : List Nat) : decL (b0 :: r) = (b0, 1) := by
 simp only [decL, wK, if_pos h]
theorem zvz {P : Program} {w0 : World} (B : Bx P w0) {O : Orc} (hO : OrcOk P w0 O) (h117 : O 117 = some X2) (l : List Nat) (hl : l ≠ []) (hb : Byt l) (hlen : l.length < 1000000) :
  SC P w0 100 (encB l) (H [] 0 true) (zM l) (H [] 0 true) := by
 refine Is.sc hO B.mixed B.glob B.env 0 (show env.funs.get 100 = some f100 from rfl) (Nat.le_of_ble_eq_true rfl) xf fun C k => ?_
 match l, hl, hb, hlen with
 | b0 :: r, _, hb, hlen =>
 have h0 : b0 < 256 := hb b0 (by simp)
 unfold f100
 simp only [Ko, Ki]
 refine zd (k.eval (by simp (disch := first | exact dis | fail) only [go_sem, seval, -reduceOfNat, -reduceNegSucc, encB]; exact rfl) ?_)
 simp only [za]
 by_cases h1 : b0 < 128
 ·rw [zM, Qx h1]
  refine zd ?_
  refine zd (k.eval (by simp (disch := first | exact dis | fail) only [go_sem, seval, -reduceOfNat, -reduceNegSucc]; exact rfl) ?_)
  simp only [za]
  refine zW (yb (kP (k.ev ?_)))
  simp (disch := first | exact dis | fail) only [go_sem, seval, -reduceOfNat, -reduceNegSucc, h1]
  refine ⟨_, rfl, ?_⟩
  simp only [za, zj]
  apply ze (Or.inr rfl)
  iterate 5 (simp (disch := first | exact dis | fail) only [go_sem, seval, -reduceOfNat, -reduceNegSucc] <;> exact rfl)
 ·have hs := Jx h117 (b0 := b0) (r := r) hb (by omega) hlen
  rw [zM] at hs ⊢
  refine zd ?_
  refine zd (k.eval (by simp (disch := first | exact dis | fail) only [go_sem, seval, -reduceOfNat, -reduceNegSucc]; exact rfl) ?_)
  simp only [za]
  refine zW (yb (kP (k.ev ?_)))
  simp (disch := first | exact dis | fail) only [go_sem, seval, -reduceOfNat, -reduceNegSucc, h1]
  refine ⟨_, rfl, ?_⟩
  simp only [za, zj]
  refine k.eval (by simp (disch := first | exact dis | fail) only [go_sem, seval, -reduceOfNat, -reduceNegSucc, hs]; exact rfl) ?_
  try simp only [za, zj, Cut, if_true]
  apply ze (Or.inr rfl)
  iterate 5 (simp (disch := first | exact dis | fail) only [go_sem, seval, -reduceOfNat, -reduceNegSucc] <;> exact rfl)
set_option maxRecDepth 100000
theorem ZL : ∀ {l : List Nat}, l ≠ [] → 1 ≤ (decL l).2 ∧ (decL l).2 ≤ l.length ∧ zX (decL l).1 = true
 | [], h => absurd rfl h
 | [a], _ => by
  rw [ub]
  split
  ·exact ⟨Nat.le_refl _, by simp, zf.2 (by omega)⟩
  ·exact ⟨Nat.le_refl _, by simp, rfl⟩
 | [a, b], _ => by
  rw [q7]
  split
  ·exact ⟨Nat.le_refl _, by simp, zf.2 (by simp only; omega)⟩
  ·split
   ·exact ⟨by simp, by simp, zf.2 (by simp only [zo]; omega)⟩
   ·exact ⟨Nat.le_refl _, by simp, rfl⟩
 | [a, b, c], _ => by
  rw [yW]
  split
  ·exact ⟨Nat.le_refl _, by simp, zf.2 (by simp only; omega)⟩
  ·split
   ·exact ⟨by simp, by simp, zf.2 (by simp only [zo]; omega)⟩
   ·split
    ·rename_i h; exact ⟨by simp, by simp, h.2.2.2.2⟩
    ·exact ⟨Nat.le_refl _, by simp, rfl⟩
 | a :: b :: c :: d :: r, _ => by
  rw [z6]
  simp only [List.length_cons]
  split
  ·exact ⟨Nat.le_refl _, by simp only; omega, zf.2 (by simp only; omega)⟩
  ·split
   ·exact ⟨by simp, by simp only; omega, zf.2 (by simp only [zo]; omega)⟩
   ·split
    ·rename_i h; exact ⟨by simp, by simp only; omega, h.2.2.2.2⟩
    ·split
     ·rename_i h; exact ⟨by simp, by simp only; omega, h.2.2.2.2.2⟩
     ·exact ⟨Nat.le_refl _, by simp only; omega, rfl⟩
def PreB (b : List Nat) : Prop := Byt b ∧ b.length < 1000000
set_option maxRecDepth 100000
set_option maxRecDepth 100000
def yD (c : Nat) : Bool := decide (48 ≤ c) && decide (c ≤ 57)
set_option maxRecDepth 100000
theorem kF (c : Nat) (r : List Nat) (k : IntKind) : vSls (.str (c :: r)) (some (.int k (.ofNat 1))) none = some (.str r) := by
 simp only [vSls, bnd, ye, List.length_cons, zL.2 (show 1 ≤ r.length + 1 by omega), cond_true, u7, vX, List.drop_succ_cons, List.drop_zero]
 rw [List.take_of_length_le (by show r.length ≤ r.length + 1 - 1; omega)]
theorem vF (c : Nat) (r : List Nat) : getS (c :: r) 0 = some c := rfl
set_option maxRecDepth 100000
set_option maxRecDepth 100000
set_option maxRecDepth 100000
theorem zw0 (k : IntKind) (c : Nat) : vCis (.int k (.ofNat c)) = some (.str (encC (bif zX c then c else 65533))) := rfl
set_option maxRecDepth 100000
theorem pA (c : Nat) : zh [c] = [.int .u8 (.ofNat c)] := rfl
theorem jt (l : List (Nat × Option AObj)) (n m e len : Nat) (hd : List (Nat × Nat)) (on : Option (Nat × List Nat)) (cs : List AV) : oBsl (KL l n m false hd on) e len (some cs) = some (.sl n 0 len (.fix len), KL ((n, some (.row e cs false false)) :: l) (n + 1) m false hd on) := rfl
theorem ko {l : List (Nat × Option AObj)} {n m id t : Nat} {b x fz : Bool} {new : List Nat} {c : Cap} (hg : getA l id = some (.row t (zh new) x fz)) : xI (KL l n m b [] none) 1 new.length (.sl id 0 new.length c) = some (zh new) := by
 simp only [xI, xj, hg]; exact gD new
theorem zvc {l : List (Nat × Option AObj)} {n m id t : Nat} {b x fz : Bool} {c0 : AV} {cs : List AV} (hg : getA l id = some (.row t (c0 :: cs) x fz)) : vCup (KL l n m b [] none) (.ptr id 0) = some (.ptr id 0) := by
 simp only [vCup, xj, hg, ye]; rfl
set_option maxRecDepth 100000
theorem zwa {a : Nat} (h : a < 32) : binI .or .u8 (.ofNat 192) .u8 (.ofNat a) = some (.int .u8 (.ofNat (192 + a))) := by
 have : ∀ a, a < 32 → bits .or .u8 (.ofNat 192) (.ofNat a) = some (.ofNat (192 + a)) := by decide +kernel
 show (match bits .or .u8 (.ofNat 192) (.ofNat a) with | some n => some (AV.int .u8 n) | none => none) = _
 rw [this a h]
theorem Ud {a : Nat} (h : a < 16) : binI .or .u8 (.ofNat 224) .u8 (.ofNat a) = some (.int .u8 (.ofNat (224 + a))) := by
 have : ∀ a, a < 16 → bits .or .u8 (.ofNat 224) (.ofNat a) = some (.ofNat (224 + a)) := by decide +kernel
 show (match bits .or .u8 (.ofNat 224) (.ofNat a) with | some n => some (AV.int .u8 n) | none => none) = _
 rw [this a h]
theorem zwl {a : Nat} (h : a < 8) : binI .or .u8 (.ofNat 240) .u8 (.ofNat a) = some (.int .u8 (.ofNat (240 + a))) := by
 have : ∀ a, a < 8 → bits .or .u8 (.ofNat 240) (.ofNat a) = some (.ofNat (240 + a)) := by decide +kernel
 show (match bits .or .u8 (.ofNat 240) (.ofNat a) with | some n => some (AV.int .u8 n) | none => none) = _
 rw [this a h]
theorem hP {a : Nat} (h : a < 64) : binI .or .u8 (.ofNat 128) .u8 (.ofNat a) = some (.int .u8 (.ofNat (128 + a))) := by
 have : ∀ a, a < 64 → bits .or .u8 (.ofNat 128) (.ofNat a) = some (.ofNat (128 + a)) := by decide +kernel
 show (match bits .or .u8 (.ofNat 128) (.ofNat a) with | some n => some (AV.int .u8 n) | none => none) = _
 rw [this a h]
theorem lf (a : Nat) : binI .shr .i32 (.ofNat a) .u64 (.ofNat 6) = some (.int .i32 (.ofNat (a / 64))) := by
 show some (AV.int .i32 (Int.fdiv (.ofNat a) (.ofNat 64))) = _
 cases a <;> rfl
theorem kW (a : Nat) : binI .shr .i32 (.ofNat a) .u64 (.ofNat 12) = some (.int .i32 (.ofNat (a / 4096))) := by
 show some (AV.int .i32 (Int.fdiv (.ofNat a) (.ofNat 4096))) = _
 cases a <;> rfl
theorem HP (a : Nat) : binI .shr .i32 (.ofNat a) .u64 (.ofNat 18) = some (.int .i32 (.ofNat (a / 262144))) := by
 show some (AV.int .i32 (Int.fdiv (.ofNat a) (.ofNat 262144))) = _
 cases a <;> rfl
theorem wl (a : Nat) : xG .u8 (.ofNat a) = .ofNat (a % 256) := by
 show (bif Nat.blt a 256 then Int.ofNat a else IntKind.wrap .u8 (Int.ofNat a)) = _
 rw [wK]
 split
 ·rw [Nat.mod_eq_of_lt (by assumption)]
 ·have h1 : ((a : Nat) : Int) % (2 ^ IntKind.bits .u8 : Int) = ((a % 256 : Nat) : Int) := by
   show (a : Int) % 256 = _
   omega
  unfold IntKind.wrap
  simp only [show Int.ofNat a = (a : Int) from rfl, h1]
  rfl
theorem pb (a b : Nat) : zh [a, b] = [.int .u8 (.ofNat a), .int .u8 (.ofNat b)] := rfl
theorem kl (a b c : Nat) : zh [a, b, c] = [.int .u8 (.ofNat a), .int .u8 (.ofNat b), .int .u8 (.ofNat c)] := rfl
theorem lc (a b c d : Nat) : zh [a, b, c, d] = [.int .u8 (.ofNat a), .int .u8 (.ofNat b), .int .u8 (.ofNat c), .int .u8 (.ofNat d)] := rfl
theorem mm64 (a : Nat) : a % 256 % 64 = a % 64 := by omega
theorem zz9 {O : Orc} (o74 : O 74 = none) (o96 : O 96 = none) (l : List (Nat × Option AObj)) (n m j : Nat) (out : List Nat) (c : Nat) (hv : zX c = true) (ho : out.length < 1000000) (hj : j < n)
  (hb : getA l j = some (.row 5 (zh out) true false)) :
  (evW env O).call 74 [.sl j 0 out.length (.opn 1), .int .i32 (.ofNat c)] (KL l n m false [] none) = some (.sl (n + 1) 0 (out ++ encC c).length (.opn 1), KL ((n + 1, some (.row 5 (zh (out ++ encC c)) true false)) :: (j, none) :: (n, some (.row 5 (zh (encC c)) false false)) :: l) (n + 2) (mark m j) false [] none) := by
 have c74 := @vV env O _ _ o74 (show env.funs.get 74 = some f74 from rfl) rfl
 have c96 := @vV env O _ _ o96 (show env.funs.get 96 = some f96 from rfl) rfl
 have n2 : ¬ j = n := by omega
 obtain ⟨v1, v2⟩ := zf.1 hv
 have ap := fun (cs : List Nat) (h0 : cs ≠ []) (h4 : cs.length ≤ 4) => @zyx ((n, some (.row 5 (zh cs) false false)) :: l) (n + 1) m 5 j false (.sl n 0 cs.length (.fix cs.length)) out cs (by rw [vM, if_neg n2]; exact hb) rfl h0 (ko (by rw [vM, if_pos rfl])) (by rw [List.length_append]; omega)
 rw [lC]
 by_cases h1 : c < 128
 ·rw [if_pos h1]
  have ap := ap [c] (by simp) (by simp)
  simp only [pA, List.length_cons, List.length_nil, Nat.zero_add] at ap ⊢
  simp (disch := first | exact dis | fail) only [go_sem, seval, -reduceOfNat, -reduceNegSucc, c74, f74, wH, qM, ap, jt]
 rw [if_neg h1]
 by_cases h2 : c < 2048
 ·rw [if_pos h2]
  have ap := ap [192 + c / 64, 128 + c % 64] (by simp) (by simp)
  have w1 := wl c
  simp only [pb, List.length_cons, List.length_nil, Nat.zero_add, Nat.reduceAdd] at ap ⊢
  simp (disch := first | exact dis | fail) only [go_sem, seval, -reduceOfNat, -reduceNegSucc, c74, f74, c96, f96, wH, w1, qM, ap, jt, lf, qQ, zwa, hP, mm64]
 rw [if_neg h2]
 by_cases h3 : c < 65536
 ·rw [if_pos h3]
  have ap := ap [224 + c / 4096, 128 + c / 64 % 64, 128 + c % 64] (by simp) (by simp)
  have w1 := wl c
  have w2 := wl (c / 64)
  simp only [kl, List.length_cons, List.length_nil, Nat.zero_add, Nat.reduceAdd] at ap ⊢
  by_cases h4 : c < 55296
  ·simp (disch := first | exact dis | fail) only [go_sem, seval, -reduceOfNat, -reduceNegSucc, c74, f74, c96, f96, h4, wH, w1, w2, qM, ap, jt, lf, kW, qQ, Ud, hP, mm64]
  ·have h5 : 57343 < c := by omega
   simp (disch := first | exact dis | fail) only [go_sem, seval, -reduceOfNat, -reduceNegSucc, c74, f74, c96, f96, h4, h5, wH, w1, w2, qM, ap, jt, lf, kW, qQ, Ud, hP, mm64]
 rw [if_neg h3]
 have ap := ap [240 + c / 262144, 128 + c / 4096 % 64, 128 + c / 64 % 64, 128 + c % 64] (by simp) (by simp)
 have w1 := wl c
 have w2 := wl (c / 64)
 have w3 := wl (c / 4096)
 have h4 : ¬ c < 55296 := by omega
 have h5 : 57343 < c := by omega
 have h6 : 65535 < c := by omega
 simp only [lc, List.length_cons, List.length_nil, Nat.zero_add, Nat.reduceAdd] at ap ⊢
 simp (disch := first | exact dis | fail) only [go_sem, seval, -reduceOfNat, -reduceNegSucc, c74, f74, c96, f96, h4, h5, h6, wH, w1, w2, w3, qM, ap, jt, lf, kW, HP, qQ, zwl, hP, mm64]
theorem Hf {O : Orc} (o74 : O 74 = none) (o96 : O 96 = none) (l : List (Nat × Option AObj)) (n m : Nat) (c : Nat) (hv : zX c = true) :
  (evW env O).call 74 [.nils, .int .i32 (.ofNat c)] (KL l n m false [] none) = some (.sl (n + 1) 0 (encC c).length (.opn 1), KL ((n + 1, some (.row 5 (zh (encC c)) true false)) :: (n, some (.row 5 (zh (encC c)) false false)) :: l) (n + 2) m false [] none) := by
 have c74 := @vV env O _ _ o74 (show env.funs.get 74 = some f74 from rfl) rfl
 have c96 := @vV env O _ _ o96 (show env.funs.get 96 = some f96 from rfl) rfl
 obtain ⟨v1, v2⟩ := zf.1 hv
 have ap := fun (cs : List Nat) (h0 : cs ≠ []) (h4 : cs.length ≤ 4) => @zzN ((n, some (.row 5 (zh cs) false false)) :: l) (n + 1) m 5 (.sl n 0 cs.length (.fix cs.length)) cs rfl h0 (ko (by rw [vM, if_pos rfl])) (by omega)
 rw [lC]
 by_cases h1 : c < 128
 ·rw [if_pos h1]
  have ap := ap [c] (by simp) (by simp)
  simp only [pA, List.length_cons, List.length_nil, Nat.zero_add] at ap ⊢
  simp (disch := first | exact dis | fail) only [go_sem, seval, -reduceOfNat, -reduceNegSucc, c74, f74, wH, qM, ap, jt]
 rw [if_neg h1]
 by_cases h2 : c < 2048
 ·rw [if_pos h2]
  have ap := ap [192 + c / 64, 128 + c % 64] (by simp) (by simp)
  have w1 := wl c
  simp only [pb, List.length_cons, List.length_nil, Nat.zero_add, Nat.reduceAdd] at ap ⊢
  simp (disch := first | exact dis | fail) only [go_sem, seval, -reduceOfNat, -reduceNegSucc, c74, f74, c96, f96, wH, w1, qM, ap, jt, lf, qQ, zwa, hP, mm64]
 rw [if_neg h2]
 by_cases h3 : c < 65536
 ·rw [if_pos h3]
  have ap := ap [224 + c / 4096, 128 + c / 64 % 64, 128 + c % 64] (by simp) (by simp)
  have w1 := wl c
  have w2 := wl (c / 64)
  simp only [kl, List.length_cons, List.length_nil, Nat.zero_add, Nat.reduceAdd] at ap ⊢
  by_cases h4 : c < 55296
  ·simp (disch := first | exact dis | fail) only [go_sem, seval, -reduceOfNat, -reduceNegSucc, c74, f74, c96, f96, h4, wH, w1, w2, qM, ap, jt, lf, kW, qQ, Ud, hP, mm64]
  ·have h5 : 57343 < c := by omega
   simp (disch := first | exact dis | fail) only [go_sem, seval, -reduceOfNat, -reduceNegSucc, c74, f74, c96, f96, h4, h5, wH, w1, w2, qM, ap, jt, lf, kW, qQ, Ud, hP, mm64]
 rw [if_neg h3]
 have ap := ap [240 + c / 262144, 128 + c / 4096 % 64, 128 + c / 64 % 64, 128 + c % 64] (by simp) (by simp)
 have w1 := wl c
 have w2 := wl (c / 64)
 have w3 := wl (c / 4096)
 have h4 : ¬ c < 55296 := by omega
 have h5 : 57343 < c := by omega
 have h6 : 65535 < c := by omega
 simp only [lc, List.length_cons, List.length_nil, Nat.zero_add, Nat.reduceAdd] at ap ⊢
 simp (disch := first | exact dis | fail) only [go_sem, seval, -reduceOfNat, -reduceNegSucc, c74, f74, c96, f96, h4, h5, h6, wH, w1, w2, w3, qM, ap, jt, lf, kW, HP, qQ, zwl, hP, mm64]
set_option maxRecDepth 100000
end Go.Proofs.YthcmnajcjapjbaaGreatDoor.Ev

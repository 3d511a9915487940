/- Contracts of functions that DatumBack calls: what a call answers, for all data, by symbolic evaluation. No conditions of its own. -/
import Derived.Test.YthcmnajcjapjbaaGreatDoorEvG
import Derived.Test.YthcmnajcjapjbaaGreatDoorIrDatumBack
set_option linter.unusedSimpArgs false
set_option linter.unusedVariables false
set_option linter.defProp false
set_option maxHeartbeats 4000000
open List renaming length_cons → yY, length_nil → yX, length_append → ye, cons_append → y8, append_nil → xi, length_drop → znK, nil_append → znO, all_cons → znP, drop_eq_nil_of_le → znQ, take_of_length_le → zI, mem_of_mem_drop → znS
open Nat renaming le_refl → zq, lt_succ_self → yw, zero_add → yx, two_pow_add_eq_or_of_lt → znJ, mod_eq_of_lt → znL, reduceAdd → znM, zero_le → zN, le_of_ble_eq_true → znR, pow_lt_pow_right → znT, mul_comm → yb, zero_or → znU
open Bool renaming and_self → y6, true_and → yy, cond_decide → znN
open List.cons renaming injEq → yZ
open Int renaming ofNat → zE, fdiv → znV
namespace Go.Proofs.YthcmnajcjapjbaaGreatDoor.Ev
variable {P : Program} {w0 : World} {O : Orc} {s : St} {v : AV} {d : DT} {id n esz : Nat} {o : AObj}
open T
set_option maxRecDepth 100000
structure Bx (P : Program) (w0 : World) : Prop where
 mixed : P.follows .mixedOrders = true
 glob : xK env.globs w0
 env : jG P env
theorem bs (B : Bx P w0) (hO : OrcOk P w0 O) {f : Nat} (F : IFunc) {args : List AV} {os : List (Option AObj)} {b : Bool} {c' : St} (h : ∀ C : Cx, Is C env O (H os 0 b) 0 → Tri C F.body { tm := wH (tmL []) 0 args, df := [] } (H os 0 b) (Fin env (H os 0 b) 0 F.res v c')) (hF : env.funs.get f = some F := by exact rfl) (hle : args.length ≤ F.ntmps := by exact Nat.le_of_ble_eq_true rfl) : SC P w0 f args (H os 0 b) v c' :=
 Is.sc hO B.mixed B.glob B.env 0 hF hle zo8 h
theorem bm (B : Bx P w0) (hO : OrcOk P w0 O) {f : Nat} (F : IFunc) {args : List AV} {os : List (Option AObj)} {b : Bool} {c' : St} (h : ∀ C : Cx, Is C env O (H (some o :: os) 0 b) 1 → Tri C F.body { tm := wH (tmL []) 0 args, df := [] } (H (some o :: os) 0 b) (Fin env (H (some o :: os) 0 b) 1 F.res v c')) (hF : env.funs.get f = some F := by exact rfl) (hg : qh o = false := by exact rfl) (hle : args.length ≤ F.ntmps := by exact Nat.le_of_ble_eq_true rfl) : SC P w0 f args (H (some o :: os) 0 b) v c' :=
 Is.sc hO B.mixed B.glob B.env 1 hF hle (zuN hg) h
theorem ci {f : Nat} (F : IFunc) (h : O f = none) (hF : env.funs.get f = some F := by exact rfl) (hp : env.pure f = true := by exact rfl) (a : List AV) (l : List (Nat × Option AObj)) (n m : Nat) (b : Bool) (hd : List (Nat × Nat)) (on : Option (Nat × List Nat)) (ha : a.length ≤ F.ntmps) :
  (evW env O).call f a (KL l n m b hd on) = popR (KL l n m b hd on) (vz env.globs F.res (evC env (evW env O) none F.body ⟨wH (tmL []) 0 a, []⟩ (KL l n 0 true hd on))) := zsD h hF hp a l n m b hd on ha
theorem ciw {f : Nat} (F : IFunc) (h : O f = none) (hF : env.funs.get f = some F := by exact rfl) (hp : env.pure f = false := by exact rfl) (a : List AV) (l : List (Nat × Option AObj)) (n m : Nat) (b : Bool) (hd : List (Nat × Nat)) (on : Option (Nat × List Nat)) (ha : a.length ≤ F.ntmps) :
  (evW env O).call f a (KL l n m b hd on) = mdR b (vz env.globs F.res (evC env (evW env O) none F.body ⟨wH (tmL []) 0 a, []⟩ (KL l n m false hd on))) := zwU h hF hp a l n m b hd on ha
def drow (d : DT) : AObj := .row 24 (xT d) false false
def qL : AObj := .row 24 [.int .i64 (.ofNat 0), .int .i64 (.ofNat 0), .str [], .nils, .int .i64 (.ofNat 0)] false false
theorem qJ (d : DT) (r : List AV) : wA 5 (xT d ++ r) = some (xT d) := VZ (vH d)
theorem jv (d : DT) : wA 5 (xT d) = some (xT d) := jF (vH d)
theorem vI {a b : Int} (h : a ≠ b) : eqD a b = false := by simp [eqD, h]
theorem zvm {a : Int} : eqD a a = true := by simp [eqD]
theorem kU (x y : DT) : xv [x, y] = xT x ++ xT y := by simp only [xM, xO, xi]
def accD (acc : List DT) : AV := match acc with
 | [] => .nils
 | t :: r => .gr 2 5 (t :: r).length (xv (t :: r))
def qv (acc : List DT) : List (Option AObj) := match acc with
 | [] => []
 | t :: r => [some (.app 24 (xv (t :: r)))]
theorem uy (d : DT) : xG (encD d) = true := by simp only [encD, vU, wB]
theorem qA {α : Type} (l : List α) (i : Nat) : (l.length ≤ i ∧ l.drop i = []) ∨ ∃ x, i < l.length ∧ l.drop i = x :: l.drop (i + 1) := by
 by_cases h : i < l.length
 ·exact .inr ⟨l[i], h, List.drop_eq_getElem_cons h⟩
 ·exact .inl ⟨by omega, znQ (by omega)⟩
def CutP (p : Prop) (C : Cx) (fr1 : Fr) (s1 : St) (Q : Res → Fr → St → Prop) : Res → Fr → St → Prop
 | .norm, f, t => p ∧ Gc C f t fr1 s1
 | r, f, t => Q r f t
theorem Qi {C : Cx} {ia ib : ICode} {fr : Fr} {Q : Res → Fr → St → Prop} (p : Prop) (fr1 : Fr) (s1 : St) (h1 : Tri C ia fr s (CutP p C fr1 s1 Q)) (h2 : p → Tri C ib fr1 s1 Q) : Tri C (.seq ia ib) fr s Q :=
 wu (h1.mono fun r f t => by
  cases r with
  | norm => exact fun h => Yy h.2 (h2 h.1)
  | exit i => exact fun h => h
  | ret => exact fun h => h)
open Nat (reduceEqDiff reduceLeDiff reduceLT reduceAdd reduceMul reduceSub reduceMod reducePow reduceDiv reduceOr reduceShiftLeft reduceGT reduceSucc)
open List (length_cons length_nil length_take length_drop)
open Int (reduceOfNat reduceNegSucc)
open Int renaming reduceOfNat → rO, reduceNegSucc → rN
def xQ : DT → Option (DT × DT)
 | .mk kd _ _ ks _ => match ks with
  | [x, y] => if kd = .ofNat 6 then some (x, y) else none
  | _ => none
theorem w6 {kd n : Int} {t : List Nat} {ks : List DT} {p : Int} {x y : DT} (h : xQ (.mk kd n t ks p) = some (x, y)) : kd = .ofNat 6 ∧ ks = [x, y] := by
 simp only [xQ] at h
 split at h
 ·split at h
  ·cases h; exact ⟨by assumption, rfl⟩
  ·cases h
 ·cases h
theorem lb {kd n : Int} {t : List Nat} {ks : List DT} {p : Int} (h : xQ (.mk kd n t ks p) = none) (hk : kd = .ofNat 6) : ¬ ks.length = 2 := by
 subst hk
 intro hl
 match ks, hl with
 | [x, y], _ => simp [xQ] at h
theorem jA {x y : DT} (h : xQ d = some (x, y)) : SizeOf.sizeOf x < SizeOf.sizeOf d ∧ SizeOf.sizeOf y < SizeOf.sizeOf d := by
 obtain ⟨kd, n, t, ks, p⟩ := d
 obtain ⟨rfl, rfl⟩ := w6 h
 simp only [DT.mk.sizeOf_spec, List.cons.sizeOf_spec, List.nil.sizeOf_spec]; omega
def hZ : Nat → DT → List DT × DT
 | 0, d => ([], d)
 | k + 1, d => match xQ d with
  | some (x, y) => (x :: (hZ k y).1, (hZ k y).2)
  | none => ([], d)
noncomputable def xr (d : DT) : List DT × DT := hZ (SizeOf.sizeOf d) d
theorem lI : ∀ {k m : Nat} {d : DT}, SizeOf.sizeOf d ≤ k → SizeOf.sizeOf d ≤ m → hZ k d = hZ m d
 | 0, _, d, h, _ => by cases d; simp only [DT.mk.sizeOf_spec] at h; omega
 | _ + 1, 0, d, _, h => by cases d; simp only [DT.mk.sizeOf_spec] at h; omega
 | k + 1, m + 1, d, h, h' => by
  simp only [hZ]
  cases hk : xQ d with
  | none => rfl
  | some xy =>
   obtain ⟨x, y⟩ := xy
   have := (jA hk).2
   simp only
   rw [lI (k := k) (m := m) (by omega) (by omega)]
theorem wC {x y : DT} (h : xQ d = some (x, y)) : xr d = (x :: (xr y).1, (xr y).2) := by
 have := jA h
 unfold xr
 rw [lI (d := d) (m := SizeOf.sizeOf d + 1) (zq _) (by omega), hZ, h]
 simp only
 rw [lI (d := y) (m := SizeOf.sizeOf y) (by omega) (zq _)]
theorem w5 (h : xQ d = none) : xr d = ([], d) := by
 unfold xr
 rw [lI (d := d) (m := SizeOf.sizeOf d + 1) (zq _) (by omega), hZ, h]
theorem HQ (d : DT) : xQ (xr d).2 = none := by
 have key : ∀ (k : Nat) (d : DT), SizeOf.sizeOf d < k → xQ (xr d).2 = none := by
  intro k
  induction k with
  | zero => intro d h; omega
  | succ k ih =>
   intro d h
   cases hk : xQ d with
   | none => rw [w5 hk]; exact hk
   | some xy =>
    obtain ⟨x, y⟩ := xy
    rw [wC hk]; exact ih y (by have := (jA hk).2; omega)
 exact key _ d (yw _)
attribute [local go_sem] encD accD qv drow qL xq kU f23 qJ jv xO w4 in
theorem zut (B : Bx P w0) (hO : OrcOk P w0 O) (o23 : O 23 = none) (d0 : DT) (hlen : (xr d0).1.length < 1000000) :
  SC P w0 19 [encD d0] (H [] 0 true) (.tup [.lst (xr d0).1.length false (xv (xr d0).1), encD (xr d0).2]) (H [] 0 true) := by
 refine bs B hO f19 fun C k => ?_
 have cpair := ci f23 o23
 generalize hl : (xr d0).1 = l at hlen ⊢
 generalize he : (xr d0).2 = e
 unfold f19
 simp only [Ko, Kn, Kd, Kf, Ki, Kv, Km, Kr, opN]
 refine k.q ?_
 refine ul ⟨tmL [(3, .ptr 1 0), (2, accD l), (1, .ptr 0 0)], []⟩ (H ([some (drow e), some qL] ++ qv l) 0 true) (xS (x6 (k.gcL [0, 1] [3, 2, 1] true (fr1 := ⟨tmL [(3, .ptr 1 0), (2, accD []), (1, .ptr 0 0)], []⟩) (s1 := H ([some (drow d0), some qL] ++ qv []) 0 true) (by simp (disch := first | exact dis | fail) only [go_sem, seval, -rO, -rN, drow, qL, accD, qv, wB]) ?_))) ?_
 ·refine wb (fun x : List DT × DT => SizeOf.sizeOf x.2) (fun x => ⟨tmL [(3, .ptr 1 0), (2, accD x.1), (1, .ptr 0 0)], []⟩) (fun x => H ([some (drow x.2), some qL] ++ qv x.1) 0 true) (fun x => x.1 ++ (xr x.2).1 = l ∧ (xr x.2).2 = e) (fun x hx => ?_) ([], d0) ⟨hl, he⟩
  obtain ⟨acc, cur⟩ := x
  simp only at hx ⊢
  obtain ⟨hx1, hx2⟩ := hx
  have hc2 : acc.length < 1000000 := by rw [← hx1, ye] at hlen; omega
  cases hkd : xQ cur with
  | some xy =>
   obtain ⟨x, y⟩ := xy
   have hm := jA hkd
   rw [wC hkd] at hx1 hx2
   obtain ⟨kd, n, t, ks, p⟩ := cur
   obtain ⟨rfl, rfl⟩ := w6 hkd
   obtain ⟨xk, xn, xt, xks, xp⟩ := x
   obtain ⟨yk, yn, yt, yks, yp⟩ := y
   cases acc with
   | nil =>
    refine k.z ?_
    refine ⟨([] ++ [⟨xk, xn, xt, xks, xp⟩], ⟨yk, yn, yt, yks, yp⟩), ⟨by rw [← hx1]; simp, hx2⟩, hm.2, ?_⟩
    refine k.gcs (keep := [0, 1, 2]) (live := [3, 2, 1]) (md := true) ?_
    simp only [y8, znO, accD, qv, xM, xO, xq, xi, yY, yX]
    simp (disch := first | exact dis | fail) only [go_sem, seval, -rO, -rN, drow, qL, xq]
   | cons a0 ar =>
    have hp1 := xN (a0 :: ar)
    simp only [yY] at hc2
    refine k.z ?_
    refine ⟨((a0 :: ar) ++ [⟨xk, xn, xt, xks, xp⟩], ⟨yk, yn, yt, yks, yp⟩), ⟨by rw [← hx1]; simp, hx2⟩, hm.2, ?_⟩
    refine k.gcs (keep := [0, 1, 3]) (live := [3, 2, 1]) (md := true) ?_
    simp only [y8, znO, accD, qv, xM, vu, xO, xq, xi, List.append_assoc, ye, yY, yX]
    simp (disch := first | exact dis | fail) only [go_sem, seval, -rO, -rN, drow, qL, xq, xN, wB]
  | none =>
   rw [w5 hkd] at hx1 hx2
   simp only [xi] at hx1 hx2
   subst hx1; subst hx2
   obtain ⟨kd, n, t, ks, p⟩ := cur
   by_cases hk : kd = .ofNat 6
   ·have hl := lb hkd hk
    subst hk
    cases acc with
    | nil =>
     refine k.z ?_
     exact k.g [0, 1] [3, 2, 1]
    | cons a0 ar =>
     have hp1 := xN (a0 :: ar)
     refine k.z ?_
     exact k.g [0, 1, 2] [3, 2, 1]
   ·have hke : eqD kd (.ofNat 6) = false := vI hk
    cases acc with
    | nil =>
     refine k.z ?_
     exact k.g [0, 1] [3, 2, 1]
    | cons a0 ar =>
     have hp1 := xN (a0 :: ar)
     refine k.z ?_
     exact k.g [0, 1, 2] [3, 2, 1]
 ·obtain ⟨ek, en, et, eks, ep⟩ := e
  cases l with
  | nil =>
   refine k.q ?_
   refine k.z ?_
   exact fin
  | cons a0 ar =>
   have hp1 := xN (a0 :: ar)
   refine k.q ?_
   refine k.z ?_
   exact fin
attribute [local go_sem] encD accD qv drow qL xq kU qJ jv xO w4 in
theorem zyR (B : Bx P w0) (hO : OrcOk P w0 O) (d0 : DT) (hlen : (xr d0).1.length < 1000000) :
  SC P w0 27 [encD d0] (H [] 0 true) (.tup [.lst (xr d0).1.length false (xv (xr d0).1), encD (xr d0).2]) (H [] 0 true) := by
 refine bs B hO f27 fun C k => ?_
 generalize hl : (xr d0).1 = l at hlen ⊢
 generalize he : (xr d0).2 = e
 unfold f27
 simp only [Ko, Kg, Kn, Kd, Kf, Ki, Kv, KF, Km, Kr, opN]
 refine k.q ?_
 refine k.q ?_
 refine ul ⟨tmL [(4, accD l), (3, .ptr 1 0), (1, .ptr 0 0)], []⟩ (H ([some (drow e), some qL] ++ qv l) 0 true) (xS (x6 (k.gcL [0, 1] [4, 3, 1] true (fr1 := ⟨tmL [(4, accD []), (3, .ptr 1 0), (1, .ptr 0 0)], []⟩) (s1 := H ([some (drow d0), some qL] ++ qv []) 0 true) (by simp (disch := first | exact dis | fail) only [go_sem, seval, -rO, -rN, drow, qL, accD, qv, wB]) ?_))) ?_
 ·refine wb (fun x : List DT × DT => SizeOf.sizeOf x.2) (fun x => ⟨tmL [(4, accD x.1), (3, .ptr 1 0), (1, .ptr 0 0)], []⟩) (fun x => H ([some (drow x.2), some qL] ++ qv x.1) 0 true) (fun x => x.1 ++ (xr x.2).1 = l ∧ (xr x.2).2 = e) (fun x hx => ?_) ([], d0) ⟨hl, he⟩
  obtain ⟨acc, cur⟩ := x
  simp only at hx ⊢
  obtain ⟨hx1, hx2⟩ := hx
  have hc2 : acc.length < 1000000 := by rw [← hx1, ye] at hlen; omega
  cases hkd : xQ cur with
  | some xy =>
   obtain ⟨x, y⟩ := xy
   have hm := jA hkd
   rw [wC hkd] at hx1 hx2
   obtain ⟨kd, n, t, ks, p⟩ := cur
   obtain ⟨rfl, rfl⟩ := w6 hkd
   obtain ⟨xk, xn, xt, xks, xp⟩ := x
   obtain ⟨yk, yn, yt, yks, yp⟩ := y
   cases acc with
   | nil =>
    refine k.z ?_
    refine ⟨([] ++ [⟨xk, xn, xt, xks, xp⟩], ⟨yk, yn, yt, yks, yp⟩), ⟨by rw [← hx1]; simp, hx2⟩, hm.2, ?_⟩
    refine k.gcs (keep := [0, 1, 2]) (live := [4, 3, 1]) (md := true) ?_
    simp only [y8, znO, accD, qv, xM, xO, xq, xi, yY, yX]
    simp (disch := first | exact dis | fail) only [go_sem, seval, -rO, -rN, drow, qL, xq]
   | cons a0 ar =>
    have hp1 := xN (a0 :: ar)
    simp only [yY] at hc2
    refine k.z ?_
    refine ⟨((a0 :: ar) ++ [⟨xk, xn, xt, xks, xp⟩], ⟨yk, yn, yt, yks, yp⟩), ⟨by rw [← hx1]; simp, hx2⟩, hm.2, ?_⟩
    refine k.gcs (keep := [0, 1, 3]) (live := [4, 3, 1]) (md := true) ?_
    simp only [y8, znO, accD, qv, xM, vu, xO, xq, xi, List.append_assoc, ye, yY, yX]
    simp (disch := first | exact dis | fail) only [go_sem, seval, -rO, -rN, drow, qL, xq, xN, wB]
  | none =>
   rw [w5 hkd] at hx1 hx2
   simp only [xi] at hx1 hx2
   subst hx1; subst hx2
   obtain ⟨kd, n, t, ks, p⟩ := cur
   by_cases hk : kd = .ofNat 6
   ·have hl := lb hkd hk
    subst hk
    cases acc with
    | nil =>
     refine k.z ?_
     exact k.g [0, 1] [4, 3, 1]
    | cons a0 ar =>
     have hp1 := xN (a0 :: ar)
     refine k.z ?_
     exact k.g [0, 1, 2] [4, 3, 1]
   ·have hke : eqD kd (.ofNat 6) = false := vI hk
    cases acc with
    | nil =>
     refine k.z ?_
     exact k.g [0, 1] [4, 3, 1]
    | cons a0 ar =>
     have hp1 := xN (a0 :: ar)
     refine k.z ?_
     exact k.g [0, 1, 2] [4, 3, 1]
 ·obtain ⟨ek, en, et, eks, ep⟩ := e
  cases l with
  | nil =>
   refine k.q ?_
   refine k.z ?_
   exact fin
  | cons a0 ar =>
   have hp1 := xN (a0 :: ar)
   refine k.q ?_
   refine k.z ?_
   exact fin
def qK (d : DT) : List AV := [encD d]
theorem px : ∀ x y, qK x = qK y → x = y := fun d e h => by
 simp only [qK, yZ, and_true] at h; exact kD h
theorem Z0 (d : DT) : wkL [AV.agg (xT d)] = qK d := by simp only [qK, encD, wkL, wkV, vS]
theorem qW (d : DT) : xz (qK d) = true := by simp only [qK, xw, uy, xD, y6]
noncomputable def itR (d : DT) : AV := .tup [.lst (xr d).1.length false (xv (xr d).1), encD (xr d).2]
noncomputable def gItm : List AV → St → Option (AV × St) := orc0 qK (fun d => (xr d).1.length < 1000000) itR
theorem J9 {f : Nat} (h : O f = some gItm) (hi : (xr d).1.length < 1000000) (s : St) : (evW env O).call f [.agg (xT d)] s = some (itR d, s) := by
 rw [xC h, gItm, we px s d hi (Z0 d)]
theorem J8 (d : DT) : xG (itR d) = true := by simp only [itR, wE, xw, wi, uy, xD, y6]
theorem zyS (B : Bx P w0) (hO : OrcOk P w0 O) : OrcOk P w0 (withG 19 gItm (withG 27 gItm O)) :=
 (hO.withG w9 (v5 true qW J8 fun d hd => ⟨_, zyR B (qu P w0) d hd⟩)).withG w9 (v5 true qW J8 fun d hd => ⟨_, zut B (qu P w0) rfl d hd⟩)
mutual
def xL : DT → Nat
 | .mk _ _ _ ks _ => 1 + x5 ks
def x5 : List DT → Nat
 | [] => 0
 | d :: r => xL d + x5 r
end
theorem wh : ∀ d, 0 < xL d
 | .mk _ _ _ ks _ => by simp only [xL]; omega
theorem uu : ∀ l, l.length ≤ x5 l
 | [] => zq _
 | d :: r => by simp only [x5, yY]; have := uu r; have := wh d; omega
theorem qb : ∀ {l : List DT} {d : DT}, d ∈ l → xL d ≤ x5 l
 | [], d, h => by cases h
 | x :: r, d, h => by
  simp only [x5]
  rcases List.mem_cons.1 h with rfl | h
  ·omega
  ·have := qb h; omega
theorem qC {x y : DT} (h : xQ d = some (x, y)) : xL d = 1 + xL x + xL y := by
 obtain ⟨kd, n, t, ks, p⟩ := d
 obtain ⟨rfl, rfl⟩ := w6 h
 simp only [xL, x5]; omega
theorem KW (d : DT) : x5 (xr d).1 + xL (xr d).2 ≤ xL d := by
 have key : ∀ (k : Nat) (d : DT), SizeOf.sizeOf d < k → x5 (xr d).1 + xL (xr d).2 ≤ xL d := by
  intro k
  induction k with
  | zero => intro d h; omega
  | succ k ih =>
   intro d h
   cases hk : xQ d with
   | none => rw [w5 hk]; simp only [x5]; omega
   | some xy =>
    obtain ⟨x, y⟩ := xy
    have := ih y (by have := (jA hk).2; omega)
    have h2 := qC hk
    rw [wC hk]; simp only [x5]; omega
 exact key _ d (yw _)
def xU : DT → Int | .mk k _ _ _ _ => k
def numD : DT → Int | .mk _ n _ _ _ => n
def xV : DT → List Nat | .mk _ _ t _ _ => t
def qn : DT → List DT | .mk _ _ _ ks _ => ks
theorem vM (d : DT) : xL d = 1 + x5 (qn d) := by cases d; simp only [xL, qn]
def qf (f : DT → DT → Bool) : List DT → List DT → Bool
 | [], [] => true
 | x :: r, y :: s => f x y && qf f r s
 | _, _ => false
theorem YD {f : DT → DT → Bool} : ∀ {l m : List DT}, l.length ≠ m.length → qf f l m = false
 | [], [], h => absurd rfl h
 | [], _ :: _, _ => rfl
 | _ :: _, [], _ => rfl
 | x :: r, y :: s, h => by simp only [qf, YD (l := r) (m := s) (by simpa using h), Bool.and_false]
theorem kq {f g : DT → DT → Bool} : ∀ {l m : List DT}, (∀ x ∈ l, ∀ y, f x y = g x y) → qf f l m = qf g l m
 | [], [], _ => rfl
 | [], _ :: _, _ => rfl
 | _ :: _, [], _ => rfl
 | x :: r, y :: s, h => by simp only [qf, h x (by simp), kq (l := r) (m := s) fun z hz => h z (by simp [hz])]
def gO : Nat → DT → DT → Bool
 | 0, _, _ => false
 | k + 1, a, b => match xQ a, xQ b with
  | some p, some q => gO k p.1 q.1 && gO k p.2 q.2
  | _, _ => eqD (xU a) (xU b) && (eqD (numD a) (numD b) && (eqS (xV a) (xV b) && qf (gO k) (qn a) (qn b)))
def vh (a b : DT) : Bool := gO (xL a) a b
theorem jd : ∀ {k m : Nat} {a b : DT}, xL a ≤ k → xL a ≤ m → gO k a b = gO m a b
 | 0, _, a, _, h, _ => by have := wh a; omega
 | _ + 1, 0, a, _, _, h => by have := wh a; omega
 | k + 1, m + 1, a, b, h, h' => by
  have hk := vM a
  have e : qf (gO k) (qn a) (qn b) = qf (gO m) (qn a) (qn b) := kq fun x hx y => by
   have := qb hx
   exact jd (by omega) (by omega)
  simp only [gO]
  rw [e]
  cases hka : xQ a with
  | none => rfl
  | some p =>
   cases hkb : xQ b with
   | none => rfl
   | some q =>
    have := qC (x := p.1) (y := p.2) hka
    simp only
    rw [jd (k := k) (m := m) (a := p.1) (by omega) (by omega), jd (k := k) (m := m) (a := p.2) (by omega) (by omega)]
theorem WY {a b : DT} {p q : DT × DT} (ha : xQ a = some p) (hb : xQ b = some q) : vh a b = (vh p.1 q.1 && vh p.2 q.2) := by
 have := qC (x := p.1) (y := p.2) ha
 unfold vh
 rw [jd (m := xL a + 1) (zq _) (by omega), gO, ha, hb]
 simp only
 rw [jd (k := xL a) (m := xL p.1) (by omega) (zq _), jd (k := xL a) (m := xL p.2) (by omega) (zq _)]
theorem WX {a b : DT} (h : xQ a = none ∨ xQ b = none) : vh a b = (eqD (xU a) (xU b) && (eqD (numD a) (numD b) && (eqS (xV a) (xV b) && qf vh (qn a) (qn b)))) := by
 have hk := vM a
 have e : qf (gO (xL a)) (qn a) (qn b) = qf vh (qn a) (qn b) := kq fun x hx y => by
  have := qb hx
  exact jd (by omega) (zq _)
 unfold vh at e ⊢
 rw [jd (m := xL a + 1) (zq _) (by omega), gO, e]
 rcases h with h | h
 ·rw [h]
 ·rw [h]; cases xQ a <;> rfl
def X0 (x : DT × DT) : List AV := [encD x.1, encD x.2]
theorem zyc : ∀ x y, X0 x = X0 y → x = y := fun ⟨a, b⟩ ⟨c, d⟩ h => by
 simp only [X0, yZ, and_true] at h
 rw [kD h.1, kD h.2]
theorem X1 (x : DT × DT) : xz (X0 x) = true := by simp only [X0, xw, uy, xD, y6]
noncomputable def Wm (N : Nat) : List AV → St → Option (AV × St) := orc0 X0 (fun x => xL x.1 < N) (fun x => .bool (vh x.1 x.2))
theorem lS {f N : Nat} (h : O f = some (Wm N)) {a b : DT} (hn : xL a < N) (s : St) : (evW env O).call f [.agg (xT a), .agg (xT b)] s = some (.bool (vh a b), s) := by
 rw [xC h, Wm, we zyc s (a, b) hn (by simp only [X0, encD, wkL, wkV, vS])]
def Zc (f : Nat) (x : List DT × List DT) : List AV := [.lst x.1.length false (xv x.1), .lst x.2.length false (xv x.2), .fn f [] []]
theorem zz7 (f : Nat) : ∀ x y, Zc f x = Zc f y → x = y := fun ⟨a, b⟩ ⟨c, d⟩ h => by
 simp only [Zc, yZ, AV.lst.injEq, true_and, and_true] at h
 rw [uq h.1.2, uq h.2.2]
theorem Ho (f : Nat) (x : List DT × List DT) : xz (Zc f x) = true := by simp only [Zc, xw, wi, lm, xD, y6]
noncomputable def gEqf (N : Nat) : List AV → St → Option (AV × St) := orc0 (Zc 13) (fun x => x5 x.1 < N) (fun x => .bool (qf vh x.1 x.2))
theorem zvo {N : Nat} (h : O 31 = some (gEqf N)) {a b : List DT} (hn : x5 a < N) (s : St) : (evW env O).call 31 [.lst a.length false (xv a), .lst b.length false (xv b), .fn 13 [] []] s = some (.bool (qf vh a b), s) := by
 rw [xC h, gEqf, we (zz7 _) s (a, b) hn (by simp only [Zc, wkL, wkV, w4])]
attribute [local go_sem] Zc qJ xq in
theorem zpI (B : Bx P w0) (hO : OrcOk P w0 O) {N : Nat} (h13 : O 13 = some (Wm N)) (hN : N ≤ 100000) (a b : List DT) (hn : x5 a < N) :
  SC P w0 31 (Zc 13 (a, b)) (H [] 0 true) (.bool (qf vh a b)) (H [] 0 true) := by
 refine bs B hO f31 fun C k => ?_
 unfold f31
 simp only [Ko, Kn, Ki, Kv, KF, KT, Km, Kr, opN]
 refine k.q ?_
 by_cases hl : a.length = b.length
 ·have hla := uu a
  refine k.q ?_
  refine Qi (p := qf vh a b = true) ⟨tmL [], []⟩ (H [] 0 true) ?_ ?_
  ·refine k.q ?_
   refine xS (x6 (k.gcL [] [17, 16, 15, 2, 1] true (fr1 := ⟨tmL [(17, .int .i64 (.ofNat 0)), (16, .int .i64 (.ofNat b.length)), (15, .lst b.length false (xv a)), (2, .fn 13 [] []), (1, .lst b.length false (xv b))], []⟩) (s1 := H [] 0 true) (by simp (disch := first | exact dis | fail) only [go_sem, seval, -rO, -rN]) ?_))
   refine wb (fun i : Nat => a.length - i) (fun i => ⟨tmL [(17, .int .i64 (.ofNat i)), (16, .int .i64 (.ofNat b.length)), (15, .lst b.length false (xv a)), (2, .fn 13 [] []), (1, .lst b.length false (xv b))], []⟩) (fun _ => H [] 0 true) (fun i => i ≤ a.length ∧ qf vh (a.drop i) (b.drop i) = qf vh a b) (fun i hi => ?_) 0 ⟨zN _, rfl⟩
   obtain ⟨g1, g2⟩ := hi
   rcases qA a i with ⟨hi, hd⟩ | ⟨x, hi, hd⟩
   ·have hlt : ¬ i < b.length := by omega
    have hd2 : b.drop i = [] := znQ (by omega)
    rw [hd, hd2] at g2
    refine k.z ?_
    simp only [CutP]
    refine ⟨g2.symm, ?_⟩
    exact k.g [] []
   ·rcases qA b i with ⟨hi2, _⟩ | ⟨y, hi2, hd2⟩
    ·omega
    have hnx : xL x < N := by
     have h1 : x ∈ a := znS (by rw [hd]; exact List.mem_cons_self)
     have := qb h1; omega
    have hc := lS (f := 13) h13 (b := y) hnx
    have hdr : wK (i * 5) (xv a) = xT x ++ xv (a.drop (i + 1)) := by rw [qV, hd, xM]
    have hdr2 : wK (i * 5) (xv b) = xT y ++ xv (b.drop (i + 1)) := by rw [qV, hd2, xM]
    rw [hd, hd2] at g2
    simp only [qf] at g2
    obtain ⟨xk, xn, xt, xks, xp⟩ := x
    obtain ⟨yk, yn, yt, yks, yp⟩ := y
    simp only [xq] at hc
    cases hsm : vh (.mk xk xn xt xks xp) (.mk yk yn yt yks yp) with
    | true =>
     rw [hsm] at hc g2
     refine k.z ?_
     refine ⟨i + 1, ⟨by omega, by rw [← g2, yy]⟩, by omega, ?_⟩
     refine k.gcs (keep := []) (live := [17, 16, 15, 2, 1]) (md := true) ?_
     simp (disch := first | exact dis | fail) only [go_sem, seval, -rO, -rN]
    | false =>
     rw [hsm] at hc g2
     refine k.z ?_
     simp only [CutP]
     rw [← g2]
     apply w7 (Or.inr rfl)
     iterate 5 (simp (disch := first | exact dis | fail) only [go_sem, seval, -rO, -rN] <;> exact rfl)
  ·intro hp
   rw [hp]
   refine k.q ?_
   refine k.z ?_
   exact fin
 ·rw [YD hl]
  refine k.z ?_
  exact fin
def Gcx {α : Type} (p : α → Prop) (C : Cx) (fr1 : α → Fr) (s1 : α → St) (Q : Res → Fr → St → Prop) : Res → Fr → St → Prop
 | .norm, f, t => ∃ x, p x ∧ Gc C f t (fr1 x) (s1 x)
 | r, f, t => Q r f t
theorem vQ {α : Type} {C : Cx} {ia ib : ICode} {fr : Fr} {Q : Res → Fr → St → Prop} (p : α → Prop) (fr1 : α → Fr) (s1 : α → St) (h1 : Tri C ia fr s (Gcx p C fr1 s1 Q)) (h2 : ∀ x, p x → Tri C ib (fr1 x) (s1 x) Q) : Tri C (.seq ia ib) fr s Q :=
 wu (h1.mono fun r f t => by
  cases r with
  | norm => exact fun ⟨x, hp, hg⟩ => Yy hg (h2 x hp)
  | exit i => exact fun h => h
  | ret => exact fun h => h)
theorem Pk : ∀ {a b : List Nat}, eqS a b = true → a = b
 | [], [], _ => rfl
 | [], _ :: _, h => by cases h
 | _ :: _, [], h => by cases h
 | x :: r, y :: s, h => by
  simp only [eqS] at h
  cases hb : Nat.beq x y with
  | false => rw [hb] at h; cases h
  | true => rw [hb] at h; rw [xF.1 hb, Pk h]
theorem Zi : ∀ a : List Nat, eqS a a = true
 | [] => rfl
 | x :: r => by simp only [eqS, xF.2 (rfl : x = x), cond_true]; exact Zi r
theorem US {kd n : Int} {t : List Nat} {ks : List DT} {p : Int} (h : xQ (.mk kd n t ks p) = none) : (eqD kd (.ofNat 6) = false) ∨ (kd = .ofNat 6 ∧ ¬ ks.length = 2) := by
 by_cases hk : kd = .ofNat 6
 ·exact .inr ⟨hk, lb h hk⟩
 ·exact .inl (vI hk)
attribute [local go_sem] encD drow xq f23 kU qJ jv in
theorem zqm (B : Bx P w0) (hO : OrcOk P w0 O) (o23 : O 23 = none) {N : Nat} (h31 : O 31 = some (gEqf N)) (h13 : O 13 = some (Wm N)) (a0 b0 : DT) (hN : xL a0 < N + 1) :
  SC P w0 13 [encD a0, encD b0] (H [] 0 true) (.bool (vh a0 b0)) (H [] 0 true) := by
 refine bs B hO f13 fun C k => ?_
 have cpair := ci f23 o23
 generalize hres : vh a0 b0 = res
 unfold f13
 simp only [Ko, Kg, Kd, Kf, Ki, KF, Km, Kr, opN]
 refine k.q ?_
 refine vQ (fun x : DT × DT => vh x.1 x.2 = res ∧ (xQ x.1 = none ∨ xQ x.2 = none) ∧ xL x.1 < N + 1) (fun _ => ⟨tmL [(4, .bool false), (3, .ptr 1 0), (2, .ptr 0 0)], []⟩) (fun x => H [some (drow x.1), some (drow x.2)] 0 true) (xS (x6 (k.gcL [0, 1] [4, 3, 2] true (fr1 := ⟨tmL [(4, .bool false), (3, .ptr 1 0), (2, .ptr 0 0)], []⟩) (s1 := H [some (drow a0), some (drow b0)] 0 true) (by simp (disch := first | exact dis | fail) only [go_sem, seval, -rO, -rN, drow, wB]) ?_))) ?_
 ·refine wb (fun x : DT × DT => xL x.1) (fun x => ⟨tmL [(4, .bool false), (3, .ptr 1 0), (2, .ptr 0 0)], []⟩) (fun x => H [some (drow x.1), some (drow x.2)] 0 true) (fun x => vh x.1 x.2 = res ∧ xL x.1 < N + 1) (fun x hx => ?_) (a0, b0) ⟨hres, hN⟩
  obtain ⟨⟨ak, an, at_, aks, ap⟩, ⟨bk, bn, bt, bks, bp⟩⟩ := x
  obtain ⟨g1, g2⟩ := hx
  simp only at g1 g2 ⊢
  cases hka : xQ (.mk ak an at_ aks ap) with
  | none =>
   rcases US hka with he | ⟨rfl, hl⟩
   ·refine k.z ?_
    simp only [Gcx]
    refine ⟨(.mk ak an at_ aks ap, .mk bk bn bt bks bp), ⟨g1, .inl hka, g2⟩, ?_⟩
    exact k.g [0, 1] [4, 3, 2]
   ·refine k.z ?_
    simp only [Gcx]
    refine ⟨(.mk (.ofNat 6) an at_ aks ap, .mk bk bn bt bks bp), ⟨g1, .inl hka, g2⟩, ?_⟩
    exact k.g [0, 1] [4, 3, 2]
  | some p =>
   obtain ⟨⟨xk, xn, xt, xks, xp⟩, ⟨yk, yn, yt, yks, yp⟩⟩ := p
   have hna := qC hka
   cases hkb : xQ (.mk bk bn bt bks bp) with
   | none =>
    obtain ⟨rfl, rfl⟩ := w6 hka
    rcases US hkb with he | ⟨rfl, hl⟩
    ·refine k.z ?_
     simp only [Gcx]
     refine ⟨(.mk (.ofNat 6) an at_ [.mk xk xn xt xks xp, .mk yk yn yt yks yp] ap, .mk bk bn bt bks bp), ⟨g1, .inr hkb, g2⟩, ?_⟩
     exact k.g [0, 1] [4, 3, 2]
    ·refine k.z ?_
     simp only [Gcx]
     refine ⟨(.mk (.ofNat 6) an at_ [.mk xk xn xt xks xp, .mk yk yn yt yks yp] ap, .mk (.ofNat 6) bn bt bks bp), ⟨g1, .inr hkb, g2⟩, ?_⟩
     exact k.g [0, 1] [4, 3, 2]
   | some q =>
    obtain ⟨⟨uk, un, ut, uks, up⟩, ⟨vk, vn, vt, vks, vp⟩⟩ := q
    have hsp := WY hka hkb
    simp only at hsp
    obtain ⟨rfl, rfl⟩ := w6 hka
    obtain ⟨rfl, rfl⟩ := w6 hkb
    rw [hsp] at g1
    have hc := lS (f := 13) h13 (a := .mk xk xn xt xks xp) (b := .mk uk un ut uks up) (by have := wh (.mk yk yn yt yks yp); omega)
    simp only [xq] at hc
    cases hsm : vh (.mk xk xn xt xks xp) (.mk uk un ut uks up) with
    | true =>
     rw [hsm] at hc g1
     refine k.z ?_
     refine ⟨(.mk yk yn yt yks yp, .mk vk vn vt vks vp), ⟨by rw [← g1, yy], by simp only; omega⟩, by simp only; omega, ?_⟩
     exact k.g [0, 1] [4, 3, 2]
    | false =>
     rw [hsm] at hc g1
     refine k.z ?_
     simp only [Gcx]
     rw [← g1]
     apply w7 (Or.inr rfl)
     iterate 5 (simp (disch := first | exact dis | fail) only [go_sem, seval, -rO, -rN] <;> exact rfl)
 ·rintro ⟨⟨ak, an, at_, aks, ap⟩, ⟨bk, bn, bt, bks, bp⟩⟩ ⟨g1, g2, g3⟩
  simp only at g1 g2 g3
  rw [WX g2] at g1
  simp only [xU, numD, xV, qn] at g1
  have hn := vM (.mk ak an at_ aks ap)
  simp only [qn] at hn
  have hc := zvo h31 (a := aks) (b := bks) (by omega)
  cases h1 : eqD ak bk with
  | false =>
   rw [h1] at g1; subst g1
   refine k.q ?_
   refine k.z ?_
   exact fin
  | true =>
   cases h2 : eqD an bn with
   | false =>
    rw [h1, h2] at g1; subst g1
    refine k.q ?_
    refine k.z ?_
    exact fin
   | true =>
    cases h3 : eqS at_ bt with
    | true =>
     rw [h1, h2, h3] at g1; subst g1
     have h4 : at_ = bt := Pk h3
     subst h4
     refine k.q ?_
     refine k.z ?_
     exact fin
    | false =>
     rw [h1, h2, h3] at g1; subst g1
     have h4 : ¬ at_ = bt := fun h => by rw [h, Zi] at h3; cases h3
     refine k.q ?_
     refine k.z ?_
     exact fin
def isCh (c : Int) : Bool := match c with
 | .ofNat n => xB n
 | .negSucc _ => false
theorem xH : xB n = true ↔ n ≤ 1114111 ∧ (n < 55296 ∨ 57343 < n) := by
 unfold xB
 rw [uG]
 by_cases h : n < 55296
 ·rw [if_pos h]; simp; omega
 ·rw [if_neg h, Bool.and_eq_true, xJ, xJ]; omega
theorem zrI : isCh (.ofNat n) = decide (n ≤ 1114111 ∧ (n < 55296 ∨ 57343 < n)) := by
 show xB n = _
 by_cases h : n ≤ 1114111 ∧ (n < 55296 ∨ 57343 < n)
 ·rw [xH.2 h]; exact (decide_eq_true h).symm
 ·rw [decide_eq_false h]; cases hv : xB n with
  | false => rfl
  | true => exact absurd (xH.1 hv) h
def encI (c : Int) : List AV := [.int .i64 c]
theorem zvf : ∀ x y, encI x = encI y → x = y := fun x y h => by
 simp only [encI, yZ, AV.int.injEq, true_and, and_true] at h; exact h
noncomputable def gIs : List AV → St → Option (AV × St) := orc0 encI (fun _ => True) (fun c => .bool (isCh c))
theorem Pz {O : Orc} {f : Nat} (h : O f = some gIs) (c : Int) (s : St) : (evW env O).call f [.int .i64 c] s = some (.bool (isCh c), s) := by
 rw [xC h, gIs, we zvf s c trivial rfl]
attribute [local go_sem] encI isCh f82 in
theorem zpo (B : Bx P w0) (hO : OrcOk P w0 O) (o82 : O 82 = none) (c : Int) :
  SC P w0 51 (encI c) (H [] 0 true) (.bool (isCh c)) (H [] 0 true) := by
 refine bs B hO f51 fun C k => ?_
 have cv := ci f82 o82
 unfold f51
 simp only [Ko, Kg, Ki, KF, Km, Kr, opN]
 cases c with
 | negSucc m =>
  refine k.z ?_
  exact fin
 | ofNat n =>
  rw [zrI]
  by_cases h1 : n ≤ 1114111
  ·by_cases h2 : n < 55296
   ·rw [decide_eq_true ⟨h1, .inl h2⟩]
    refine k.z ?_
    exact fin
   ·by_cases h3 : 57343 < n
    ·rw [decide_eq_true ⟨h1, .inr h3⟩]
     refine k.z ?_
     exact fin
    ·rw [decide_eq_false (by omega)]
     refine k.z ?_
     exact fin
  ·rw [decide_eq_false (by omega)]
   refine k.z ?_
   exact fin
def encB (l : List Nat) : List AV := [.lst l.length false (xo l)]
theorem XY : ∀ x y, encB x = encB y → x = y := fun x y h => by
 simp only [encB, yZ, AV.lst.injEq, true_and, and_true] at h; exact uo h.2
theorem kC (l : List Nat) : xz (encB l) = true := by simp only [encB, xw, wi, xD, y6]
theorem Uq (l : List Nat) (e : Bool) : wkL [AV.lst l.length e (xo l)] = encB l := by simp only [encB, wkL, wkV, vW]
theorem ug (c : Nat) : encC c = if c < 128 then [c] else if c < 2048 then [192 + c / 64, 128 + c % 64] else if c < 65536 then [224 + c / 4096, 128 + c / 64 % 64, 128 + c % 64] else [240 + c / 262144, 128 + c / 4096 % 64, 128 + c / 64 % 64, 128 + c % 64] := by
 unfold encC; rw [uG, uG, uG]; rfl
theorem gZ {c : Nat} (h : c ≤ 1114111) : Byt (encC c) := by
 rw [ug]
 intro x hx
 split at hx
 ·simp at hx; omega
 ·split at hx
  ·simp at hx; omega
  ·split at hx
   ·simp at hx; omega
   ·simp at hx; omega
theorem wS (c : Nat) : 1 ≤ (encC c).length ∧ (encC c).length ≤ 4 := by
 rw [ug]
 split
 ·simp
 ·split
  ·simp
  ·split <;> simp
def encN (c : Nat) : List AV := [.int .i64 (.ofNat c)]
theorem JM : ∀ x y, encN x = encN y → x = y := fun x y h => by
 simp only [encN, yZ, AV.int.injEq, true_and, and_true] at h; cases h; rfl
def Zb (x : List Nat × Nat) : List AV := [.lst x.1.length false (xo x.1), .int .i64 (.ofNat x.2)]
theorem zz4 : ∀ x y, Zb x = Zb y → x = y := fun ⟨a, b⟩ ⟨c, d⟩ h => by
 simp only [Zb, yZ, AV.lst.injEq, AV.int.injEq, true_and, and_true] at h
 rw [uo h.1.2]; cases h.2; rfl
theorem Hm (x : List Nat × Nat) : xz (Zb x) = true := by simp only [Zb, xw, wi, wc, xD, y6]
def zpy (x : List Nat × Nat) : Prop := Byt x.1 ∧ x.2 < x.1.length ∧ x.1.length < 1000000
def decR (l : List Nat) : Option (Nat × Nat) := if (decL l).1 = 65533 ∧ (decL l).2 ≤ 1 then none else some (decL l)
theorem ndiv (a b : Nat) : Nat.div a b = a / b := rfl
theorem bb (a b : Nat) : Nat.beq a b = decide (a = b) := by
 cases h : Nat.beq a b with
 | true => exact (decide_eq_true (xF.1 h)).symm
 | false => exact (decide_eq_false (fun h' => by rw [xF.2 h'] at h; cases h)).symm
theorem ue (a b : Nat) : dec2 a b = a % 32 * 64 + b % 64 := rfl
theorem lE (a b c : Nat) : dec3 a b c = a % 16 * 4096 + b % 64 * 64 + c % 64 := rfl
theorem lF (a b c d : Nat) : dec4 a b c d = a % 8 * 262144 + b % 64 * 4096 + c % 64 * 64 + d % 64 := rfl
theorem Um (a : Nat) : decL [a] = if a < 128 then (a, 1) else (65533, 1) := by
 simp only [decL, p9, znN]
theorem XU (a b : Nat) : decL [a, b] = if a < 128 then (a, 1) else if a / 32 = 6 ∧ b / 64 = 2 ∧ 128 ≤ dec2 a b then (dec2 a b, 2) else (65533, 1) := by
 simp only [decL, p9, znN, decC, bb, p8, ndiv]
 by_cases h0 : a < 128
 ·rw [if_pos h0, if_pos h0]
 rw [if_neg h0, if_neg h0]
 by_cases h1 : a / 32 = 6 <;> by_cases h2 : b / 64 = 2 <;> by_cases h3 : 128 ≤ dec2 a b <;> simp [h1, h2, h3]
theorem ZZ (a b c : Nat) : decL [a, b, c] = if a < 128 then (a, 1) else if a / 32 = 6 ∧ b / 64 = 2 ∧ 128 ≤ dec2 a b then (dec2 a b, 2) else if a / 16 = 14 ∧ b / 64 = 2 ∧ c / 64 = 2 ∧ 2048 ≤ dec3 a b c ∧ xB (dec3 a b c) = true then (dec3 a b c, 3) else (65533, 1) := by
 simp only [decL, p9, znN, decC, bb, p8, ndiv]
 by_cases h0 : a < 128
 ·rw [if_pos h0, if_pos h0]
 rw [if_neg h0, if_neg h0]
 by_cases h1 : a / 32 = 6
 ·have h4 : ¬ a / 16 = 14 := by omega
  by_cases h2 : b / 64 = 2 <;> by_cases h3 : 128 ≤ dec2 a b <;> simp [h1, h2, h3, h4]
 ·by_cases h4 : a / 16 = 14 <;> by_cases h2 : b / 64 = 2 <;> by_cases h5 : c / 64 = 2 <;> by_cases h6 : 2048 ≤ dec3 a b c <;> cases h7 : xB (dec3 a b c) <;> simp [h1, h2, h4, h5, h6]
theorem gY (a b c d : Nat) (r : List Nat) : decL (a :: b :: c :: d :: r) = if a < 128 then (a, 1) else if a / 32 = 6 ∧ b / 64 = 2 ∧ 128 ≤ dec2 a b then (dec2 a b, 2) else if a / 16 = 14 ∧ b / 64 = 2 ∧ c / 64 = 2 ∧ 2048 ≤ dec3 a b c ∧ xB (dec3 a b c) = true then (dec3 a b c, 3)
  else if a / 8 = 30 ∧ b / 64 = 2 ∧ c / 64 = 2 ∧ d / 64 = 2 ∧ 65536 ≤ dec4 a b c d ∧ xB (dec4 a b c d) = true then (dec4 a b c d, 4) else (65533, 1) := by
 simp only [decL, p9, znN, decC, bb, p8, ndiv]
 by_cases h0 : a < 128
 ·rw [if_pos h0, if_pos h0]
 rw [if_neg h0, if_neg h0]
 by_cases h1 : a / 32 = 6
 ·have h4 : ¬ a / 16 = 14 := by omega
  have h8 : ¬ a / 8 = 30 := by omega
  by_cases h2 : b / 64 = 2 <;> by_cases h3 : 128 ≤ dec2 a b <;> simp [h1, h2, h3, h4, h8]
 ·by_cases h4 : a / 16 = 14
  ·have h8 : ¬ a / 8 = 30 := by omega
   by_cases h2 : b / 64 = 2 <;> by_cases h5 : c / 64 = 2 <;> by_cases h6 : 2048 ≤ dec3 a b c <;> cases h7 : xB (dec3 a b c) <;> simp [h1, h2, h4, h5, h6, h8]
  ·by_cases h8 : a / 8 = 30 <;> by_cases h2 : b / 64 = 2 <;> by_cases h5 : c / 64 = 2 <;> by_cases h9 : d / 64 = 2 <;> by_cases h6 : 65536 ≤ dec4 a b c d <;> cases h7 : xB (dec4 a b c d) <;> simp [h1, h2, h4, h5, h6, h8, h9]
theorem zoW {a : Nat} (h : a < 256) : binI .and .u8 (.ofNat a) .u8 (.ofNat 31) = some (.int .u8 (.ofNat (a % 32))) := by
 have : ∀ a, a < 256 → bits .and .u8 (.ofNat a) (.ofNat 31) = some (.ofNat (a % 32)) := by decide +kernel
 show (match bits .and .u8 (.ofNat a) (.ofNat 31) with | some n => some (AV.int .u8 n) | none => none) = _
 rw [this a h]
theorem zoV {a : Nat} (h : a < 256) : binI .and .u8 (.ofNat a) .u8 (.ofNat 15) = some (.int .u8 (.ofNat (a % 16))) := by
 have : ∀ a, a < 256 → bits .and .u8 (.ofNat a) (.ofNat 15) = some (.ofNat (a % 16)) := by decide +kernel
 show (match bits .and .u8 (.ofNat a) (.ofNat 15) with | some n => some (AV.int .u8 n) | none => none) = _
 rw [this a h]
theorem and7 {a : Nat} (h : a < 256) : binI .and .u8 (.ofNat a) .u8 (.ofNat 7) = some (.int .u8 (.ofNat (a % 8))) := by
 have : ∀ a, a < 256 → bits .and .u8 (.ofNat a) (.ofNat 7) = some (.ofNat (a % 8)) := by decide +kernel
 show (match bits .and .u8 (.ofNat a) (.ofNat 7) with | some n => some (AV.int .u8 n) | none => none) = _
 rw [this a h]
theorem gP {a : Nat} (h : a < 256) : binI .and .u8 (.ofNat a) .u8 (.ofNat 63) = some (.int .u8 (.ofNat (a % 64))) := by
 have : ∀ a, a < 256 → bits .and .u8 (.ofNat a) (.ofNat 63) = some (.ofNat (a % 64)) := by decide +kernel
 show (match bits .and .u8 (.ofNat a) (.ofNat 63) with | some n => some (AV.int .u8 n) | none => none) = _
 rw [this a h]
theorem zss {a : Nat} (h : a < 256) : binI .andNot .i32 (.ofNat a) .i32 (.negSucc 0) = some (.int .i32 (.ofNat 0)) := by
 have : ∀ a, a < 256 → bits .andNot .i32 (.ofNat a) (.negSucc 0) = some (.ofNat 0) := by decide +kernel
 show (match bits .andNot .i32 (.ofNat a) (.negSucc 0) with | some n => some (AV.int .i32 n) | none => none) = _
 rw [this a h]
theorem andM : binI .and .i32 (.ofNat 65533) .i32 (.negSucc 0) = some (.int .i32 (.ofNat 65533)) := by
 have : bits .and .i32 (.ofNat 65533) (.negSucc 0) = some (.ofNat 65533) := by decide +kernel
 show (match bits .and .i32 (.ofNat 65533) (.negSucc 0) with | some n => some (AV.int .i32 n) | none => none) = _
 rw [this]
theorem zns : binI .shl .i32 (.ofNat 241) .u64 (.ofNat 31) = some (.int .i32 (.negSucc 2147483647)) := by
 have : vq .i32 (zE 241 * 2 ^ (min (zE 31).toNat (IntKind.bits .i32))) = .negSucc 2147483647 := by decide +kernel
 show some (AV.int .i32 _) = _
 rw [this]
theorem znu : binI .shr .i32 (.negSucc 2147483647) .u64 (.ofNat 31) = some (.int .i32 (.negSucc 0)) := by
 have : (Int.negSucc 2147483647).fdiv (2 ^ (min (zE 31).toNat (IntKind.bits .i32))) = .negSucc 0 := by decide +kernel
 show some (AV.int .i32 _) = _
 rw [this]
theorem shr4 (a : Nat) : binI .shr .u8 (.ofNat a) .u64 (.ofNat 4) = some (.int .u8 (.ofNat (a / 16))) := by
 show some (AV.int .u8 (znV (.ofNat a) (.ofNat 16))) = _
 cases a <;> rfl
theorem shl6 (a : Nat) : binI .shl .i32 (.ofNat a) .u64 (.ofNat 6) = some (.int .i32 (vq .i32 (.ofNat (a * 64)))) := rfl
theorem zps (a : Nat) : binI .shl .i32 (.ofNat a) .u64 (.ofNat 12) = some (.int .i32 (vq .i32 (.ofNat (a * 4096)))) := rfl
theorem znt (a : Nat) : binI .shl .i32 (.ofNat a) .u64 (.ofNat 18) = some (.int .i32 (vq .i32 (.ofNat (a * 262144)))) := rfl
theorem zwl (h : n < 2147483648) : IntKind.wrap .i32 ((n : Nat) : Int) = .ofNat n := by
 have h1 : ((n : Nat) : Int) % (2 ^ IntKind.bits .i32 : Int) = (n : Int) := by
  show (n : Int) % 4294967296 = _
  omega
 have h2 : ¬ ((n : Nat) : Int) ≥ (2 ^ (IntKind.bits .i32 - 1) : Int) := by
  show ¬ (n : Int) ≥ 2147483648
  omega
 unfold IntKind.wrap
 simp only [h1, h2, decide_false, Bool.and_false, Bool.false_eq_true, if_false]
 rfl
theorem orN {a b : Nat} (h : a < 16777216) (h' : b < 16777216) : binI .or .i32 (.ofNat a) .i32 (.ofNat b) = some (.int .i32 (.ofNat (a ||| b))) := by
 have e : ∀ n, n < 16777216 → BitVec.ofInt 32 (zE n) = BitVec.ofNat 32 n := fun n _ => rfl
 have hor : a ||| b < 16777216 := Nat.or_lt_two_pow (n := 24) h h'
 have : bits .or .i32 (.ofNat a) (.ofNat b) = some (.ofNat (a ||| b)) := by
  show some (IntKind.wrap .i32 _) = _
  congr 1
  have : ((BitVec.ofInt (IntKind.bits .i32) (zE a)) ||| (BitVec.ofInt (IntKind.bits .i32) (zE b))).toNat = a ||| b := by
   show ((BitVec.ofNat 32 a) ||| (BitVec.ofNat 32 b)).toNat = _
   rw [BitVec.toNat_or, BitVec.toNat_ofNat, BitVec.toNat_ofNat, znL (by omega), znL (by omega)]
  rw [this]
  exact zwl (by omega)
 show (match bits .or .i32 (.ofNat a) (.ofNat b) with | some n => some (AV.int .i32 n) | none => none) = _
 rw [this]
theorem or2 {a b : Nat} (h : b < 64) : a * 64 ||| b = a * 64 + b := by
 have := znJ (i := 6) h a
 rw [yb a 64]; exact this.symm
theorem or12 {a b : Nat} (h : b < 64) : a * 4096 ||| b * 64 = a * 4096 + b * 64 := by
 have e1 := znJ (i := 12) (b := b * 64) (by omega) a
 rw [yb a 4096]; exact e1.symm
theorem znn {a b c : Nat} (h : c < 64) : (a * 4096 + b * 64) ||| c = a * 4096 + b * 64 + c := by
 have := or2 (a := a * 64 + b) h
 rw [show (a * 64 + b) * 64 = a * 4096 + b * 64 by omega] at this; exact this
theorem or18 {a b : Nat} (h : b < 64) : a * 262144 ||| b * 4096 = a * 262144 + b * 4096 := by
 have e1 := znJ (i := 18) (b := b * 4096) (by omega) a
 rw [yb a 262144]; exact e1.symm
theorem zno {a b c : Nat} (h : c < 64) : (a * 262144 + b * 4096) ||| c * 64 = a * 262144 + b * 4096 + c * 64 := by
 have := or12 (a := a * 64 + b) h
 rw [show (a * 64 + b) * 4096 = a * 262144 + b * 4096 by omega] at this; exact this
theorem znp {a b c d : Nat} (h : d < 64) : (a * 262144 + b * 4096 + c * 64) ||| d = a * 262144 + b * 4096 + c * 64 + d := by
 have := or2 (a := a * 4096 + b * 64 + c) h
 rw [show (a * 4096 + b * 64 + c) * 64 = a * 262144 + b * 4096 + c * 64 by omega] at this; exact this
def jl (c : Nat) : Nat := if c < 128 then 240 else if c < 194 then 241 else if c < 224 then 2 else if c = 224 then 19 else if c < 237 then 3 else if c = 237 then 35 else if c < 240 then 3 else if c = 240 then 52 else if c < 244 then 4 else if c = 244 then 68 else 241
def u8V (v : Option AV) (n : Nat) : Bool := match v with
 | some (.int .u8 (.ofNat m)) => Nat.beq m n
 | _ => false
theorem zoy {v : Option AV} (h : u8V v n = true) : v = some (.int .u8 (.ofNat n)) := by
 unfold u8V at h
 split at h
 ·rw [xF.1 h]
 ·cases h
theorem PM {c : Nat} (h : c < 256) (s : St) : vLd env.globs s (.gptr 2 c) = some (.int .u8 (.ofNat (jl c))) := by
 have key : (List.range 256).all (fun c => u8V (vLd env.globs s0 (.gptr 2 c)) (jl c)) = true := by decide +kernel
 have := zoy (List.all_eq_true.1 key c (List.mem_range.2 h))
 rw [← this]; rfl
theorem PN (s : St) : vLdn env.globs s 2 (.gptr 3 0) = some (.agg [.int .u8 (.ofNat 128), .int .u8 (.ofNat 191)]) ∧ vLdn env.globs s 2 (.gptr 3 2) = some (.agg [.int .u8 (.ofNat 160), .int .u8 (.ofNat 191)]) ∧ vLdn env.globs s 2 (.gptr 3 4) = some (.agg [.int .u8 (.ofNat 128), .int .u8 (.ofNat 159)]) ∧ vLdn env.globs s 2 (.gptr 3 6) = some (.agg [.int .u8 (.ofNat 144), .int .u8 (.ofNat 191)]) ∧ vLdn env.globs s 2 (.gptr 3 8) = some (.agg [.int .u8 (.ofNat 128), .int .u8 (.ofNat 143)]) :=
 ⟨rfl, rfl, rfl, rfl, rfl⟩
theorem Ja {g off i : Nat} {k : IntKind} (h : i < n) : vIaa n esz (.gptr g off) (.int k (.ofNat i)) = some (.gptr g (off + i * esz)) := by
 simp only [vIaa, zuo k h]; rfl
noncomputable def vX (l : List Nat) : AV := .tup [.int .i32 (.ofNat (decL l).1), .int .i64 (.ofNat (decL l).2)]
theorem kY (l : List Nat) : xG (vX l) = true := by simp only [vX, wE, xw, wc, xD, y6]
theorem dl4 {a b c d : Nat} {r : List Nat} {v : Nat × Nat} (h : decL (a :: b :: c :: d :: r) = v := by (rw [gY]; (repeat' split); all_goals first | rfl | (exfalso; (try simp only [ue, lE, lF, xH] at *); omega))) : vX (a :: b :: c :: d :: r) = .tup [.int .i32 (.ofNat v.1), .int .i64 (.ofNat v.2)] := by subst h; rfl
theorem dl3 {a b c : Nat} {r : List Nat} {v : Nat × Nat} (h : decL [a, b, c] = v := by (rw [ZZ]; (repeat' split); all_goals first | rfl | (exfalso; (try simp only [ue, lE, lF, xH] at *); omega))) (h4 : ∀ d s, r = d :: s → decL (a :: b :: c :: d :: s) = v := by (intros; first | contradiction | (rw [gY]; (repeat' split); all_goals first | rfl | (exfalso; (try simp only [ue, lE, lF, xH] at *); omega)))) : vX (a :: b :: c :: r) = .tup [.int .i32 (.ofNat v.1), .int .i64 (.ofNat v.2)] := by
 cases r with
 | nil => subst h; rfl
 | cons d s => exact h4 d s rfl ▸ rfl
theorem dl2 {a b : Nat} {r : List Nat} {v : Nat × Nat} (h : decL [a, b] = v := by (rw [XU]; (repeat' split); all_goals first | rfl | (exfalso; (try simp only [ue, lE, lF, xH] at *); omega))) (h3 : ∀ c s, r = c :: s → vX (a :: b :: c :: s) = .tup [.int .i32 (.ofNat v.1), .int .i64 (.ofNat v.2)] := by (intros; first | contradiction | exact dl3)) : vX (a :: b :: r) = .tup [.int .i32 (.ofNat v.1), .int .i64 (.ofNat v.2)] := by
 cases r with
 | nil => subst h; rfl
 | cons d s => exact h3 d s rfl
theorem dl1 {a : Nat} {r : List Nat} {v : Nat × Nat} (h : decL [a] = v := by (rw [Um]; (repeat' split); all_goals first | rfl | (exfalso; (try simp only [ue, lE, lF, xH] at *); omega))) (h2 : ∀ c s, r = c :: s → vX (a :: c :: s) = .tup [.int .i32 (.ofNat v.1), .int .i64 (.ofNat v.2)] := by (intros; first | contradiction | exact dl2)) : vX (a :: r) = .tup [.int .i32 (.ofNat v.1), .int .i64 (.ofNat v.2)] := by
 cases r with
 | nil => subst h; rfl
 | cons d s => exact h2 d s rfl
attribute [local go_sem] encB Ja and7 shr4 zns znu zss andM orN znU in
theorem ztM (B : Bx P w0) (hO : OrcOk P w0 O) (b0 : Nat) (r : List Nat) (hb : Byt (b0 :: r)) (hc : 128 ≤ b0 ∧ (b0 < 194 ∨ 244 < b0)) (hlen : (b0 :: r).length < 1000000) :
  SC P w0 117 (encB (b0 :: r)) (H [] 0 true) (vX (b0 :: r)) (H [] 0 true) := by
 refine bs B hO f117 fun C k => ?_
 have h0 : b0 < 256 := hb b0 (by simp)
 have hx : jl b0 = 241 := by
  unfold jl
  repeat' split
  all_goals omega
 have hl2 := fun s => PM (c := b0) h0 s
 rw [hx] at hl2
 have hl3 := fun s => PN s
 unfold f117
 simp only [Ko, Kg, Kn, Ki, Kj, Kw, KT, Km, Kr, Kq, Kc, opN]
 rw [dl1 (v := (65533, 1))]
 refine k.z ?_
 exact fin
attribute [local go_sem] encB Ja and7 shr4 zoW gP shl6 orN or2 ue in
theorem ztN (B : Bx P w0) (hO : OrcOk P w0 O) (b0 : Nat) (r : List Nat) (hb : Byt (b0 :: r)) (hc : 128 ≤ b0 ∧ (194 ≤ b0 ∧ b0 < 224)) (hlen : (b0 :: r).length < 1000000) :
  SC P w0 117 (encB (b0 :: r)) (H [] 0 true) (vX (b0 :: r)) (H [] 0 true) := by
 refine bs B hO f117 fun C k => ?_
 have h0 : b0 < 256 := hb b0 (by simp)
 have hx : jl b0 = 2 := by
  unfold jl
  repeat' split
  all_goals omega
 have hl2 := fun s => PM (c := b0) h0 s
 rw [hx] at hl2
 have hl3 := fun s => PN s
 unfold f117
 simp only [Ko, Kg, Kn, Ki, Kj, Kw, KT, Km, Kr, Kq, Kc, opN]
 match r, hb, hlen with
 | [], hb, hlen =>
  rw [dl1 (v := (65533, 1))]
  refine k.z ?_
  exact fin
 | b1 :: r, hb, hlen =>
  have h1 : b1 < 256 := hb b1 (by simp)
  simp only [yY] at hlen
  have hlr : r.length < 1000000 := by omega
  by_cases g1 : b1 < 128
  case pos =>
   rw [dl2 (v := (65533, 1))]
   refine k.z ?_
   exact fin
  by_cases g2 : 191 < b1
  case pos =>
   rw [dl2 (v := (65533, 1))]
   refine k.z ?_
   exact fin
  rw [dl2 (v := (dec2 b0 b1, 2))]
  refine k.z ?_
  exact fin
attribute [local go_sem] encB Ja and7 shr4 zoV gP shl6 zps orN or12 znn lE in
theorem ztO (B : Bx P w0) (hO : OrcOk P w0 O) (b0 : Nat) (r : List Nat) (hb : Byt (b0 :: r)) (hc : 224 ≤ b0 ∧ b0 < 240) (hlen : (b0 :: r).length < 1000000) :
  SC P w0 117 (encB (b0 :: r)) (H [] 0 true) (vX (b0 :: r)) (H [] 0 true) := by
 refine bs B hO f117 fun C k => ?_
 have h0 : b0 < 256 := hb b0 (by simp)
 obtain ⟨x, lo, hi, hx, hq⟩ : ∃ x lo hi, jl b0 = x ∧ ((x = 19 ∧ lo = 160 ∧ hi = 191 ∧ b0 < 225) ∨ (x = 3 ∧ lo = 128 ∧ hi = 191 ∧ 225 ≤ b0 ∧ (b0 < 237 ∨ 238 ≤ b0)) ∨ (x = 35 ∧ lo = 128 ∧ hi = 159 ∧ 237 ≤ b0 ∧ b0 < 238)) := by
  refine ⟨jl b0, if b0 < 225 then 160 else 128, if 237 ≤ b0 ∧ b0 < 238 then 159 else 191, rfl, ?_⟩
  unfold jl
  repeat' split
  all_goals omega
 have hl2 := fun s => PM (c := b0) h0 s
 rw [hx] at hl2
 clear hx
 have hl3 := fun s => PN s
 unfold f117
 simp only [Ko, Kg, Kn, Ki, Kj, Kw, KT, Km, Kr, Kq, Kc, opN]
 match r, hb, hlen with
 | [], hb, hlen =>
  rcases hq with ⟨rfl, rfl, rfl, hq⟩ | ⟨rfl, rfl, rfl, hq⟩ | ⟨rfl, rfl, rfl, hq⟩
  all_goals rw [dl1 (v := (65533, 1))]; refine k.z ?_; exact fin
 | [b1], hb, hlen =>
  have h1 : b1 < 256 := hb b1 (by simp)
  rcases hq with ⟨rfl, rfl, rfl, hq⟩ | ⟨rfl, rfl, rfl, hq⟩ | ⟨rfl, rfl, rfl, hq⟩
  all_goals rw [dl2 (v := (65533, 1))]; refine k.z ?_; exact fin
 | b1 :: b2 :: r, hb, hlen =>
  have h1 : b1 < 256 := hb b1 (by simp)
  have h2 : b2 < 256 := hb b2 (by simp)
  simp only [yY] at hlen
  have hlr : r.length < 1000000 := by omega
  by_cases g1 : b1 < lo
  rotate_left
  by_cases g2 : hi < b1
  rotate_left
  by_cases g3 : b2 < 128
  rotate_left
  by_cases g4 : 191 < b2
  rotate_left
  rw [dl3 (v := (dec3 b0 b1 b2, 3))]
  rotate_left
  iterate 4 (rw [dl3 (v := (65533, 1))]; rotate_left)
  all_goals
   rcases hq with ⟨rfl, rfl, rfl, hq⟩ | ⟨rfl, rfl, rfl, hq⟩ | ⟨rfl, rfl, rfl, hq⟩
   all_goals refine k.z ?_; exact fin
attribute [local go_sem] encB Ja and7 shr4 gP shl6 zps znt orN or18 zno znp lF in
theorem ztP (B : Bx P w0) (hO : OrcOk P w0 O) (b0 : Nat) (r : List Nat) (hb : Byt (b0 :: r)) (hc : 240 ≤ b0 ∧ b0 < 245) (hlen : (b0 :: r).length < 1000000) :
  SC P w0 117 (encB (b0 :: r)) (H [] 0 true) (vX (b0 :: r)) (H [] 0 true) := by
 refine bs B hO f117 fun C k => ?_
 have h0 : b0 < 256 := hb b0 (by simp)
 obtain ⟨x, lo, hi, hx, hq⟩ : ∃ x lo hi, jl b0 = x ∧ ((x = 52 ∧ lo = 144 ∧ hi = 191 ∧ b0 < 241) ∨ (x = 4 ∧ lo = 128 ∧ hi = 191 ∧ 241 ≤ b0 ∧ b0 < 244) ∨ (x = 68 ∧ lo = 128 ∧ hi = 143 ∧ 244 ≤ b0)) := by
  refine ⟨jl b0, if b0 < 241 then 144 else 128, if 244 ≤ b0 then 143 else 191, rfl, ?_⟩
  unfold jl
  repeat' split
  all_goals omega
 have hl2 := fun s => PM (c := b0) h0 s
 rw [hx] at hl2
 clear hx
 have hl3 := fun s => PN s
 unfold f117
 simp only [Ko, Kg, Kn, Ki, Kj, Kw, KT, Km, Kr, Kq, Kc, opN]
 match r, hb, hlen with
 | [], hb, hlen =>
  rcases hq with ⟨rfl, rfl, rfl, hq⟩ | ⟨rfl, rfl, rfl, hq⟩ | ⟨rfl, rfl, rfl, hq⟩
  all_goals rw [dl1 (v := (65533, 1))]; refine k.z ?_; exact fin
 | [b1], hb, hlen =>
  have h1 : b1 < 256 := hb b1 (by simp)
  rcases hq with ⟨rfl, rfl, rfl, hq⟩ | ⟨rfl, rfl, rfl, hq⟩ | ⟨rfl, rfl, rfl, hq⟩
  all_goals rw [dl2 (v := (65533, 1))]; refine k.z ?_; exact fin
 | [b1, b2], hb, hlen =>
  have h1 : b1 < 256 := hb b1 (by simp)
  have h2 : b2 < 256 := hb b2 (by simp)
  rcases hq with ⟨rfl, rfl, rfl, hq⟩ | ⟨rfl, rfl, rfl, hq⟩ | ⟨rfl, rfl, rfl, hq⟩
  all_goals rw [dl3 (v := (65533, 1))]; refine k.z ?_; exact fin
 | b1 :: b2 :: b3 :: r, hb, hlen =>
  have h1 : b1 < 256 := hb b1 (by simp)
  have h2 : b2 < 256 := hb b2 (by simp)
  have h3 : b3 < 256 := hb b3 (by simp)
  simp only [yY] at hlen
  have hlr : r.length < 1000000 := by omega
  by_cases g1 : b1 < lo
  rotate_left
  by_cases g2 : hi < b1
  rotate_left
  by_cases g3 : b2 < 128
  rotate_left
  by_cases g4 : 191 < b2
  rotate_left
  by_cases g5 : b3 < 128
  rotate_left
  by_cases g6 : 191 < b3
  rotate_left
  rw [dl4 (v := (dec4 b0 b1 b2 b3, 4))]
  rotate_left
  iterate 6 (rw [dl4 (v := (65533, 1))]; rotate_left)
  all_goals
   rcases hq with ⟨rfl, rfl, rfl, hq⟩ | ⟨rfl, rfl, rfl, hq⟩ | ⟨rfl, rfl, rfl, hq⟩
   all_goals refine k.z ?_; exact fin
theorem zzl (B : Bx P w0) (hO : OrcOk P w0 O) (b0 : Nat) (r : List Nat) (hb : Byt (b0 :: r)) (hc : 128 ≤ b0) (hlen : (b0 :: r).length < 1000000) :
  SC P w0 117 (encB (b0 :: r)) (H [] 0 true) (vX (b0 :: r)) (H [] 0 true) := by
 have h0 : b0 < 256 := hb b0 (by simp)
 by_cases c1 : b0 < 194 ∨ 244 < b0
 ·exact ztM B hO b0 r hb ⟨hc, c1⟩ hlen
 by_cases c2 : b0 < 224
 ·exact ztN B hO b0 r hb ⟨hc, by omega, c2⟩ hlen
 by_cases c5 : b0 < 240
 ·exact ztO B hO b0 r hb ⟨by omega, c5⟩ hlen
 exact ztP B hO b0 r hb ⟨by omega, by omega⟩ hlen
def zsr (l : List Nat) : Prop := ∃ b0 r, l = b0 :: r ∧ Byt l ∧ 128 ≤ b0 ∧ l.length < 1000000
noncomputable def Wn : List AV → St → Option (AV × St) := orc0 encB zsr vX
theorem zxJ (h : O 117 = some Wn) {b0 : Nat} {r : List Nat} (hb : Byt (b0 :: r)) (h1 : 128 ≤ b0) (h2 : (b0 :: r).length < 1000000) (e : Bool) (s : St) : (evW env O).call 117 [.lst (r.length + 1) e (.int .u8 (.ofNat b0) :: xo r)] s = some (vX (b0 :: r), s) := by
 rw [xC h, Wn]; exact we XY s (b0 :: r) ⟨b0, r, rfl, hb, h1, h2⟩ (Uq (b0 :: r) e)
def zoR (l : List Nat) : Prop := l ≠ [] ∧ Byt l ∧ l.length < 1000000
noncomputable def gDr : List AV → St → Option (AV × St) := orc0 encB zoR vX
theorem Pg (h : O 100 = some gDr) {l : List Nat} (h0 : l ≠ []) (hb : Byt l) (h2 : l.length < 1000000) (hn : n = l.length) (e : Bool) (s : St) : (evW env O).call 100 [.lst n e (xo l)] s = some (vX l, s) := by
 subst hn
 rw [xC h, gDr, we XY s l ⟨h0, hb, h2⟩ (Uq l e)]
theorem kZ {b0 : Nat} (h : b0 < 128) (r : List Nat) : decL (b0 :: r) = (b0, 1) := by
 simp only [decL, uG, if_pos h]
attribute [local go_sem] encB in
theorem zpl (B : Bx P w0) (hO : OrcOk P w0 O) (h117 : O 117 = some Wn) (l : List Nat) (hl : l ≠ []) (hb : Byt l) (hlen : l.length < 1000000) :
  SC P w0 100 (encB l) (H [] 0 true) (vX l) (H [] 0 true) := by
 refine bs B hO f100 fun C k => ?_
 match l, hl, hb, hlen with
 | b0 :: r, _, hb, hlen =>
 have h0 : b0 < 256 := hb b0 (by simp)
 unfold f100
 simp only [Ko, Ki, Kj, Km, Kr, Kc, opN]
 refine k.q ?_
 by_cases h1 : b0 < 128
 ·rw [vX, kZ h1]
  refine wu ?_
  refine k.q ?_
  refine xS (x6 (Yx (k.ev ?_)))
  simp (disch := first | exact dis | fail) only [go_sem, seval, -rO, -rN, h1]
  refine ⟨_, rfl, ?_⟩
  simp only [xA, xX]
  exact fin
 ·have hs := zxJ h117 (b0 := b0) (r := r) hb (by omega) hlen
  rw [vX] at hs ⊢
  refine wu ?_
  refine k.q ?_
  refine xS (x6 (Yx (k.ev ?_)))
  simp (disch := first | exact dis | fail) only [go_sem, seval, -rO, -rN, h1]
  refine ⟨_, rfl, ?_⟩
  simp only [xA, xX]
  refine k.z ?_
  exact fin
theorem ux : ∀ {l : List Nat}, l ≠ [] → 1 ≤ (decL l).2 ∧ (decL l).2 ≤ l.length ∧ xB (decL l).1 = true
 | [], h => absurd rfl h
 | [a], _ => by
  rw [Um]
  split
  ·exact ⟨zq _, by simp, xH.2 (by omega)⟩
  ·exact ⟨zq _, by simp, rfl⟩
 | [a, b], _ => by
  rw [XU]
  split
  ·exact ⟨zq _, by simp, xH.2 (by simp only; omega)⟩
  ·split
   ·exact ⟨by simp, by simp, xH.2 (by simp only [ue]; omega)⟩
   ·exact ⟨zq _, by simp, rfl⟩
 | [a, b, c], _ => by
  rw [ZZ]
  split
  ·exact ⟨zq _, by simp, xH.2 (by simp only; omega)⟩
  ·split
   ·exact ⟨by simp, by simp, xH.2 (by simp only [ue]; omega)⟩
   ·split
    ·rename_i h; exact ⟨by simp, by simp, h.2.2.2.2⟩
    ·exact ⟨zq _, by simp, rfl⟩
 | a :: b :: c :: d :: r, _ => by
  rw [gY]
  simp only [yY]
  split
  ·exact ⟨zq _, by simp only; omega, xH.2 (by simp only; omega)⟩
  ·split
   ·exact ⟨by simp, by simp only; omega, xH.2 (by simp only [ue]; omega)⟩
   ·split
    ·rename_i h; exact ⟨by simp, by simp only; omega, h.2.2.2.2⟩
    ·split
     ·rename_i h; exact ⟨by simp, by simp only; omega, h.2.2.2.2.2⟩
     ·exact ⟨zq _, by simp only; omega, rfl⟩
def allF (b : List Nat) : Nat → Nat → List (Nat × Nat) → Sum (List (Nat × Nat)) Nat
 | 0, i, _ => .inr i
 | k + 1, i, acc => if b.length ≤ i then .inl acc else match decR (b.drop i) with
  | none => .inr i
  | some p => allF b k (i + p.2) (acc ++ [(p.1, i)])
def vw (l : List (Nat × Nat)) : List AV := qw (fun p : Nat × Nat => [AV.int .i64 (.ofNat p.1), .int .i64 (.ofNat p.2)]) l
theorem vG (l : List (Nat × Nat)) : xz (vw l) = true := ur (fun p => by simp only [xw, wc, xD, y6]) l
theorem zzG (l : List (Nat × Nat)) : wkL (vw l) = vw l := Zm (fun p => rfl) l
theorem QV (l : List (Nat × Nat)) (p : Nat × Nat) : vw (l ++ [p]) = vw l ++ [.int .i64 (.ofNat p.1), .int .i64 (.ofNat p.2)] := by unfold vw; rw [qZ, lH]
theorem u6 (p : Nat × Nat) (l : List (Nat × Nat)) : vw (p :: l) = .int .i64 (.ofNat p.1) :: .int .i64 (.ofNat p.2) :: vw l := rfl
theorem pl : vw [] = [] := rfl
def accC (id : Nat) (acc : List (Nat × Nat)) : AV := match acc with
 | [] => .nils
 | t :: r => .gr id 2 (t :: r).length (vw (t :: r))
def pY (ty : Nat) (acc : List (Nat × Nat)) : List (Option AObj) := match acc with
 | [] => []
 | t :: r => [some (.app ty (vw (t :: r)))]
theorem Xp {l : List (Nat × Option AObj)} {n m id pos : Nat} {md : Bool} {t : List Nat} {x : Nat} {r : List Nat} (hg : getA l id = some (.siter t pos)) (hd : t.drop pos = x :: r) :
  oNs (KL l n m md [] none) (.ptr id 0) = some (.tup [.bool true, .int .i64 (.ofNat pos), .int .i32 (.ofNat (decL (x :: r)).1)], KL ((id, some (.siter t (pos + (decL (x :: r)).2))) :: l) n (mark m id) md [] none) := by
 simp only [oNs, w8, hg, jb, hd, zwq]; rfl
theorem UT {l : List (Nat × Option AObj)} {n m id pos : Nat} {md : Bool} {t : List Nat} (hg : getA l id = some (.siter t pos)) (hd : t.drop pos = []) :
  oNs (KL l n m md [] none) (.ptr id 0) = some (.tup [.bool false], KL l n m md [] none) := by
 simp only [oNs, w8, hg, jb, hd]
theorem Xq (l : List (Nat × Option AObj)) (n m : Nat) (md : Bool) (t : List Nat) : oRs (KL l n m md [] none) (.str t) = some (.ptr n 0, KL ((n, some (.siter t 0)) :: l) (n + 1) m md [] none) := rfl
def allR (b : List Nat) : AV := match allF b (b.length + 1) 0 [] with
 | .inl l => .tup [.lst l.length false (vw l), .agg [.int .i64 (.ofNat 0), .int .i64 (.ofNat 0)]]
 | .inr i => .tup [.lst 0 false [], .agg [.int .i64 (.ofNat 4), .int .i64 (.ofNat i)]]
theorem zzt (b : List Nat) : xG (allR b) = true := by
 unfold allR; split <;> simp only [wE, xw, wi, vU, wc, xD, y6]
def PreB (b : List Nat) : Prop := Byt b ∧ b.length < 1000000
noncomputable def gAll : List AV → St → Option (AV × St) := orc0 encB PreB allR
theorem zwv (h : O 83 = some gAll) {l : List Nat} (hb : Byt l) (h2 : l.length < 1000000) (hn : n = l.length) (e : Bool) (s : St) : (evW env O).call 83 [.lst n e (xo l)] s = some (allR l, s) := by
 subst hn
 rw [xC h, gAll, we XY s l ⟨hb, h2⟩ (Uq l e)]
theorem Jh {b : List Nat} : ∀ {k i : Nat} {acc l : List (Nat × Nat)}, acc.length ≤ i → i ≤ b.length → allF b k i acc = .inl l → l.length ≤ b.length
 | 0, _, _, _, _, _, h => by cases h
 | k + 1, i, acc, l, h1, h2, h => by
  rw [allF] at h
  split at h
  ·cases h; omega
  ·split at h
   ·cases h
   ·rename_i p hp
    have hne : b.drop i ≠ [] := fun he => by have := congrArg List.length he; rw [znK] at this; simp at this; omega
    unfold decR at hp
    split at hp
    ·cases hp
    ·cases hp
     have := ux hne
     rw [znK] at this
     exact Jh (by simp; omega) (by omega) h
attribute [local go_sem] encB QU Xq accC pY f101 pl zzG in
theorem zpB (B : Bx P w0) (hO : OrcOk P w0 O) (o101 : O 101 = none) (h100 : O 100 = some gDr) (b : List Nat) (hb : Byt b) (hlen : b.length < 1000000) :
  SC P w0 83 (encB b) (H [] 0 true) (allR b) (H [] 0 true) := by
 refine bs B hO f83 fun C k => ?_
 have cw := ci f101 o101
 unfold f83
 simp only [Ko, Kn, Ki, Kv, Km, Kr, Kc, opN]
 refine k.q ?_
 refine k.q ?_
 refine vQ (fun l => allF b (b.length + 1) 0 [] = .inl l) (fun l => ⟨tmL [(4, accC 1 l), (3, .ptr 0 0)], []⟩) (fun l => H ([some (.row 34 [.int .i64 (.ofNat 0), .int .i64 (.ofNat 0)] false false)] ++ pY 120 l) 0 true) ?_ ?_
 ·refine k.q ?_
  refine xS (x6 (k.gcL [0, 1] [11, 4, 3, 0] true (fr1 := ⟨tmL [(11, .ptr 1 0), (4, accC 2 []), (3, .ptr 0 0), (0, .lst b.length false (xo b))], []⟩) (s1 := H ([some (.row 34 [.int .i64 (.ofNat 0), .int .i64 (.ofNat 0)] false false), some (.siter b 0)] ++ pY 120 []) 0 true) (by simp (disch := first | exact dis | fail) only [go_sem, seval, -rO, -rN, accC, pY]) ?_))
  refine wb (fun x : Nat × Nat × List (Nat × Nat) => x.1) (fun x => ⟨tmL [(11, .ptr 1 0), (4, accC 2 x.2.2), (3, .ptr 0 0), (0, .lst b.length false (xo b))], []⟩) (fun x => H ([some (.row 34 [.int .i64 (.ofNat 0), .int .i64 (.ofNat 0)] false false), some (.siter b x.2.1)] ++ pY 120 x.2.2) 0 true) (fun x => allF b x.1 x.2.1 x.2.2 = allF b (b.length + 1) 0 [] ∧ b.length < x.1 + x.2.1 ∧ x.2.1 ≤ b.length ∧ x.2.2.length ≤ x.2.1) (fun x hx => ?_) (b.length + 1, 0, []) ⟨rfl, by simp only; omega, zN _, by simp⟩
  obtain ⟨kk, i, acc⟩ := x
  obtain ⟨g1, g2, g3, g4⟩ := hx
  simp only at g1 g2 g3 g4 ⊢
  cases kk with
  | zero => omega
  | succ kk =>
  rw [allF] at g1
  rcases qA b i with ⟨hi, hd⟩ | ⟨y, hi, hd⟩
  ·rw [if_pos hi] at g1
   have hns := fun l n m hg => @UT l n m 1 i true b hg hd
   cases acc with
   | nil =>
    refine k.z ?_
    simp only [Gcx]
    refine ⟨[], g1.symm, ?_⟩
    exact k.g [0] [4, 3]
   | cons a0 ar =>
    have hp1 := vG (a0 :: ar)
    refine k.z ?_
    simp only [Gcx]
    refine ⟨a0 :: ar, g1.symm, ?_⟩
    exact k.g [0, 2] [4, 3]
  ·rw [if_neg (by omega), hd] at g1
   have hns := fun l n m hg => @Xp l n m 1 i true b y _ hg hd
   have hsz := ux (l := y :: b.drop (i + 1)) (by simp)
   have hsl : (y :: b.drop (i + 1)).length = b.length - i := by rw [← hd, znK]
   rw [hsl] at hsz
   have hbd : Byt (y :: b.drop (i + 1)) := by rw [← hd]; exact hb.drop i
   have hdr := fun e s => Pg (O := O) h100 (l := b.drop i) (by rw [hd]; simp) (hb.drop i) (by rw [znK]; omega) (n := b.length - i) (by rw [znK]) e s
   simp only [vX, hd, xo] at hdr
   have hc1 := (xH.1 hsz.2.2).1
   revert hns hsz hc1 hdr g1
   generalize hdl : decL (y :: b.drop (i + 1)) = D
   obtain ⟨c, sz⟩ := D
   intro g1 hns hsz hdr hc1
   simp only at hns hsz hdr hc1
   by_cases h1 : c = 65533
   ·subst h1
    by_cases h2 : sz ≤ 1
    ·have hR : decR (y :: b.drop (i + 1)) = none := by unfold decR; rw [hdl, if_pos ⟨rfl, h2⟩]
     rw [hR] at g1
     simp only at g1
     simp only [allR, ← g1]
     cases acc with
     | nil =>
      refine k.z ?_
      exact fin
     | cons a0 ar =>
      have hp1 := vG (a0 :: ar)
      refine k.z ?_
      exact fin
    ·have hR : decR (y :: b.drop (i + 1)) = some (65533, sz) := by unfold decR; rw [hdl, if_neg (fun h => h2 h.2)]
     rw [hR] at g1
     simp only at g1
     cases acc with
     | nil =>
      refine k.z ?_
      refine ⟨(kk, i + sz, [] ++ [(65533, i)]), ⟨g1, by simp only; omega, by simp only; omega, by simp; omega⟩, yw _, ?_⟩
      refine k.gcs (keep := [0, 1, 2]) (live := [11, 4, 3, 0]) (md := true) ?_
      simp (disch := first | exact dis | fail) only [go_sem, seval, -rO, -rN, accC, pY, u6, pl]
     | cons a0 ar =>
      have hp1 := vG (a0 :: ar)
      simp only [yY] at g4
      refine k.z ?_
      refine ⟨(kk, i + sz, (a0 :: ar) ++ [(65533, i)]), ⟨g1, by simp only; omega, by simp only; omega, by simp; omega⟩, yw _, ?_⟩
      refine k.gcs (keep := [0, 1, 3]) (live := [11, 4, 3, 0]) (md := true) ?_
      simp only [y8, accC, pY, u6, QV, ye, yY, yX]
      simp (disch := first | exact dis | fail) only [go_sem, seval, -rO, -rN, vG]
   ·have hR : decR (y :: b.drop (i + 1)) = some (c, sz) := by unfold decR; rw [hdl, if_neg (fun h => h1 h.1)]
    rw [hR] at g1
    simp only at g1
    cases acc with
    | nil =>
     refine k.z ?_
     refine ⟨(kk, i + sz, [] ++ [(c, i)]), ⟨g1, by simp only; omega, by simp only; omega, by simp; omega⟩, yw _, ?_⟩
     refine k.gcs (keep := [0, 1, 2]) (live := [11, 4, 3, 0]) (md := true) ?_
     simp (disch := first | exact dis | fail) only [go_sem, seval, -rO, -rN, accC, pY, u6, pl]
    | cons a0 ar =>
     have hp1 := vG (a0 :: ar)
     simp only [yY] at g4
     refine k.z ?_
     refine ⟨(kk, i + sz, (a0 :: ar) ++ [(c, i)]), ⟨g1, by simp only; omega, by simp only; omega, by simp; omega⟩, yw _, ?_⟩
     refine k.gcs (keep := [0, 1, 3]) (live := [11, 4, 3, 0]) (md := true) ?_
     simp only [y8, accC, pY, u6, QV, ye, yY, yX]
     simp (disch := first | exact dis | fail) only [go_sem, seval, -rO, -rN, vG]
 ·intro l hl
  simp only [allR, hl]
  cases l with
  | nil =>
   refine k.z ?_
   exact fin
  | cons a0 ar =>
   have hp1 := vG (a0 :: ar)
   refine k.z ?_
   exact fin
def ji (l : List Nat) : List AV := qw (fun n : Nat => [AV.int .i64 (.ofNat n)]) l
theorem j9 (l : List Nat) : xz (ji l) = true := ur (fun p => by simp only [xw, wc, xD, y6]) l
theorem zzJ (l : List Nat) : wkL (ji l) = ji l := Zm (fun p => rfl) l
theorem zzI (l : List Nat) (p : Nat) : ji (l ++ [p]) = ji l ++ [.int .i64 (.ofNat p)] := by unfold ji; rw [qZ, lH]
theorem YJ (p : Nat) (l : List Nat) : ji (p :: l) = .int .i64 (.ofNat p) :: ji l := rfl
theorem XQ : ji [] = [] := rfl
theorem Jx (i : Nat) (l : List (Nat × Nat)) : wK (i * 2) (vw l) = vw (l.drop i) := gf (k := 2) (fun _ => rfl) i l
def accN (id : Nat) (acc : List Nat) : AV := match acc with
 | [] => .nils
 | t :: r => .gr id 1 (t :: r).length (ji (t :: r))
def j4 (ty : Nat) (acc : List Nat) : List (Option AObj) := match acc with
 | [] => []
 | t :: r => [some (.app ty (ji (t :: r)))]
def pq (b : List Nat) : Option (List Nat) := match allF b (b.length + 1) 0 [] with
 | .inl l => some (l.map (·.1))
 | .inr _ => none
def kX (b : List Nat) : AV := match pq b with
 | some l => .tup [.lst l.length false (ji l), .int .i64 (.ofNat 0)]
 | none => .tup [.lst 0 false [], .int .i64 (.ofNat 4)]
theorem JB (b : List Nat) : xG (kX b) = true := by
 unfold kX; split <;> simp only [wE, xw, wi, wc, xD, y6]
def encS (s : List Nat) : List AV := [.str s]
theorem Zf : ∀ x y, encS x = encS y → x = y := fun x y h => by
 simp only [encS, yZ, AV.str.injEq, and_true] at h; exact h
theorem Z1 (l : List Nat) : xz (encS l) = true := by simp only [encS, xw, qc, xD, y6]
noncomputable def UC : List AV → St → Option (AV × St) := orc0 encS PreB kX
theorem G8 {f : Nat} (h : O f = some UC) {l : List Nat} (hb : Byt l) (h2 : l.length < 1000000) (s : St) : (evW env O).call f [.str l] s = some (kX l, s) := by
 rw [xC h, UC, we Zf s l ⟨hb, h2⟩ rfl]
theorem zwZ (B : Bx P w0) (hO : OrcOk P w0 O) (h83 : O 83 = some gAll) (b : List Nat) (hb : Byt b) (hlen : b.length < 1000000) :
  SC P w0 52 (encS b) (H [] 0 true) (kX b) (H [] 0 true) := by
 refine bs B hO f52 fun C k => ?_
 have hall := fun e s => zwv h83 hb hlen rfl e s
 unfold f52
 simp only [Ko, Kn, Kd, Ki, Kv, Km, Kr, opN]
 refine wu (k.eval (by simp (disch := first | exact dis | fail) only [go_sem, seval, -rO, -rN, encS]; exact rfl) ?_)
 simp only [xA]
 cases hA : allF b (b.length + 1) 0 [] with
 | inr i =>
  simp only [kX, pq, hA]
  simp only [allR, hA] at hall
  refine k.eval (by simp (disch := first | exact dis | fail) only [go_sem, seval, -rO, -rN, hall]; exact rfl) ?_
  try simp only [xA, xX, Cut, if_true]
  apply w7 (Or.inr rfl)
  iterate 5 (simp (disch := first | exact dis | fail) only [go_sem, seval, -rO, -rN] <;> exact rfl)
 | inl l =>
  have hl := Jh (by simp) (by simp) hA
  simp only [kX, pq, hA]
  simp only [allR, hA] at hall
  refine wu (k.eval (by simp (disch := first | exact dis | fail) only [go_sem, seval, -rO, -rN, hall]; exact rfl) ?_)
  simp only [xA]
  refine wu (k.eval (by simp (disch := first | exact dis | fail) only [go_sem, seval, -rO, -rN]; exact rfl) ?_)
  simp only [xA]
  refine wu (k.eval (by simp (disch := first | exact dis | fail) only [go_sem, seval, -rO, -rN]; exact rfl) ?_)
  simp only [xA]
  refine ul ⟨tmL [(6, accN 0 (l.map (·.1)))], []⟩ (H (j4 3 (l.map (·.1))) 0 true) ?_ ?_
  ·
   refine wu (k.eval (by simp (disch := first | exact dis | fail) only [go_sem, seval, -rO, -rN]; exact rfl) ?_)
   simp only [xA]
   refine xS (x6 (k.gcL [] [22, 21, 20, 6] true (fr1 := ⟨tmL [(22, .int .i64 (.ofNat 0)), (21, .int .i64 (.ofNat l.length)), (20, .lst l.length false (vw l)), (6, accN 0 [])], []⟩) (s1 := H (j4 3 []) 0 true) (by simp (disch := first | exact dis | fail) only [go_sem, seval, -rO, -rN, accN, j4]) ?_))
   refine wb (fun x : Nat × List Nat => l.length - x.1) (fun x => ⟨tmL [(22, .int .i64 (.ofNat x.1)), (21, .int .i64 (.ofNat l.length)), (20, .lst l.length false (vw l)), (6, accN 0 x.2)], []⟩) (fun x => H (j4 3 x.2) 0 true) (fun x => x.1 ≤ l.length ∧ x.2 = (l.take x.1).map (·.1)) (fun x hx => ?_) (0, []) ⟨zN _, rfl⟩
   obtain ⟨i, acc⟩ := x
   obtain ⟨g1, g2⟩ := hx
   simp only at g1 g2 ⊢
   rcases qA l i with ⟨hi, hd⟩ | ⟨⟨c, p⟩, hi, hd⟩
   ·have hlt : ¬ i < l.length := by omega
    rw [zI hi] at g2
    rw [← g2]
    cases acc with
    | nil =>
     refine k.eval (by simp (disch := first | exact dis | fail) only [go_sem, seval, -rO, -rN, accN, j4, hlt]; exact rfl) ?_
     try simp only [xA, xX, Cut]
     refine k.gcs (keep := []) (live := [6]) (md := true) ?_
     simp (disch := first | exact dis | fail) only [go_sem, seval, -rO, -rN, accN, j4]
    | cons a0 ar =>
     have hp1 := j9 (a0 :: ar)
     refine k.eval (by simp (disch := first | exact dis | fail) only [go_sem, seval, -rO, -rN, accN, j4, hlt]; exact rfl) ?_
     try simp only [xA, xX, Cut]
     refine k.gcs (keep := [0]) (live := [6]) (md := true) ?_
     simp (disch := first | exact dis | fail) only [go_sem, seval, -rO, -rN, accN, j4, hp1]
   ·have hdr : wK (i * 2) (vw l) = .int .i64 (.ofNat c) :: .int .i64 (.ofNat p) :: vw (l.drop (i + 1)) := by rw [Jx, hd, u6]
    have hnext : acc ++ [c] = (l.take (i + 1)).map (·.1) := by
     rw [List.take_add, hd, g2]; simp
    have hacc : acc.length = i := by rw [g2, List.length_map, List.length_take]; omega
    cases acc with
    | nil =>
     refine k.eval (by simp (disch := first | exact dis | fail) only [go_sem, seval, -rO, -rN, accN, j4, hi, hdr]; exact rfl) ?_
     try simp only [xA]
     refine ⟨(i + 1, [] ++ [c]), ⟨by simp only; omega, hnext⟩, by simp only; omega, ?_⟩
     refine k.gcs (keep := [1]) (live := [22, 21, 20, 6]) (md := true) ?_
     simp (disch := first | exact dis | fail) only [go_sem, seval, -rO, -rN, accN, j4, YJ, XQ]
    | cons a0 ar =>
     have hp1 := j9 (a0 :: ar)
     simp only [yY] at hacc
     refine k.eval (by simp (disch := first | exact dis | fail) only [go_sem, seval, -rO, -rN, accN, j4, hi, hdr]; exact rfl) ?_
     try simp only [xA]
     refine ⟨(i + 1, (a0 :: ar) ++ [c]), ⟨by simp only; omega, hnext⟩, by simp only; omega, ?_⟩
     refine k.gcs (keep := [2]) (live := [22, 21, 20, 6]) (md := true) ?_
     simp only [y8, accN, j4, YJ, zzI, ye, yY, yX]
     simp (disch := first | exact dis | fail) only [go_sem, seval, -rO, -rN, j9]
  ·generalize l.map (·.1) = m
   cases m with
   | nil =>
    refine k.eval (by simp (disch := first | exact dis | fail) only [go_sem, seval, -rO, -rN, accN, j4]; exact rfl) ?_
    try simp only [xA, xX, Cut, if_true]
    apply w7 (Or.inr rfl)
    iterate 5 (simp (disch := first | exact dis | fail) only [go_sem, seval, -rO, -rN, XQ] <;> exact rfl)
   | cons a0 ar =>
    have hp1 := j9 (a0 :: ar)
    refine k.eval (by simp (disch := first | exact dis | fail) only [go_sem, seval, -rO, -rN, accN, j4]; exact rfl) ?_
    try simp only [xA, xX, Cut, if_true]
    apply w7 (Or.inr rfl)
    iterate 5 (simp (disch := first | exact dis | fail) only [go_sem, seval, -rO, -rN, zzJ] <;> exact rfl)
def x8 (c : Nat) : Bool := decide (48 ≤ c) && decide (c ≤ 57)
def Yk (s : List Nat) : List Nat := match s with
 | [] => []
 | c :: r => if c = 45 then r else c :: r
def numS (s : List Nat) : Bool := match Yk s with
 | [] => false
 | c :: r => (decide (c ≠ 48) || eqS s [48]) && (c :: r).all x8
def ixF : Nat → List Nat → Int
 | _, [] => -1
 | i, c :: r => if x8 c = true then ixF (i + 1) r else .ofNat i
theorem UH : ∀ (i : Nat) (s : List Nat), (!ltD (ixF i s) (.ofNat 0)) = !s.all x8
 | i, [] => rfl
 | i, c :: r => by
  simp only [ixF, znP]
  cases hc : x8 c with
  | true => rw [if_pos rfl, UH (i + 1) r]; rfl
  | false =>
   rw [if_neg (by simp)]
   have : ltD (.ofNat i) (.ofNat 0) = false := by rw [UN]; exact decide_eq_false (by omega)
   rw [this]; rfl
theorem zpJ (a b : Bool) : vEqk .bool false (.bool a) (.bool b) = some (.bool (a == b)) := by cases a <;> cases b <;> rfl
theorem JF {y : Nat} (hy : 128 ≤ y) : ∀ r : List Nat, 128 ≤ (decL (y :: r)).1
 | [] => by rw [Um, if_neg (by omega)]; simp
 | [a] => by
  rw [XU, if_neg (by omega)]; split
  ·rename_i h; exact h.2.2
  ·simp
 | [a, b] => by
  rw [ZZ, if_neg (by omega)]; split
  ·rename_i h; exact h.2.2
  ·split
   ·rename_i h; have := h.2.2.2.1; simp only; omega
   ·simp
 | a :: b :: c :: r => by
  rw [gY, if_neg (by omega)]; split
  ·rename_i h; exact h.2.2
  ·split
   ·rename_i h; have := h.2.2.2.1; simp only; omega
   ·split
    ·rename_i h; have := h.2.2.2.2.1; simp only; omega
    ·simp
def encX (s : List Nat) : List AV := [.str s, .fn 81 [] [], .bool true]
theorem zvj : ∀ x y, encX x = encX y → x = y := fun x y h => by
 simp only [encX, yZ, AV.str.injEq, and_true] at h; exact h
theorem zyi (l : List Nat) : xz (encX l) = true := by simp only [encX, xw, qc, lm, vP, xD, y6]
noncomputable def gIx : List AV → St → Option (AV × St) := orc0 encX PreB (fun s => .int .i64 (ixF 0 s))
theorem PI (h : O 116 = some gIx) {l : List Nat} (hb : Byt l) (h2 : l.length < 1000000) (s : St) : (evW env O).call 116 [.str l, .fn 81 [] [], .bool true] s = some (.int .i64 (ixF 0 l), s) := by
 rw [xC h, gIx, we zvj s l ⟨hb, h2⟩ rfl]
attribute [local go_sem] encX Xq f81 zpJ in
theorem zo5 (B : Bx P w0) (hO : OrcOk P w0 O) (o81 : O 81 = none) (b : List Nat) (hb : Byt b) (hlen : b.length < 1000000) :
  SC P w0 116 (encX b) (H [] 0 true) (.int .i64 (ixF 0 b)) (H [] 0 true) := by
 refine bs B hO f116 fun C k => ?_
 have c81 := ci f81 o81
 unfold f116
 simp only [Ko, Ki, Km, Kr, opN]
 refine k.q ?_
 refine Qi (p := ixF 0 b = -1) ⟨tmL [], []⟩ (H [] 0 true) ?_ ?_
 ·refine k.q ?_
  refine xS (x6 (k.gcL [0] [10, 2, 1] true (fr1 := ⟨tmL [(10, .ptr 0 0), (2, .bool true), (1, .fn 81 [] [])], []⟩) (s1 := H [some (.siter b 0)] 0 true) (by simp (disch := first | exact dis | fail) only [go_sem, seval, -rO, -rN]) ?_))
  refine wb (fun i : Nat => b.length - i) (fun i => ⟨tmL [(10, .ptr 0 0), (2, .bool true), (1, .fn 81 [] [])], []⟩) (fun i => H [some (.siter b i)] 0 true) (fun i => i ≤ b.length ∧ ixF i (b.drop i) = ixF 0 b) (fun i hi => ?_) 0 ⟨zN _, rfl⟩
  obtain ⟨g1, g2⟩ := hi
  rcases qA b i with ⟨hi, hd⟩ | ⟨y, hi, hd⟩
  ·have hns := fun l n m hg => @UT l n m 0 i true b hg hd
   rw [hd] at g2
   refine k.z ?_
   simp only [CutP]
   refine ⟨g2.symm, ?_⟩
   exact k.g [] []
  ·have hns := fun l n m hg => @Xp l n m 0 i true b y _ hg hd
   rw [hd] at g2
   simp only [ixF] at g2
   by_cases h1 : y < 128
   ·rw [kZ h1] at hns
    simp only at hns
    by_cases h2 : y < 48
    ·rw [if_neg (by simp [x8]; omega)] at g2
     rw [← g2]
     refine k.z ?_
     simp only [CutP]
     exact fin
    ·by_cases h3 : 57 < y
     ·rw [if_neg (by simp [x8]; omega)] at g2
      rw [← g2]
      refine k.z ?_
      simp only [CutP]
      exact fin
     ·rw [if_pos (by simp [x8]; omega)] at g2
      refine k.z ?_
      refine ⟨i + 1, ⟨by omega, g2⟩, by omega, ?_⟩
      refine k.gcs (keep := [0]) (live := [10, 2, 1]) (md := true) ?_
      simp (disch := first | exact dis | fail) only [go_sem, seval, -rO, -rN]
   ·have hbig := JF (y := y) (by omega) (b.drop (i + 1))
    rw [if_neg (by simp [x8]; omega)] at g2
    rw [← g2]
    revert hns hbig
    generalize decL (y :: b.drop (i + 1)) = D
    obtain ⟨c, sz⟩ := D
    intro hns hbig
    simp only at hns hbig
    have h2 : ¬ c < 48 := by omega
    have h3 : 57 < c := by omega
    refine k.z ?_
    simp only [CutP]
    exact fin
 ·intro hp
  rw [hp]
  refine k.q ?_
  refine k.z ?_
  apply w7 (Or.inr rfl)
  iterate 3 (simp (disch := first | exact dis | fail) only [go_sem, seval, -rO, -rN]; exact rfl)
  ·simp (disch := first | exact dis | fail) only [go_sem, seval, -rO, -rN]; rfl
  ·simp (disch := first | exact dis | fail) only [go_sem, seval, -rO, -rN]
theorem ZF (c : Nat) (r : List Nat) (k : IntKind) : vSls (.str (c :: r)) (some (.int k (.ofNat 1))) none = some (.str r) := by
 simp only [vSls, bnd, x7, yY, xJ.2 (show 1 ≤ r.length + 1 by omega), cond_true, jb, jV, List.drop_succ_cons, List.drop_zero]
 rw [zI (by show r.length ≤ r.length + 1 - 1; omega)]
theorem ztQ (c : Nat) (r : List Nat) (k : IntKind) : vSls (.str (c :: r)) none (some (.int k (.ofNat 1))) = some (.str [c]) := by
 simp only [vSls, bnd, x7, yY, xJ.2 (show 1 ≤ r.length + 1 by omega), cond_true, jb, jV, List.drop_zero]
 rfl
theorem Z7 (c : Nat) (r : List Nat) : getS (c :: r) 0 = some c := rfl
noncomputable def J1 : List AV → St → Option (AV × St) := orc0 encS PreB (fun s => .bool (numS s))
theorem zy5 {f : Nat} (h : O f = some J1) {l : List Nat} (hb : Byt l) (h2 : l.length < 1000000) (s : St) : (evW env O).call f [.str l] s = some (.bool (numS l), s) := by
 rw [xC h, J1, we Zf s l ⟨hb, h2⟩ rfl]
attribute [local go_sem] encS f79 f98 f115 numS Yk ZF ztQ Z7 f80 f99 eqS in
theorem zzY (B : Bx P w0) (hO : OrcOk P w0 O) (o79 : O 79 = none) (o98 : O 98 = none) (o115 : O 115 = none) (o80 : O 80 = none) (o99 : O 99 = none) (h116 : O 116 = some gIx) (s : List Nat) (hb : Byt s) (hlen : s.length < 1000000) :
  SC P w0 50 (encS s) (H [] 0 true) (.bool (numS s)) (H [] 0 true) := by
 refine bs B hO f50 fun C k => ?_
 have c79 := ci f79 o79
 have c98 := ci f98 o98
 have c115 := ci f115 o115
 have c80 := ci f80 o80
 have c99 := ci f99 o99
 unfold f50
 simp only [Ko, Kg, Ki, Kj, KF, KT, Km, Kr, opN]
 match s, hb, hlen with
 | [], hb, hlen =>
  refine k.z ?_
  exact fin
 | c :: r, hb, hlen =>
  have hlr : r.length < 1000000 := by simp only [yY] at hlen; omega
  by_cases h45 : c = 45
  ·subst h45
   match r, hb, hlen, hlr with
   | [], hb, hlen, hlr =>
    refine k.z ?_
    exact fin
   | c2 :: r2, hb, hlen, hlr =>
    have hb2 : Byt (c2 :: r2) := hb.cons.2
    have hc2 : c2 < 256 := hb2 c2 (by simp)
    have hix := fun s => PI h116 hb2 hlr s
    have hal := UH 0 (c2 :: r2)
    have hm : numS (45 :: c2 :: r2) = (decide (c2 ≠ 48) && (c2 :: r2).all x8) := by
     simp only [numS, Yk, if_true, eqS]
     simp
    rw [hm]
    by_cases h48 : c2 = 48
    ·subst h48
     refine k.z ?_
     exact fin
    ·rw [decide_eq_true h48, yy]
     refine k.z ?_
     exact fin
  ·have hc : c < 256 := hb c (by simp)
   have hix := fun s => PI h116 hb hlen s
   have hal := UH 0 (c :: r)
   have hm : numS (c :: r) = ((decide (c ≠ 48) || eqS (c :: r) [48]) && (c :: r).all x8) := by
    simp only [numS, Yk, h45, if_false]
   rw [hm]
   by_cases h48 : c = 48
   ·subst h48
    cases r with
    | nil =>
     refine k.z ?_
     exact fin
    | cons c3 r3 =>
     refine k.z ?_
     exact fin
   ·rw [decide_eq_true h48, Bool.true_or, yy]
    refine k.z ?_
    exact fin
def okC (t : List Nat) : Bool := (pq t).isSome
def XE (k n : Int) (t : List Nat) : Bool :=
 if k = .ofNat 0 ∨ k = .ofNat 8 ∨ k = .ofNat 9 ∨ k = .ofNat 10 then true
 else if k = .ofNat 1 then eqD n (.ofNat 0) || eqD n (.ofNat 1)
 else if k = .ofNat 2 then numS t
 else if k = .ofNat 3 then isCh n
 else if k = .ofNat 4 then okC t
 else if k = .ofNat 5 then okC t && !decide (t = [])
 else false
def j6 (d : DT) : Bool := XE (xU d) (numD d) (xV d)
def mayN : Nat → DT → Bool
 | 0, _ => false
 | k + 1, d => match xQ d with
  | some p => mayN k p.1 && mayN k p.2
  | none => if xU d = .ofNat 7 then (qn d).all (mayN k) else decide ((qn d).length = 0) && j6 d
def mayD (d : DT) : Bool := mayN (xL d) d
theorem pj {α : Type} {f g : α → Bool} : ∀ {l : List α}, (∀ x ∈ l, f x = g x) → l.all f = l.all g
 | [], _ => rfl
 | x :: r, h => by simp only [znP, h x (by simp), pj (l := r) fun y hy => h y (by simp [hy])]
theorem kf : ∀ {k m : Nat} {d : DT}, xL d ≤ k → xL d ≤ m → mayN k d = mayN m d
 | 0, _, a, h, _ => by have := wh a; omega
 | _ + 1, 0, a, _, h => by have := wh a; omega
 | k + 1, m + 1, d, h, h' => by
  have hk := vM d
  have e : (qn d).all (mayN k) = (qn d).all (mayN m) := pj fun x hx => by
   have := qb hx
   exact kf (by omega) (by omega)
  simp only [mayN, e]
  cases hka : xQ d with
  | none => rfl
  | some p =>
   have := qC (x := p.1) (y := p.2) hka
   simp only
   rw [kf (k := k) (m := m) (d := p.1) (by omega) (by omega), kf (k := k) (m := m) (d := p.2) (by omega) (by omega)]
theorem Yj {x y : DT} (h : xQ d = some (x, y)) : mayD d = (mayD x && mayD y) := by
 have := qC h
 unfold mayD
 rw [kf (m := xL d + 1) (zq _) (by omega), mayN, h]
 simp only
 rw [kf (k := xL d) (m := xL x) (by omega) (zq _), kf (k := xL d) (m := xL y) (by omega) (zq _)]
theorem Yi (h : xQ d = none) : mayD d = if xU d = .ofNat 7 then (qn d).all mayD else decide ((qn d).length = 0) && j6 d := by
 have hk := vM d
 have e : (qn d).all (mayN (xL d)) = (qn d).all mayD := pj fun x hx => by
  have := qb hx
  exact kf (by omega) (zq _)
 unfold mayD at e ⊢
 rw [kf (m := xL d + 1) (zq _) (by omega), mayN, h, e]
mutual
def TxD : DT → Prop
 | .mk _ _ t ks _ => Byt t ∧ t.length < 1000000 ∧ TxL ks
def TxL : List DT → Prop
 | [] => True
 | d :: r => TxD d ∧ TxL r
end
theorem TxL.mem : ∀ {l : List DT} {d : DT}, TxL l → d ∈ l → TxD d
 | [], _, _, h => by cases h
 | x :: r, d, ht, h => by
  simp only [TxL] at ht
  rcases List.mem_cons.1 h with rfl | h
  ·exact ht.1
  ·exact TxL.mem ht.2 h
theorem TxD.kids {x y : DT} (ht : TxD d) (h : xQ d = some (x, y)) : TxD x ∧ TxD y := by
 obtain ⟨kd, n, t, ks, p⟩ := d
 obtain ⟨rfl, rfl⟩ := w6 h
 simp only [TxD, TxL] at ht
 exact ⟨ht.2.2.1, ht.2.2.2.1⟩
noncomputable def Po : List AV → St → Option (AV × St) := orc0 qK TxD (fun d => .bool (j6 d))
theorem zzw (h : O 26 = some Po) (ht : TxD d) (s : St) : (evW env O).call 26 [.agg (xT d)] s = some (.bool (j6 d), s) := by
 rw [xC h, Po, we px s d ht (Z0 d)]
attribute [local go_sem] qK encD xq true_or if_true or_true Option.isSome_none Option.isSome_some in
theorem zsz (B : Bx P w0) (hO : OrcOk P w0 O) (h50 : O 50 = some J1) (h51 : O 51 = some gIs) (h52 : O 52 = some UC) (d : DT) (ht : TxD d) :
  SC P w0 26 (qK d) (H [] 0 true) (.bool (j6 d)) (H [] 0 true) := by
 refine bs B hO f26 fun C k => ?_
 obtain ⟨kd, n, t, ks, p⟩ := d
 simp only [TxD] at ht
 have hnum := zy5 (f := 50) h50 ht.1 (by omega)
 have his := Pz h51 n
 have hco := G8 (f := 52) h52 ht.1 (by omega)
 unfold f26
 rw [show j6 (.mk kd n t ks p) = XE kd n t from rfl]
 unfold XE
 simp only
 by_cases k0 : kd = .ofNat 0
 ·subst k0
  refine k.z ?_
  exact fin
 by_cases k8 : kd = .ofNat 8
 ·subst k8
  refine k.z ?_
  exact fin
 by_cases k9 : kd = .ofNat 9
 ·subst k9
  refine k.z ?_
  exact fin
 by_cases k10 : kd = .ofNat 10
 ·subst k10
  refine k.z ?_
  exact fin
 rw [if_neg (by simp only [k0, k8, k9, k10, or_self, not_false_eq_true])]
 have e0 := vI k0
 have e8 := vI k8
 have e9 := vI k9
 have e10 := vI k10
 by_cases k1 : kd = .ofNat 1
 ·subst k1
  rw [if_pos rfl]
  cases h0 : eqD n (.ofNat 0) with
  | true =>
   refine k.z ?_
   exact fin
  | false =>
   refine k.z ?_
   exact fin
 rw [if_neg k1]
 have e1 := vI k1
 by_cases k2 : kd = .ofNat 2
 ·subst k2
  rw [if_pos rfl]
  refine k.z ?_
  exact fin
 rw [if_neg k2]
 have e2 := vI k2
 by_cases k3 : kd = .ofNat 3
 ·subst k3
  rw [if_pos rfl]
  refine k.z ?_
  exact fin
 rw [if_neg k3]
 have e3 := vI k3
 by_cases k4 : kd = .ofNat 4
 ·subst k4
  rw [if_pos rfl]
  simp only [kX] at hco
  simp only [okC]
  cases hc : pq t with
  | none =>
   rw [hc] at hco
   refine k.z ?_
   exact fin
  | some l =>
   rw [hc] at hco
   refine k.z ?_
   exact fin
 rw [if_neg k4]
 have e4 := vI k4
 by_cases k5 : kd = .ofNat 5
 ·subst k5
  rw [if_pos rfl]
  simp only [kX] at hco
  simp only [okC]
  cases hc : pq t with
  | none =>
   rw [hc] at hco
   refine k.z ?_
   exact fin
  | some l =>
   rw [hc] at hco
   refine k.z ?_
   exact fin
 rw [if_neg k5]
 have e5 := vI k5
 refine k.z ?_
 exact fin
noncomputable def gMay (N : Nat) : List AV → St → Option (AV × St) := orc0 qK (fun d => TxD d ∧ xL d < N) (fun d => .bool (mayD d))
theorem Zu {f N : Nat} (h : O f = some (gMay N)) (ht : TxD d) (hn : xL d < N) (s : St) : (evW env O).call f [.agg (xT d)] s = some (.bool (mayD d), s) := by
 rw [xC h, gMay, we px s d ⟨ht, hn⟩ (Z0 d)]
def ixM : Nat → List DT → Int
 | _, [] => -1
 | i, d :: r => if mayD d = true then ixM (i + 1) r else .ofNat i
theorem lM {kd n : Int} {t : List Nat} {ks : List DT} {p : Int} (h : xQ (.mk kd n t ks p) = none) : mayD (.mk kd n t ks p) = if kd = .ofNat 7 then ks.all mayD else decide (ks.length = 0) && j6 (.mk kd n t ks p) := Yi h
theorem PH : ∀ (i : Nat) (s : List DT), (!ltD (ixM i s) (.ofNat 0)) = !s.all mayD
 | i, [] => rfl
 | i, c :: r => by
  simp only [ixM, znP]
  cases hc : mayD c with
  | true => rw [if_pos rfl, PH (i + 1) r]; rfl
  | false =>
   rw [if_neg (by simp)]
   have : ltD (.ofNat i) (.ofNat 0) = false := by rw [UN]; exact decide_eq_false (by omega)
   rw [this]; rfl
def Zd (x : List DT) : List AV := [.lst x.length false (xv x), .fn 25 [] []]
theorem zz8 : ∀ x y, Zd x = Zd y → x = y := fun a b h => by
 simp only [Zd, yZ, AV.lst.injEq, true_and, and_true] at h
 exact uq h.2
theorem Hr (x : List DT) : xz (Zd x) = true := by simp only [Zd, xw, wi, lm, xD, y6]
noncomputable def gIxm (N : Nat) : List AV → St → Option (AV × St) := orc0 Zd (fun l => TxL l ∧ x5 l < N) (fun l => .int .i64 (ixM 0 l))
theorem zuv {N : Nat} (h : O 49 = some (gIxm N)) {l : List DT} (ht : TxL l) (hn : x5 l < N) (s : St) : (evW env O).call 49 [.lst l.length false (xv l), .fn 25 [] []] s = some (.int .i64 (ixM 0 l), s) := by
 rw [xC h, gIxm, we zz8 s l ⟨ht, hn⟩ (by simp only [Zd, wkL, wkV, w4])]
attribute [local go_sem] Zd qJ xq f25 in
theorem zp2 (B : Bx P w0) (hO : OrcOk P w0 O) (o25 : O 25 = none) {N : Nat} (h11 : O 11 = some (gMay N)) (hN : N ≤ 100000) (l : List DT) (ht : TxL l) (hn : x5 l < N) :
  SC P w0 49 (Zd l) (H [] 0 true) (.int .i64 (ixM 0 l)) (H [] 0 true) := by
 refine bs B hO f49 fun C k => ?_
 have c25 := ci f25 o25
 have hll := uu l
 unfold f49
 simp only [Ko, Ki, Km, Kr, opN]
 refine k.q ?_
 refine Qi (p := ixM 0 l = -1) ⟨tmL [], []⟩ (H [] 0 true) ?_ ?_
 ·refine k.q ?_
  refine xS (x6 (k.gcL [] [8, 7, 1, 0] true (fr1 := ⟨tmL [(8, .int .i64 (.ofNat 0)), (7, .int .i64 (.ofNat l.length)), (1, .fn 25 [] []), (0, .lst l.length false (xv l))], []⟩) (s1 := H [] 0 true) (by simp (disch := first | exact dis | fail) only [go_sem, seval, -rO, -rN]) ?_))
  refine wb (fun i : Nat => l.length - i) (fun i => ⟨tmL [(8, .int .i64 (.ofNat i)), (7, .int .i64 (.ofNat l.length)), (1, .fn 25 [] []), (0, .lst l.length false (xv l))], []⟩) (fun _ => H [] 0 true) (fun i => i ≤ l.length ∧ ixM i (l.drop i) = ixM 0 l) (fun i hi => ?_) 0 ⟨zN _, rfl⟩
  obtain ⟨g1, g2⟩ := hi
  rcases qA l i with ⟨hi, hd⟩ | ⟨x, hi, hd⟩
  ·have hlt : ¬ i < l.length := by omega
   rw [hd] at g2
   refine k.z ?_
   simp only [CutP]
   refine ⟨g2.symm, ?_⟩
   exact k.g [] []
  ·have hmem : x ∈ l := znS (by rw [hd]; exact List.mem_cons_self)
   have hnx : xL x < N := by have := qb hmem; omega
   have hc := Zu (f := 11) h11 (ht.mem hmem) hnx
   have hdr : wK (i * 5) (xv l) = xT x ++ xv (l.drop (i + 1)) := by rw [qV, hd, xM]
   rw [hd] at g2
   simp only [ixM] at g2
   obtain ⟨xk, xn, xt, xks, xp⟩ := x
   simp only [xq] at hc
   cases hsm : mayD (.mk xk xn xt xks xp) with
   | true =>
    rw [hsm] at hc g2
    rw [if_pos rfl] at g2
    refine k.z ?_
    refine ⟨i + 1, ⟨by omega, g2⟩, by omega, ?_⟩
    refine k.gcs (keep := []) (live := [8, 7, 1, 0]) (md := true) ?_
    simp (disch := first | exact dis | fail) only [go_sem, seval, -rO, -rN]
   | false =>
    rw [hsm] at hc g2
    rw [if_neg (by simp)] at g2
    rw [← g2]
    refine k.eval (by simp (disch := first | exact dis | fail) only [go_sem, seval, -rO, -rN, hi, hdr, xq, c25, f25, hc]; exact rfl) ?_
    try simp only [xA, xX]
    simp only [CutP]
    exact fin
 ·intro hp
  rw [hp]
  refine k.q ?_
  refine k.z ?_
  apply w7 (Or.inr rfl)
  iterate 3 (simp (disch := first | exact dis | fail) only [go_sem, seval, -rO, -rN]; exact rfl)
  ·simp (disch := first | exact dis | fail) only [go_sem, seval, -rO, -rN]; rfl
  ·simp (disch := first | exact dis | fail) only [go_sem, seval, -rO, -rN]
attribute [local go_sem] qK encD drow xq f23 kU qJ jv f24 in
theorem zp6 (B : Bx P w0) (hO : OrcOk P w0 O) (o23 : O 23 = none) (o24 : O 24 = none) (h26 : O 26 = some Po) {N : Nat} (h49 : O 49 = some (gIxm N)) (h11 : O 11 = some (gMay N)) (d0 : DT) (ht : TxD d0) (hN : xL d0 < N + 1) :
  SC P w0 11 (qK d0) (H [] 0 true) (.bool (mayD d0)) (H [] 0 true) := by
 refine bs B hO f11 fun C k => ?_
 have cpair := ci f23 o23
 have c24 := ci f24 o24
 generalize hres : mayD d0 = res
 unfold f11
 simp only [Ko, Kg, Kn, Ki, KF, Km, Kr, opN]
 refine k.q ?_
 refine vQ (fun d : DT => mayD d = res ∧ xQ d = none ∧ TxD d ∧ xL d < N + 1) (fun _ => ⟨tmL [(1, .ptr 0 0)], []⟩) (fun d => H [some (drow d)] 0 true) (xS (x6 (k.gcL [0] [1] true (fr1 := ⟨tmL [(1, .ptr 0 0)], []⟩) (s1 := H [some (drow d0)] 0 true) (by simp (disch := first | exact dis | fail) only [go_sem, seval, -rO, -rN, drow, wB]) ?_))) ?_
 ·refine wb (fun d : DT => xL d) (fun _ => ⟨tmL [(1, .ptr 0 0)], []⟩) (fun d => H [some (drow d)] 0 true) (fun d => mayD d = res ∧ TxD d ∧ xL d < N + 1) (fun d hx => ?_) d0 ⟨hres, ht, hN⟩
  obtain ⟨kd, n, t, ks, p⟩ := d
  obtain ⟨g1, g2, g3⟩ := hx
  cases hka : xQ (.mk kd n t ks p) with
  | none =>
   rcases US hka with he | ⟨rfl, hl⟩
   ·refine k.z ?_
    simp only [Gcx]
    refine ⟨.mk kd n t ks p, ⟨g1, hka, g2, g3⟩, ?_⟩
    exact k.g [0] [1]
   ·refine k.z ?_
    simp only [Gcx]
    refine ⟨.mk (.ofNat 6) n t ks p, ⟨g1, hka, g2, g3⟩, ?_⟩
    exact k.g [0] [1]
  | some xy =>
   obtain ⟨⟨xk, xn, xt, xks, xp⟩, ⟨yk, yn, yt, yks, yp⟩⟩ := xy
   have hna := qC hka
   have hpt := g2.kids hka
   rw [Yj hka] at g1
   obtain ⟨rfl, rfl⟩ := w6 hka
   have hc := Zu (f := 11) h11 hpt.1 (by have := wh (.mk yk yn yt yks yp); omega)
   simp only [xq] at hc
   cases hsm : mayD (.mk xk xn xt xks xp) with
   | true =>
    rw [hsm] at hc g1
    refine k.z ?_
    refine ⟨.mk yk yn yt yks yp, ⟨by rw [← g1, yy], hpt.2, by omega⟩, by omega, ?_⟩
    exact k.g [0] [1]
   | false =>
    rw [hsm] at hc g1
    refine k.z ?_
    simp only [Gcx]
    rw [← g1]
    apply w7 (Or.inr rfl)
    iterate 5 (simp (disch := first | exact dis | fail) only [go_sem, seval, -rO, -rN] <;> exact rfl)
 ·rintro ⟨kd, n, t, ks, p⟩ ⟨g1, g2, g3, g4⟩
  rw [lM g2] at g1
  have hb := zzw h26 g3
  simp only [xq] at hb
  simp only [TxD] at g3
  have hn := vM (.mk kd n t ks p)
  simp only [qn] at hn
  by_cases k7 : kd = .ofNat 7
  ·subst k7
   rw [if_pos rfl] at g1
   have hix := zuv h49 g3.2.2 (by omega)
   have hal := PH 0 ks
   refine k.z ?_
   exact fin
  ·rw [if_neg k7] at g1
   have e7 := vI k7
   by_cases hl : ks.length = 0
   ·rw [decide_eq_true hl, yy] at g1
    rw [g1] at hb
    rw [hl] at hb
    refine k.z ?_
    exact fin
   ·rw [decide_eq_false hl, Bool.false_and] at g1
    subst g1
    refine k.z ?_
    exact fin
def mayE (d : DT) : Bool := if xU d = .ofNat 7 then (qn d).all mayD else decide ((qn d).length = 0) && j6 d
theorem WD : ∀ (k : Nat) (d : DT), xL d < k → mayD d = ((xr d).1.all mayD && mayE (xr d).2)
 | 0, d, h => by omega
 | k + 1, d, h => by
  cases hk : xQ d with
  | none =>
   rw [w5 hk, Yi hk]
   rfl
  | some p =>
   obtain ⟨x, y⟩ := p
   have hn := qC hk
   have ih := WD k y (by have := wh x; omega)
   rw [wC hk, Yj hk, ih]
   simp only [znP, Bool.and_assoc]
theorem zzr (d : DT) (ht : TxD d) : TxL (xr d).1 ∧ TxD (xr d).2 := by
 have key : ∀ (k : Nat) (d : DT), xL d < k → TxD d → TxL (xr d).1 ∧ TxD (xr d).2 := by
  intro k
  induction k with
  | zero => intro d h; omega
  | succ k ih =>
   intro d h ht
   cases hk : xQ d with
   | none => rw [w5 hk]; exact ⟨by simp only [TxL], ht⟩
   | some xy =>
    obtain ⟨x, y⟩ := xy
    have h2 := qC hk
    have h3 := ht.kids hk
    have := ih y (by have := wh x; omega) h3.2
    rw [wC hk]
    exact ⟨by simp only [TxL]; exact ⟨h3.1, this.1⟩, this.2⟩
 exact key _ d (yw _) ht
def hexD (n : Nat) : Nat := if n < 10 then 48 + n else 87 + n
def hexS (c : Nat) : List Nat := if c < 16 then [hexD c] else [hexD (c / 16), hexD (c % 16)]
def uB (c : Nat) : Bool := decide (c < 32) || decide (c = 127)
def wN (c : Nat) : List Nat := if c = 32 then [115, 112, 97, 99, 101] else if c = 10 then [110, 101, 119, 108, 105, 110, 101] else if c = 9 then [116, 97, 98] else if uB c = true then 120 :: hexS c else encC c
def wg (c : Nat) : List Nat := if c = 34 ∨ c = 92 then 92 :: encC c else if c = 10 then [92, 110] else if c = 9 then [92, 116] else if uB c = true then 92 :: 120 :: (hexS c ++ [59]) else encC c
theorem Wv {c : Nat} (h : uB c = true) : c < 128 := by
 simp [uB] at h; omega
def encF (c : Nat) : List AV := [.int .i64 (.ofNat c), .int .i64 (.ofNat 16)]
theorem zve : ∀ x y, encF x = encF y → x = y := fun x y h => by
 simp only [encF, yZ, AV.int.injEq, true_and, and_true] at h; cases h; rfl
noncomputable def gFmt : List AV → St → Option (AV × St) := orc0 encF (fun c => uB c = true) (fun c => .str (hexS c))
theorem JZ (h : O 73 = some gFmt) {c : Nat} (hc : uB c = true) (s : St) : (evW env O).call 73 [.int .i64 (.ofNat c), .int .i64 (.ofNat 16)] s = some (.str (hexS c), s) := by
 rw [xC h, gFmt, we zve s c hc rfl]
theorem zpY : (List.range 128).all (fun c => !uB c || okV (.str (hexS c)) ((evT env noO 1000).call 73 [.int .i64 (.ofNat c), .int .i64 (.ofNat 16)] s0)) = true := by decide +kernel
theorem zyE (B : Bx P w0) (hO : OrcOk P w0 O) : OrcOk P w0 (withG 73 gFmt O) :=
 hO.withG w9 (v5 false (fun _ => rfl) (fun _ => rfl) fun c hc => WZ (qu P w0) B.mixed B.glob B.env (by
  have := List.all_eq_true.1 zpY c (List.mem_range.2 (Wv hc))
  rw [hc, Bool.not_true, Bool.false_or] at this; exact this))
def v8 (c : Nat) : List Nat := if c < 10 then [48 + c] else if c < 100 then [48 + c / 10, 48 + c % 10] else [48 + c / 100, 48 + c / 10 % 10, 48 + c % 10]
noncomputable def J0 : List AV → St → Option (AV × St) := orc0 encN (fun c => c < 256) (fun c => .str (v8 c))
theorem zyT {f : Nat} (h : O f = some J0) {c : Nat} (hc : c < 256) (s : St) : (evW env O).call f [.int .i64 (.ofNat c)] s = some (.str (v8 c), s) := by
 rw [xC h, J0, we JM s c hc rfl]
theorem zrK : (List.range 256).all (fun c => okV (.str (v8 c)) ((evT env noO 1000).call 76 [.int .i64 (.ofNat c)] s0)) = true := by decide +kernel
theorem HR (B : Bx P w0) (hO : OrcOk P w0 O) : OrcOk P w0 (withG 76 J0 O) :=
 hO.withG w9 (v5 false (fun _ => rfl) (fun _ => rfl) fun c hc => WZ (qu P w0) B.mixed B.glob B.env (List.all_eq_true.1 zrK c (List.mem_range.2 hc)))
theorem LF (k : IntKind) (c : Nat) : vCis (.int k (.ofNat c)) = some (.str (encC (bif xB c then c else 65533))) := rfl
noncomputable def Z5 : List AV → St → Option (AV × St) := orc0 encN (fun c => xB c = true) (fun c => .str (wN c))
theorem WF {f : Nat} (h : O f = some Z5) {c : Nat} (hc : xB c = true) (s : St) : (evW env O).call f [.int .i64 (.ofNat c)] s = some (.str (wN c), s) := by
 rw [xC h, Z5, we JM s c hc rfl]
theorem Zq (c : Nat) : (hexS c).length ≤ 2 := by unfold hexS; split <;> simp
attribute [local go_sem] encN LF in
theorem zuT (B : Bx P w0) (hO : OrcOk P w0 O) (h73 : O 73 = some gFmt) (c : Nat) (hv : xB c = true) :
  SC P w0 37 (encN c) (H [] 0 true) (.str (wN c)) (H [] 0 true) := by
 refine bs B hO f37 fun C k => ?_
 have hm := (xH.1 hv).1
 have hl := Zq c
 unfold f37
 simp only [wN]
 by_cases c1 : c = 32
 ·subst c1
  refine k.z ?_
  exact fin
 rw [if_neg c1]
 by_cases c2 : c = 10
 ·subst c2
  refine k.z ?_
  exact fin
 rw [if_neg c2]
 by_cases c3 : c = 9
 ·subst c3
  refine k.z ?_
  exact fin
 rw [if_neg c3]
 cases hc : uB c with
 | true =>
  have hf := JZ h73 hc
  rw [if_pos rfl]
  by_cases c4 : c < 32
  ·refine k.z ?_
   exact fin
  ·obtain rfl : c = 127 := by simp [uB] at hc; omega
   refine k.z ?_
   exact fin
 | false =>
  rw [if_neg (by simp)]
  have c4 : ¬ c < 32 := fun h => by simp [uB] at hc; omega
  have c5 : ¬ c = 127 := fun h => by simp [uB] at hc; omega
  refine k.z ?_
  exact fin
def encR (c : Nat) : List AV := [.int .i32 (.ofNat c)]
theorem zvi : ∀ x y, encR x = encR y → x = y := fun x y h => by
 simp only [encR, yZ, AV.int.injEq, true_and, and_true] at h; cases h; rfl
noncomputable def gQuo : List AV → St → Option (AV × St) := orc0 encR (fun c => xB c = true) (fun c => .str (wg c))
theorem Gd (h : O 75 = some gQuo) {c : Nat} (hc : xB c = true) (s : St) : (evW env O).call 75 [.int .i32 (.ofNat c)] s = some (.str (wg c), s) := by
 rw [xC h, gQuo, we zvi s c hc rfl]
attribute [local go_sem] encR LF true_or or_true if_true in
theorem zoc (B : Bx P w0) (hO : OrcOk P w0 O) (h73 : O 73 = some gFmt) (c : Nat) (hv : xB c = true) :
  SC P w0 75 (encR c) (H [] 0 true) (.str (wg c)) (H [] 0 true) := by
 refine bs B hO f75 fun C k => ?_
 have hm := (xH.1 hv).1
 have hl := Zq c
 have hcl := wS c
 unfold f75
 simp only [wg]
 by_cases c0 : c = 34
 ·subst c0
  refine k.z ?_
  exact fin
 by_cases c9 : c = 92
 ·subst c9
  refine k.z ?_
  exact fin
 rw [if_neg (by omega)]
 by_cases c2 : c = 10
 ·subst c2
  refine k.z ?_
  exact fin
 rw [if_neg c2]
 by_cases c3 : c = 9
 ·subst c3
  refine k.z ?_
  exact fin
 rw [if_neg c3]
 cases hc : uB c with
 | true =>
  have hf := JZ h73 hc
  rw [if_pos rfl]
  by_cases c4 : c < 32
  ·refine k.z ?_
   exact fin
  ·obtain rfl : c = 127 := by simp [uB] at hc; omega
   refine k.z ?_
   exact fin
 | false =>
  rw [if_neg (by simp)]
  have c4 : ¬ c < 32 := fun h => by simp [uB] at hc; omega
  have c5 : ¬ c = 127 := fun h => by simp [uB] at hc; omega
  refine k.z ?_
  exact fin
theorem kR (c : Nat) : xo [c] = [.int .u8 (.ofNat c)] := rfl
theorem gL (l : List (Nat × Option AObj)) (n m e len : Nat) (hd : List (Nat × Nat)) (on : Option (Nat × List Nat)) (cs : List AV) : oBsl (KL l n m false hd on) e len (some cs) = some (.sl n 0 len (.fix len), KL ((n, some (.row e cs false false)) :: l) (n + 1) m false hd on) := rfl
theorem ju {l : List (Nat × Option AObj)} {m t : Nat} {b x fz : Bool} {new : List Nat} {c : Cap} (hg : getA l id = some (.row t (xo new) x fz)) : qI (KL l n m b [] none) 1 new.length (.sl id 0 new.length c) = some (xo new) := by
 simp only [qI, w8, hg]; exact ZY new
theorem ZP (o41 : O 41 = none) (o72 : O 72 = none) (l : List (Nat × Option AObj)) (n m id j : Nat) (b : Bool) (out : List Nat) (disp : Bool) (c : Nat) (hc : c < 256) (ho : out.length < 1000000) (ne : id ≠ j) (hi : id < n) (hj : j < n)
  (hw : getA l id = some (.row 54 [.ptr id 0, .sl j 0 out.length (.opn 1), .bool disp] false false)) (hb : getA l j = some (.row 5 (xo out) true false)) :
  (evW env O).call 41 [.ptr id 0, .int .u8 (.ofNat c)] (KL l n m b [] none) = some (.nili, KL ((id, some (.row 54 [.ptr id 0, .sl (n + 1) 0 (out ++ [c]).length (.opn 1), .bool disp] false false)) :: (n + 1, some (.row 5 (xo (out ++ [c])) true false)) :: (j, none) :: (n, some (.row 5 (xo [c]) false false)) :: l) (n + 2) (mark (mark m j) id) b [] none) := by
 have c41 := ciw f41 o41
 have c72 := ci f72 o72
 have ne' : ¬ j = id := fun e => ne e.symm
 have n1 : ¬ id = n := by omega
 have n2 : ¬ j = n := by omega
 have n3 : ¬ id = n + 1 := by omega
 have ap := @Ue ((n, some (.row 5 (xo [c]) false false)) :: l) (n + 1) m 5 j false (.sl n 0 1 (.fix 1)) out [c] (by rw [uA, if_neg n2]; exact hb) rfl (by simp) (ju (by rw [uA, if_pos rfl])) (by simp; omega)
 simp only [kR] at ap ⊢
 simp (disch := first | exact dis | fail) only [go_sem, seval, -rO, -rN, c41, f41, c72, f72, hw, ne, n1, n3, X8, X9, ap, Nat.zero_mod, decide_true, gL]
theorem V1 : ∀ s : List Nat, ZI s.length s = s
 | [] => rfl
 | x :: r => by simp only [yY, ZI, V1 r]
theorem ZG (s : St) (t : List Nat) : qI s 1 t.length (.str t) = some (xo t) := by
 simp only [qI, xF.2 (rfl : (1 : Nat) = 1), cond_true, V1]
theorem Xv (o36 : O 36 = none) (o72 : O 72 = none) (l : List (Nat × Option AObj)) (n m id j : Nat) (b : Bool) (out : List Nat) (disp : Bool) (s : List Nat) (hs : s ≠ []) (ho : out.length < 1000000) (hsl : s.length < 1000000) (ne : id ≠ j) (hi : id < n) (hj : j < n)
  (hw : getA l id = some (.row 54 [.ptr id 0, .sl j 0 out.length (.opn 1), .bool disp] false false)) (hb : getA l j = some (.row 5 (xo out) true false)) :
  (evW env O).call 36 [.ptr id 0, .str s] (KL l n m b [] none) = some (.tup [.int .i64 (.ofNat s.length), .nili], KL ((id, some (.row 54 [.ptr id 0, .sl n 0 (out ++ s).length (.opn 1), .bool disp] false false)) :: (n, some (.row 5 (xo (out ++ s)) true false)) :: (j, none) :: l) (n + 1) (mark (mark m j) id) b [] none) := by
 have c36 := ciw f36 o36
 have c72 := ci f72 o72
 have ne' : ¬ j = id := fun e => ne e.symm
 have n1 : ¬ id = n := by omega
 have n2 : ¬ j = n := by omega
 have ap := @Ue l n m 5 j false (.str s) out s hb (Qb s) hs (ZG _ s) (by simp; omega)
 simp (disch := first | exact dis | fail) only [go_sem, seval, -rO, -rN, c36, f36, c72, f72, hw, ne, n1, X8, X9, ap, Nat.zero_mod, decide_true]
theorem U9 {l : List (Nat × Option AObj)} {n m id t : Nat} {b x fz : Bool} {c0 : AV} {cs : List AV} (hg : getA l id = some (.row t (c0 :: cs) x fz)) : vCup (KL l n m b [] none) (.ptr id 0) = some (.ptr id 0) := by
 simp only [vCup, w8, hg, x7]; rfl
theorem LG {l : List (Nat × Option AObj)} {n m id : Nat} {b fz : Bool} {c0 c1 c2 : AV} (hg : getA l id = some (.row 54 [c0, c1, c2] false fz)) : vCpu (KL l n m b [] none) [(51, 2), (52, 2), (53, 3), (54, 3)] (.ptr id 0) = some (.ptr id 0) := by
 simp only [vCpu, w8, hg, x7]; rfl
theorem GN (o41 : O 41 = none) (o72 : O 72 = none) (l : List (Nat × Option AObj)) (n m id : Nat) (b : Bool) (disp : Bool) (c : Nat) (hc : c < 256) (hi : id < n)
  (hw : getA l id = some (.row 54 [.nilp, .nils, .bool disp] false false)) :
  (evW env O).call 41 [.ptr id 0, .int .u8 (.ofNat c)] (KL l n m b [] none) = some (.nili, KL ((id, some (.row 54 [.ptr id 0, .sl (n + 1) 0 1 (.opn 1), .bool disp] false false)) :: (n + 1, some (.row 5 (xo [c]) true false)) :: (n, some (.row 5 (xo [c]) false false)) :: (id, some (.row 54 [.ptr id 0, .nils, .bool disp] false false)) :: l) (n + 2) (mark (mark m id) id) b [] none) := by
 have c41 := ciw f41 o41
 have c72 := ci f72 o72
 have n1 : ¬ id = n := by omega
 have n3 : ¬ id = n + 1 := by omega
 have hm : ¬ (1 <<< id) % 2 ^ n = 0 := by
  rw [Nat.shiftLeft_eq, Nat.one_mul, znL (znT (by omega) hi)]
  exact Nat.ne_of_gt (Nat.two_pow_pos id)
 have q1 := fun m b => @U9 l n m id _ b _ _ _ _ hw
 have q2 := fun m b => @LG l n m id b _ _ _ _ hw
 have ap := @Ud ((n, some (.row 5 (xo [c]) false false)) :: (id, some (.row 54 [.ptr id 0, .nils, .bool disp] false false)) :: l) (n + 1) (m ||| 1 <<< id) 5 (.sl n 0 1 (.fix 1)) [c] rfl (by simp) (ju (by rw [uA, if_pos rfl])) (by simp)
 simp only [kR, yY, yX, yx] at ap
 simp (disch := first | exact dis | fail) only [go_sem, seval, -rO, -rN, c41, f41, c72, f72, hw, n1, n3, Us, decide_true, gL, q1, q2, ap, znU, hm]
theorem GS (o36 : O 36 = none) (o72 : O 72 = none) (l : List (Nat × Option AObj)) (n m id : Nat) (b : Bool) (disp : Bool) (s : List Nat) (hs : s ≠ []) (hsl : s.length < 1000000) (hi : id < n)
  (hw : getA l id = some (.row 54 [.nilp, .nils, .bool disp] false false)) :
  (evW env O).call 36 [.ptr id 0, .str s] (KL l n m b [] none) = some (.tup [.int .i64 (.ofNat s.length), .nili], KL ((id, some (.row 54 [.ptr id 0, .sl n 0 s.length (.opn 1), .bool disp] false false)) :: (n, some (.row 5 (xo s) true false)) :: (id, some (.row 54 [.ptr id 0, .nils, .bool disp] false false)) :: l) (n + 1) (mark (mark m id) id) b [] none) := by
 have c36 := ciw f36 o36
 have c72 := ci f72 o72
 have n1 : ¬ id = n := by omega
 have hm : ¬ (1 <<< id) % 2 ^ n = 0 := by
  rw [Nat.shiftLeft_eq, Nat.one_mul, znL (znT (by omega) hi)]
  exact Nat.ne_of_gt (Nat.two_pow_pos id)
 have q1 := fun m b => @U9 l n m id _ b _ _ _ _ hw
 have q2 := fun m b => @LG l n m id b _ _ _ _ hw
 have ap := @Ud ((id, some (.row 54 [.ptr id 0, .nils, .bool disp] false false)) :: l) n (m ||| 1 <<< id) 5 (.str s) s (Qb s) hs (ZG _ s) (by omega)
 simp (disch := first | exact dis | fail) only [go_sem, seval, -rO, -rN, c36, f36, c72, f72, hw, n1, Us, decide_true, q1, q2, ap, znU, hm]
theorem zpq {a : Nat} (h : a < 32) : binI .or .u8 (.ofNat 192) .u8 (.ofNat a) = some (.int .u8 (.ofNat (192 + a))) := by
 have : ∀ a, a < 32 → bits .or .u8 (.ofNat 192) (.ofNat a) = some (.ofNat (192 + a)) := by decide +kernel
 show (match bits .or .u8 (.ofNat 192) (.ofNat a) with | some n => some (AV.int .u8 n) | none => none) = _
 rw [this a h]
theorem zzf {a : Nat} (h : a < 16) : binI .or .u8 (.ofNat 224) .u8 (.ofNat a) = some (.int .u8 (.ofNat (224 + a))) := by
 have : ∀ a, a < 16 → bits .or .u8 (.ofNat 224) (.ofNat a) = some (.ofNat (224 + a)) := by decide +kernel
 show (match bits .or .u8 (.ofNat 224) (.ofNat a) with | some n => some (AV.int .u8 n) | none => none) = _
 rw [this a h]
theorem zpr {a : Nat} (h : a < 8) : binI .or .u8 (.ofNat 240) .u8 (.ofNat a) = some (.int .u8 (.ofNat (240 + a))) := by
 have : ∀ a, a < 8 → bits .or .u8 (.ofNat 240) (.ofNat a) = some (.ofNat (240 + a)) := by decide +kernel
 show (match bits .or .u8 (.ofNat 240) (.ofNat a) with | some n => some (AV.int .u8 n) | none => none) = _
 rw [this a h]
theorem Y5 {a : Nat} (h : a < 64) : binI .or .u8 (.ofNat 128) .u8 (.ofNat a) = some (.int .u8 (.ofNat (128 + a))) := by
 have : ∀ a, a < 64 → bits .or .u8 (.ofNat 128) (.ofNat a) = some (.ofNat (128 + a)) := by decide +kernel
 show (match bits .or .u8 (.ofNat 128) (.ofNat a) with | some n => some (AV.int .u8 n) | none => none) = _
 rw [this a h]
theorem Xc (a : Nat) : binI .shr .i32 (.ofNat a) .u64 (.ofNat 6) = some (.int .i32 (.ofNat (a / 64))) := by
 show some (AV.int .i32 (znV (.ofNat a) (.ofNat 64))) = _
 cases a <;> rfl
theorem Yw (a : Nat) : binI .shr .i32 (.ofNat a) .u64 (.ofNat 12) = some (.int .i32 (.ofNat (a / 4096))) := by
 show some (AV.int .i32 (znV (.ofNat a) (.ofNat 4096))) = _
 cases a <;> rfl
theorem ztL (a : Nat) : binI .shr .i32 (.ofNat a) .u64 (.ofNat 18) = some (.int .i32 (.ofNat (a / 262144))) := by
 show some (AV.int .i32 (znV (.ofNat a) (.ofNat 262144))) = _
 cases a <;> rfl
theorem um (a : Nat) : vq .u8 (.ofNat a) = .ofNat (a % 256) := by
 show (bif Nat.blt a 256 then zE a else IntKind.wrap .u8 (zE a)) = _
 rw [uG]
 split
 ·rw [znL (by assumption)]
 ·have h1 : ((a : Nat) : Int) % (2 ^ IntKind.bits .u8 : Int) = ((a % 256 : Nat) : Int) := by
   show (a : Int) % 256 = _
   omega
  unfold IntKind.wrap
  simp only [show zE a = (a : Int) from rfl, h1]
  rfl
theorem XK (a b : Nat) : xo [a, b] = [.int .u8 (.ofNat a), .int .u8 (.ofNat b)] := rfl
theorem pZ (a b c : Nat) : xo [a, b, c] = [.int .u8 (.ofNat a), .int .u8 (.ofNat b), .int .u8 (.ofNat c)] := rfl
theorem YH (a b c d : Nat) : xo [a, b, c, d] = [.int .u8 (.ofNat a), .int .u8 (.ofNat b), .int .u8 (.ofNat c), .int .u8 (.ofNat d)] := rfl
theorem mm64 (a : Nat) : a % 256 % 64 = a % 64 := by omega
theorem LY (o74 : O 74 = none) (o96 : O 96 = none) (l : List (Nat × Option AObj)) (n m j : Nat) (out : List Nat) (c : Nat) (hv : xB c = true) (ho : out.length < 1000000) (hj : j < n)
  (hb : getA l j = some (.row 5 (xo out) true false)) :
  (evW env O).call 74 [.sl j 0 out.length (.opn 1), .int .i32 (.ofNat c)] (KL l n m false [] none) = some (.sl (n + 1) 0 (out ++ encC c).length (.opn 1), KL ((n + 1, some (.row 5 (xo (out ++ encC c)) true false)) :: (j, none) :: (n, some (.row 5 (xo (encC c)) false false)) :: l) (n + 2) (mark m j) false [] none) := by
 have c74 := ciw f74 o74
 have c96 := ciw f96 o96
 have n2 : ¬ j = n := by omega
 obtain ⟨v1, v2⟩ := xH.1 hv
 have ap := fun (cs : List Nat) (h0 : cs ≠ []) (h4 : cs.length ≤ 4) => @Ue ((n, some (.row 5 (xo cs) false false)) :: l) (n + 1) m 5 j false (.sl n 0 cs.length (.fix cs.length)) out cs (by rw [uA, if_neg n2]; exact hb) rfl h0 (ju (by rw [uA, if_pos rfl])) (by rw [ye]; omega)
 rw [ug]
 by_cases h1 : c < 128
 ·rw [if_pos h1]
  have ap := ap [c] (by simp) (by simp)
  simp only [kR, yY, yX, yx] at ap ⊢
  simp (disch := first | exact dis | fail) only [go_sem, seval, -rO, -rN, c74, f74, uQ, jZ, ap, gL]
 rw [if_neg h1]
 by_cases h2 : c < 2048
 ·rw [if_pos h2]
  have ap := ap [192 + c / 64, 128 + c % 64] (by simp) (by simp)
  have w1 := um c
  simp only [XK, yY, yX, yx, znM] at ap ⊢
  simp (disch := first | exact dis | fail) only [go_sem, seval, -rO, -rN, c74, f74, c96, f96, uQ, w1, jZ, ap, gL, Xc, gP, zpq, Y5, mm64]
 rw [if_neg h2]
 by_cases h3 : c < 65536
 ·rw [if_pos h3]
  have ap := ap [224 + c / 4096, 128 + c / 64 % 64, 128 + c % 64] (by simp) (by simp)
  have w1 := um c
  have w2 := um (c / 64)
  simp only [pZ, yY, yX, yx, znM] at ap ⊢
  by_cases h4 : c < 55296
  ·simp (disch := first | exact dis | fail) only [go_sem, seval, -rO, -rN, c74, f74, c96, f96, h4, uQ, w1, w2, jZ, ap, gL, Xc, Yw, gP, zzf, Y5, mm64]
  ·have h5 : 57343 < c := by omega
   simp (disch := first | exact dis | fail) only [go_sem, seval, -rO, -rN, c74, f74, c96, f96, h4, h5, uQ, w1, w2, jZ, ap, gL, Xc, Yw, gP, zzf, Y5, mm64]
 rw [if_neg h3]
 have ap := ap [240 + c / 262144, 128 + c / 4096 % 64, 128 + c / 64 % 64, 128 + c % 64] (by simp) (by simp)
 have w1 := um c
 have w2 := um (c / 64)
 have w3 := um (c / 4096)
 have h4 : ¬ c < 55296 := by omega
 have h5 : 57343 < c := by omega
 have h6 : 65535 < c := by omega
 simp only [YH, yY, yX, yx, znM] at ap ⊢
 simp (disch := first | exact dis | fail) only [go_sem, seval, -rO, -rN, c74, f74, c96, f96, h4, h5, h6, uQ, w1, w2, w3, jZ, ap, gL, Xc, Yw, ztL, gP, zpr, Y5, mm64]
theorem Jl (o74 : O 74 = none) (o96 : O 96 = none) (l : List (Nat × Option AObj)) (n m : Nat) (c : Nat) (hv : xB c = true) :
  (evW env O).call 74 [.nils, .int .i32 (.ofNat c)] (KL l n m false [] none) = some (.sl (n + 1) 0 (encC c).length (.opn 1), KL ((n + 1, some (.row 5 (xo (encC c)) true false)) :: (n, some (.row 5 (xo (encC c)) false false)) :: l) (n + 2) m false [] none) := by
 have c74 := ciw f74 o74
 have c96 := ciw f96 o96
 obtain ⟨v1, v2⟩ := xH.1 hv
 have ap := fun (cs : List Nat) (h0 : cs ≠ []) (h4 : cs.length ≤ 4) => @Ud ((n, some (.row 5 (xo cs) false false)) :: l) (n + 1) m 5 (.sl n 0 cs.length (.fix cs.length)) cs rfl h0 (ju (by rw [uA, if_pos rfl])) (by omega)
 rw [ug]
 by_cases h1 : c < 128
 ·rw [if_pos h1]
  have ap := ap [c] (by simp) (by simp)
  simp only [kR, yY, yX, yx] at ap ⊢
  simp (disch := first | exact dis | fail) only [go_sem, seval, -rO, -rN, c74, f74, uQ, jZ, ap, gL]
 rw [if_neg h1]
 by_cases h2 : c < 2048
 ·rw [if_pos h2]
  have ap := ap [192 + c / 64, 128 + c % 64] (by simp) (by simp)
  have w1 := um c
  simp only [XK, yY, yX, yx, znM] at ap ⊢
  simp (disch := first | exact dis | fail) only [go_sem, seval, -rO, -rN, c74, f74, c96, f96, uQ, w1, jZ, ap, gL, Xc, gP, zpq, Y5, mm64]
 rw [if_neg h2]
 by_cases h3 : c < 65536
 ·rw [if_pos h3]
  have ap := ap [224 + c / 4096, 128 + c / 64 % 64, 128 + c % 64] (by simp) (by simp)
  have w1 := um c
  have w2 := um (c / 64)
  simp only [pZ, yY, yX, yx, znM] at ap ⊢
  by_cases h4 : c < 55296
  ·simp (disch := first | exact dis | fail) only [go_sem, seval, -rO, -rN, c74, f74, c96, f96, h4, uQ, w1, w2, jZ, ap, gL, Xc, Yw, gP, zzf, Y5, mm64]
  ·have h5 : 57343 < c := by omega
   simp (disch := first | exact dis | fail) only [go_sem, seval, -rO, -rN, c74, f74, c96, f96, h4, h5, uQ, w1, w2, jZ, ap, gL, Xc, Yw, gP, zzf, Y5, mm64]
 rw [if_neg h3]
 have ap := ap [240 + c / 262144, 128 + c / 4096 % 64, 128 + c / 64 % 64, 128 + c % 64] (by simp) (by simp)
 have w1 := um c
 have w2 := um (c / 64)
 have w3 := um (c / 4096)
 have h4 : ¬ c < 55296 := by omega
 have h5 : 57343 < c := by omega
 have h6 : 65535 < c := by omega
 simp only [YH, yY, yX, yx, znM] at ap ⊢
 simp (disch := first | exact dis | fail) only [go_sem, seval, -rO, -rN, c74, f74, c96, f96, h4, h5, h6, uQ, w1, w2, w3, jZ, ap, gL, Xc, Yw, ztL, gP, zpr, Y5, mm64]
end Go.Proofs.YthcmnajcjapjbaaGreatDoor.Ev

/- Contracts of functions that MatchNames calls: what a call answers, for all data, by symbolic evaluation. No conditions of its own. -/
import Derived.Test.YtionbncghjdeoaaGreatDoorEvG
import Derived.Test.YtionbncghjdeoaaGreatDoorIrMatchNames
set_option linter.unusedSimpArgs false
set_option linter.unusedVariables false
set_option linter.defProp false
set_option maxHeartbeats 4000000
open Nat renaming le_of_ble_eq_true → zmv, le_refl → zp, lt_succ_self → yx
open List.cons renaming injEq → xe
open List renaming length_cons → y8, drop_succ_cons → xg, append_nil → zmw, drop_zero → z4, length_append → yd, take_of_length_le → zG, cons_append → y9, length_nil → y7, nil_append → zmy, drop_eq_nil_of_le → zmz
open Bool renaming and_self → xb, cond_decide → zmx
namespace Go.Proofs.YtionbncghjdeoaaGreatDoor.Ev
variable {P : Program} {w0 : World} {O : Orc} {s : St} {v : AV} {b : List Nat} {d : DT} {n : Nat} {o : AObj}
open T
set_option maxRecDepth 100000
structure Bx (P : Program) (w0 : World) : Prop where
 mixed : P.follows .mixedOrders = true
 glob : xV env.globs w0
 env : gm P env
theorem bs (B : Bx P w0) (hO : OrcOk P w0 O) {f : Nat} (F : IFunc) {args : List AV} {os : List (Option AObj)} {b : Bool} {c' : St} (h : ∀ C : Cx, Is C env O (H os 0 b) 0 → Tri C F.body { tm := wN (tmL []) 0 args, df := [] } (H os 0 b) (Fin env (H os 0 b) 0 F.res v c')) (hF : env.funs.get f = some F := by exact rfl) (hle : args.length ≤ F.ntmps := by exact Nat.le_of_ble_eq_true rfl) : SC P w0 f args (H os 0 b) v c' :=
 Is.sc hO B.mixed B.glob B.env 0 hF hle lf h
theorem bm (B : Bx P w0) (hO : OrcOk P w0 O) {f : Nat} (F : IFunc) {args : List AV} {os : List (Option AObj)} {b : Bool} {c' : St} (h : ∀ C : Cx, Is C env O (H (some o :: os) 0 b) 1 → Tri C F.body { tm := wN (tmL []) 0 args, df := [] } (H (some o :: os) 0 b) (Fin env (H (some o :: os) 0 b) 1 F.res v c')) (hF : env.funs.get f = some F := by exact rfl) (hg : vB o = false := by exact rfl) (hle : args.length ≤ F.ntmps := by exact Nat.le_of_ble_eq_true rfl) : SC P w0 f args (H (some o :: os) 0 b) v c' :=
 Is.sc hO B.mixed B.glob B.env 1 hF hle (znv hg) h
theorem ci {f : Nat} (F : IFunc) (h : O f = none) (hF : env.funs.get f = some F := by exact rfl) (hp : env.pure f = true := by exact rfl) (a : List AV) (l : List (Nat × Option AObj)) (n m : Nat) (b : Bool) (hd : List (Nat × Nat)) (on : Option (Nat × List Nat)) (ha : a.length ≤ F.ntmps) :
  (evW env O).call f a (KL l n m b hd on) = lQ (KL l n m b hd on) (wR env.globs F.res (evC env (evW env O) none F.body ⟨wN (tmL []) 0 a, []⟩ (KL l n 0 true hd on))) := Qj h hF hp a l n m b hd on ha
theorem ciw {f : Nat} (F : IFunc) (h : O f = none) (hF : env.funs.get f = some F := by exact rfl) (hp : env.pure f = false := by exact rfl) (a : List AV) (l : List (Nat × Option AObj)) (n m : Nat) (b : Bool) (hd : List (Nat × Nat)) (on : Option (Nat × List Nat)) (ha : a.length ≤ F.ntmps) :
  (evW env O).call f a (KL l n m b hd on) = mdR b (wR env.globs F.res (evC env (evW env O) none F.body ⟨wN (tmL []) 0 a, []⟩ (KL l n m false hd on))) := Gy h hF hp a l n m b hd on ha
def xX (d : DT) : AObj := .row 25 (xu d) false false
def um : AObj := .row 25 [.int .i64 (.ofNat 0), .int .i64 (.ofNat 0), .str [], .nils, .int .i64 (.ofNat 0)] false false
theorem xH (d : DT) (r : List AV) : wC 5 (xu d ++ r) = some (xu d) := jc (wj d)
theorem xF (d : DT) : wC 5 (xu d) = some (xu d) := uh (wj d)
theorem jy {a b : Int} (h : a ≠ b) : eqD a b = false := by simp [eqD, h]
theorem lv (x y : DT) : xC [x, y] = xu x ++ xu y := by simp only [q7, vT, zmw]
def YA (acc : List DT) : AV := match acc with
 | [] => .nils
 | t :: r => .gr 2 5 (t :: r).length (xC (t :: r))
def gn (acc : List DT) : List (Option AObj) := match acc with
 | [] => []
 | t :: r => [some (.app 25 (xC (t :: r)))]
theorem vw (d : DT) : x0 (wU d) = true := by simp only [wU, jb, qZ]
theorem x8 {α : Type} (l : List α) (i : Nat) : (l.length ≤ i ∧ l.drop i = []) ∨ ∃ x, i < l.length ∧ l.drop i = x :: l.drop (i + 1) := by
 by_cases h : i < l.length
 ·exact .inr ⟨l[i], h, List.drop_eq_getElem_cons h⟩
 ·exact .inl ⟨oM, zmz oM⟩
def Yy (p : Prop) (C : Cx) (fr1 : Fr) (s1 : St) (Q : Res → Fr → St → Prop) : Res → Fr → St → Prop
 | .norm, f, t => p ∧ Gc C f t fr1 s1
 | r, f, t => Q r f t
theorem Za {C : Cx} {ia ib : ICode} {fr : Fr} {Q : Res → Fr → St → Prop} (p : Prop) (fr1 : Fr) (s1 : St) (h1 : Tri C ia fr s (Yy p C fr1 s1 Q)) (h2 : p → Tri C ib fr1 s1 Q) : Tri C (.seq ia ib) fr s Q :=
 v6 (h1.mono fun r f t => by
  cases r with
  | norm => exact fun h => Gg h.2 (h2 h.1)
  | exit i => exact fun h => h
  | ret => exact fun h => h)
open Nat (reduceEqDiff reduceLeDiff reduceLT reduceAdd reduceMul reduceSub reduceMod reducePow reduceDiv reduceOr reduceShiftLeft reduceGT reduceSucc)
open List (length_cons length_nil length_take length_drop)
open Int renaming reduceOfNat → rO, reduceNegSucc → rN
def we : DT → Option (DT × DT)
 | .mk kd _ _ ks _ => match ks with
  | [x, y] => if kd = .ofNat 6 then some (x, y) else none
  | _ => none
theorem wW {kd n : Int} {t : List Nat} {ks : List DT} {p : Int} {x y : DT} (h : we (.mk kd n t ks p) = some (x, y)) : kd = .ofNat 6 ∧ ks = [x, y] := by
 simp only [we] at h; split at h
 ·split at h
  ·cases h; exact ⟨by assumption, rfl⟩
  ·cases h
 ·cases h
theorem pL {kd n : Int} {t : List Nat} {ks : List DT} {p : Int} (h : we (.mk kd n t ks p) = none) (hk : kd = .ofNat 6) : ¬ ks.length = 2 := by
 subst hk; intro hl
 match ks, hl with
 | [x, y], _ => simp [we] at h
theorem kA {x y : DT} (h : we d = some (x, y)) : SizeOf.sizeOf x < SizeOf.sizeOf d ∧ SizeOf.sizeOf y < SizeOf.sizeOf d := by
 obtain ⟨kd, n, t, ks, p⟩ := d; obtain ⟨rfl, rfl⟩ := wW h; simp only [DT.mk.sizeOf_spec, List.cons.sizeOf_spec, List.nil.sizeOf_spec]; omega
def pK : Nat → DT → List DT × DT
 | 0, d => ([], d)
 | k + 1, d => match we d with
  | some (x, y) => (x :: (pK k y).1, (pK k y).2)
  | none => ([], d)
noncomputable def xL (d : DT) : List DT × DT := pK (SizeOf.sizeOf d) d
theorem Zp : ∀ {k m : Nat} {d : DT}, SizeOf.sizeOf d ≤ k → SizeOf.sizeOf d ≤ m → pK k d = pK m d
 | 0, _, d, h, _ => by cases d; simp only [DT.mk.sizeOf_spec] at h; omega
 | _ + 1, 0, d, _, h => by cases d; simp only [DT.mk.sizeOf_spec] at h; omega
 | k + 1, m + 1, d, h, h' => by
  simp only [pK]; cases hk : we d with
  | none => rfl
  | some xy =>
   obtain ⟨x, y⟩ := xy; have := (kA hk).2; simp only; rw [Zp (k := k) (m := m) oM oM]
theorem w7 {x y : DT} (h : we d = some (x, y)) : xL d = (x :: (xL y).1, (xL y).2) := by
 have := kA h; unfold xL; rw [Zp (d := d) (m := SizeOf.sizeOf d + 1) (zp _) oM, pK, h]; simp only; rw [Zp (d := y) (m := SizeOf.sizeOf y) oM (zp _)]
theorem qi (h : we d = none) : xL d = ([], d) := by
 unfold xL; rw [Zp (d := d) (m := SizeOf.sizeOf d + 1) (zp _) oM, pK, h]
theorem Pw (d : DT) : we (xL d).2 = none := by
 have key : ∀ (k : Nat) (d : DT), SizeOf.sizeOf d < k → we (xL d).2 = none := by
  intro k
  induction k with
  | zero => intro d h; omega
  | succ k ih =>
   intro d h; cases hk : we d with
   | none => rw [qi hk]; exact hk
   | some xy =>
    obtain ⟨x, y⟩ := xy; rw [w7 hk]; exact ih y (by have := (kA hk).2; omega)
 exact key _ d (yx _)
attribute [local go_sem] wU YA gn xX um xo lv f52 xH xF vT vM in
theorem ztg (B : Bx P w0) (hO : OrcOk P w0 O) (o23 : O 52 = none) (d0 : DT) (hlen : (xL d0).1.length < 2000000) :
  SC P w0 32 [wU d0] (H [] 0 true) (.tup [.lst (xL d0).1.length false (xC (xL d0).1), wU (xL d0).2]) (H [] 0 true) := by
 refine Is.sc hO B.mixed B.glob B.env 0 (show env.funs.get 32 = some f32 from rfl) (zmv rfl) lf fun C k => ?_; have cpair := @Qj env O _ _ o23 (show env.funs.get 52 = some f52 from rfl) rfl; generalize hl : (xL d0).1 = l at hlen ⊢; generalize he : (xL d0).2 = e; unfold f32; simp only [Ko, Kn, Kd, Kf, Ki]; refine k.q ?_; refine Xu ⟨tmL [(3, .ptr 1 0), (2, YA l), (1, .ptr 0 0)], []⟩ (H ([some (xX e), some um] ++ gn l) 0 true) (qI (vu (k.gcL [0, 1] [3, 2, 1] true (fr1 := ⟨tmL [(3, .ptr 1 0), (2, YA []), (1, .ptr 0 0)], []⟩) (s1 := H ([some (xX d0), some um] ++ gn []) 0 true) (by simp (disch := first | exact dis | fail) only [go_sem, seval, -rO, -rN, xX, um, YA, gn, qZ]) ?_))) ?_
 ·refine uV (fun x : List DT × DT => SizeOf.sizeOf x.2) (fun x => ⟨tmL [(3, .ptr 1 0), (2, YA x.1), (1, .ptr 0 0)], []⟩) (fun x => H ([some (xX x.2), some um] ++ gn x.1) 0 true) (fun x => x.1 ++ (xL x.2).1 = l ∧ (xL x.2).2 = e) (fun x hx => ?_) ([], d0) ⟨hl, he⟩; obtain ⟨acc, cur⟩ := x; simp only at hx ⊢; obtain ⟨hx1, hx2⟩ := hx; have hc2 : acc.length < 2000000 := by rw [← hx1, yd] at hlen; omega
  cases hkd : we cur with
  | some xy =>
   obtain ⟨x, y⟩ := xy; have hm := kA hkd; rw [w7 hkd] at hx1 hx2; obtain ⟨kd, n, t, ks, p⟩ := cur; obtain ⟨rfl, rfl⟩ := wW hkd; obtain ⟨xk, xn, xt, xks, xp⟩ := x; obtain ⟨yk, yn, yt, yks, yp⟩ := y; cases acc with
   | nil =>
    refine k.z ?_; refine ⟨([] ++ [⟨xk, xn, xt, xks, xp⟩], ⟨yk, yn, yt, yks, yp⟩), ⟨by rw [← hx1]; simp, hx2⟩, hm.2, ?_⟩
    refine k.gcs (keep := [0, 1, 2]) (live := [3, 2, 1]) (md := true) ?_; simp only [y9, zmy, YA, gn, q7, vT, xo, zmw, y8, y7]; simp (disch := first | exact dis | fail) only [go_sem, seval, -rO, -rN, xX, um, xo]
   | cons a0 ar =>
    have hp1 := qh (a0 :: ar); simp only [y8] at hc2; refine k.z ?_; refine ⟨((a0 :: ar) ++ [⟨xk, xn, xt, xks, xp⟩], ⟨yk, yn, yt, yks, yp⟩), ⟨by rw [← hx1]; simp, hx2⟩, hm.2, ?_⟩
    refine k.gcs (keep := [0, 1, 3]) (live := [3, 2, 1]) (md := true) ?_; simp only [y9, zmy, YA, gn, q7, ZF, vT, xo, zmw, List.append_assoc, yd, y8, y7]; simp (disch := first | exact dis | fail) only [go_sem, seval, -rO, -rN, xX, um, xo, qh, qZ]
  | none =>
   rw [qi hkd] at hx1 hx2; simp only [zmw] at hx1 hx2; subst hx1; subst hx2; obtain ⟨kd, n, t, ks, p⟩ := cur; by_cases hk : kd = .ofNat 6
   ·have hl := pL hkd hk; subst hk; cases acc with
    | nil =>
     refine k.z ?_; exact k.g [0, 1] [3, 2, 1]
    | cons a0 ar =>
     have hp1 := qh (a0 :: ar); refine k.z ?_; exact k.g [0, 1, 2] [3, 2, 1]
   ·have hke : eqD kd (.ofNat 6) = false := jy hk; cases acc with
    | nil =>
     refine k.z ?_; exact k.g [0, 1] [3, 2, 1]
    | cons a0 ar =>
     have hp1 := qh (a0 :: ar); refine k.z ?_; exact k.g [0, 1, 2] [3, 2, 1]
 ·obtain ⟨ek, en, et, eks, ep⟩ := e; cases l with
  | nil =>
   refine k.q ?_; refine k.z ?_; exact fin
  | cons a0 ar =>
   have hp1 := qh (a0 :: ar); refine k.q ?_; refine k.z ?_; exact fin
attribute [local go_sem] wU YA gn xX um xo lv xH xF vT vM in
theorem zx0 (B : Bx P w0) (hO : OrcOk P w0 O) (d0 : DT) (hlen : (xL d0).1.length < 2000000) :
  SC P w0 18 [wU d0] (H [] 0 true) (.tup [.lst (xL d0).1.length false (xC (xL d0).1), wU (xL d0).2]) (H [] 0 true) := by
 refine Is.sc hO B.mixed B.glob B.env 0 (show env.funs.get 18 = some f18 from rfl) (zmv rfl) lf fun C k => ?_; generalize hl : (xL d0).1 = l at hlen ⊢; generalize he : (xL d0).2 = e; unfold f18; simp only [Ko, Kg, Kn, Kd, Kf, Ki]; refine k.q ?_; refine k.q ?_; refine Xu ⟨tmL [(4, YA l), (3, .ptr 1 0), (1, .ptr 0 0)], []⟩ (H ([some (xX e), some um] ++ gn l) 0 true) (qI (vu (k.gcL [0, 1] [4, 3, 1] true (fr1 := ⟨tmL [(4, YA []), (3, .ptr 1 0), (1, .ptr 0 0)], []⟩) (s1 := H ([some (xX d0), some um] ++ gn []) 0 true) (by simp (disch := first | exact dis | fail) only [go_sem, seval, -rO, -rN, xX, um, YA, gn, qZ]) ?_))) ?_
 ·refine uV (fun x : List DT × DT => SizeOf.sizeOf x.2) (fun x => ⟨tmL [(4, YA x.1), (3, .ptr 1 0), (1, .ptr 0 0)], []⟩) (fun x => H ([some (xX x.2), some um] ++ gn x.1) 0 true) (fun x => x.1 ++ (xL x.2).1 = l ∧ (xL x.2).2 = e) (fun x hx => ?_) ([], d0) ⟨hl, he⟩; obtain ⟨acc, cur⟩ := x; simp only at hx ⊢; obtain ⟨hx1, hx2⟩ := hx; have hc2 : acc.length < 2000000 := by rw [← hx1, yd] at hlen; omega
  cases hkd : we cur with
  | some xy =>
   obtain ⟨x, y⟩ := xy; have hm := kA hkd; rw [w7 hkd] at hx1 hx2; obtain ⟨kd, n, t, ks, p⟩ := cur; obtain ⟨rfl, rfl⟩ := wW hkd; obtain ⟨xk, xn, xt, xks, xp⟩ := x; obtain ⟨yk, yn, yt, yks, yp⟩ := y; cases acc with
   | nil =>
    refine k.z ?_; refine ⟨([] ++ [⟨xk, xn, xt, xks, xp⟩], ⟨yk, yn, yt, yks, yp⟩), ⟨by rw [← hx1]; simp, hx2⟩, hm.2, ?_⟩
    refine k.gcs (keep := [0, 1, 2]) (live := [4, 3, 1]) (md := true) ?_; simp only [y9, zmy, YA, gn, q7, vT, xo, zmw, y8, y7]; simp (disch := first | exact dis | fail) only [go_sem, seval, -rO, -rN, xX, um, xo]
   | cons a0 ar =>
    have hp1 := qh (a0 :: ar); simp only [y8] at hc2; refine k.z ?_; refine ⟨((a0 :: ar) ++ [⟨xk, xn, xt, xks, xp⟩], ⟨yk, yn, yt, yks, yp⟩), ⟨by rw [← hx1]; simp, hx2⟩, hm.2, ?_⟩
    refine k.gcs (keep := [0, 1, 3]) (live := [4, 3, 1]) (md := true) ?_; simp only [y9, zmy, YA, gn, q7, ZF, vT, xo, zmw, List.append_assoc, yd, y8, y7]; simp (disch := first | exact dis | fail) only [go_sem, seval, -rO, -rN, xX, um, xo, qh, qZ]
  | none =>
   rw [qi hkd] at hx1 hx2; simp only [zmw] at hx1 hx2; subst hx1; subst hx2; obtain ⟨kd, n, t, ks, p⟩ := cur; by_cases hk : kd = .ofNat 6
   ·have hl := pL hkd hk; subst hk; cases acc with
    | nil =>
     refine k.z ?_; exact k.g [0, 1] [4, 3, 1]
    | cons a0 ar =>
     have hp1 := qh (a0 :: ar); refine k.z ?_; exact k.g [0, 1, 2] [4, 3, 1]
   ·have hke : eqD kd (.ofNat 6) = false := jy hk; cases acc with
    | nil =>
     refine k.z ?_; exact k.g [0, 1] [4, 3, 1]
    | cons a0 ar =>
     have hp1 := qh (a0 :: ar); refine k.z ?_; exact k.g [0, 1, 2] [4, 3, 1]
 ·obtain ⟨ek, en, et, eks, ep⟩ := e; cases l with
  | nil =>
   refine k.q ?_; refine k.z ?_; exact fin
  | cons a0 ar =>
   have hp1 := qh (a0 :: ar); refine k.q ?_; refine k.z ?_; exact fin
def vO (d : DT) : List AV := [wU d]
theorem wB : ∀ x y, vO x = vO y → x = y := fun d e h => by
 simp only [vO, xe, and_true] at h; exact v9 h
theorem wT (d : DT) : wkL [AV.agg (xu d)] = vO d := by simp only [vO, wU, wkL, wkV, qQ]
theorem uw (d : DT) : xK (vO d) = true := by simp only [vO, xP, vw, xU, xb]
noncomputable def itR (d : DT) : AV := .tup [.lst (xL d).1.length false (xC (xL d).1), wU (xL d).2]
noncomputable def Uy : List AV → St → Option (AV × St) := uu vO (fun d => (xL d).1.length < 2000000) itR
theorem VC {f : Nat} (h : O f = some Uy) (hi : (xL d).1.length < 2000000) (s : St) : (evW env O).call f [.agg (xu d)] s = some (itR d, s) := by
 rw [qC h, Uy, uJ wB s d hi (wT d)]
theorem Hi (d : DT) : x0 (itR d) = true := by simp only [itR, vx, xP, ww, vw, xU, xb]
theorem zx1 (B : Bx P w0) (hO : OrcOk P w0 O) : OrcOk P w0 (withG 32 Uy (withG 18 Uy O)) :=
 (hO.withG kY (VD true uw Hi fun d hd => ⟨_, zx0 B (KY P w0) d hd⟩)).withG kY (VD true uw Hi fun d hd => ⟨_, ztg B (KY P w0) rfl d hd⟩)
mutual
def xq : DT → Nat
 | .mk _ _ _ ks _ => 1 + xO ks
def xO : List DT → Nat
 | [] => 0
 | d :: r => xq d + xO r
end
theorem xR : ∀ d, 0 < xq d
 | .mk _ _ _ ks _ => by simp only [xq]; omega
theorem v3 : ∀ l, l.length ≤ xO l
 | [] => zp _
 | d :: r => by simp only [xO, y8]; have := v3 r; have := xR d; omega
theorem qF : ∀ {l : List DT} {d : DT}, d ∈ l → xq d ≤ xO l
 | [], d, h => by cases h
 | x :: r, d, h => by
  simp only [xO]; rcases List.mem_cons.1 h with rfl | h
  ·omega
  ·have := qF h; omega
theorem vq {x y : DT} (h : we d = some (x, y)) : xq d = 1 + xq x + xq y := by
 obtain ⟨kd, n, t, ks, p⟩ := d; obtain ⟨rfl, rfl⟩ := wW h; simp only [xq, xO]; omega
theorem va (d : DT) : xO (xL d).1 + xq (xL d).2 ≤ xq d := by
 have key : ∀ (k : Nat) (d : DT), SizeOf.sizeOf d < k → xO (xL d).1 + xq (xL d).2 ≤ xq d := by
  intro k
  induction k with
  | zero => intro d h; omega
  | succ k ih =>
   intro d h; cases hk : we d with
   | none => rw [qi hk]; simp only [xO]; omega
   | some xy =>
    obtain ⟨x, y⟩ := xy; have := ih y (by have := (kA hk).2; omega)
    have h2 := vq hk; rw [w7 hk]; simp only [xO]; omega
 exact key _ d (yx _)
def xE : DT → Int | .mk k _ _ _ _ => k
def qL : DT → Int | .mk _ n _ _ _ => n
def x9 : DT → List Nat | .mk _ _ t _ _ => t
def wi : DT → List DT | .mk _ _ _ ks _ => ks
theorem wx (d : DT) : xq d = 1 + xO (wi d) := by cases d; simp only [xq, wi]
def qW (f : DT → DT → Bool) : List DT → List DT → Bool
 | [], [] => true
 | x :: r, y :: s => f x y && qW f r s
 | _, _ => false
theorem Wg {f : DT → DT → Bool} : ∀ {l m : List DT}, l.length ≠ m.length → qW f l m = false
 | [], [], h => absurd rfl h
 | [], _ :: _, _ => rfl
 | _ :: _, [], _ => rfl
 | x :: r, y :: s, h => by simp only [qW, Wg (l := r) (m := s) (by simpa using h), Bool.and_false]
theorem gM {f g : DT → DT → Bool} : ∀ {l m : List DT}, (∀ x ∈ l, ∀ y, f x y = g x y) → qW f l m = qW g l m
 | [], [], _ => rfl
 | [], _ :: _, _ => rfl
 | _ :: _, [], _ => rfl
 | x :: r, y :: s, h => by simp only [qW, h x (by simp), gM (l := r) (m := s) fun z hz => h z (by simp [hz])]
def pb : Nat → DT → DT → Bool
 | 0, _, _ => false
 | k + 1, a, b => match we a, we b with
  | some p, some q => pb k p.1 q.1 && pb k p.2 q.2
  | _, _ => eqD (xE a) (xE b) && (eqD (qL a) (qL b) && (eqS (x9 a) (x9 b) && qW (pb k) (wi a) (wi b)))
def ud (a b : DT) : Bool := pb (xq a) a b
theorem j0 : ∀ {k m : Nat} {a b : DT}, xq a ≤ k → xq a ≤ m → pb k a b = pb m a b
 | 0, _, a, _, h, _ => by have := xR a; omega
 | _ + 1, 0, a, _, _, h => by have := xR a; omega
 | k + 1, m + 1, a, b, h, h' => by
  have hk := wx a; have e : qW (pb k) (wi a) (wi b) = qW (pb m) (wi a) (wi b) := gM fun x hx y => by
   have := qF hx; exact j0 oM oM
  simp only [pb]; rw [e]; cases hka : we a with
  | none => rfl
  | some p =>
   cases hkb : we b with
   | none => rfl
   | some q =>
    have := vq (x := p.1) (y := p.2) hka; simp only; rw [j0 (k := k) (m := m) (a := p.1) oM oM, j0 (k := k) (m := m) (a := p.2) oM oM]
theorem P7 {a b : DT} {p q : DT × DT} (ha : we a = some p) (hb : we b = some q) : ud a b = (ud p.1 q.1 && ud p.2 q.2) := by
 have := vq (x := p.1) (y := p.2) ha; unfold ud; rw [j0 (m := xq a + 1) (zp _) oM, pb, ha, hb]; simp only; rw [j0 (k := xq a) (m := xq p.1) oM (zp _), j0 (k := xq a) (m := xq p.2) oM (zp _)]
theorem P6 {a b : DT} (h : we a = none ∨ we b = none) : ud a b = (eqD (xE a) (xE b) && (eqD (qL a) (qL b) && (eqS (x9 a) (x9 b) && qW ud (wi a) (wi b)))) := by
 have hk := wx a; have e : qW (pb (xq a)) (wi a) (wi b) = qW ud (wi a) (wi b) := gM fun x hx y => by
  have := qF hx; exact j0 oM (zp _)
 unfold ud at e ⊢; rw [j0 (m := xq a + 1) (zp _) oM, pb, e]; rcases h with h | h
 ·rw [h]
 ·rw [h]; cases we a <;> rfl
def Q8 (x : DT × DT) : List AV := [wU x.1, wU x.2]
theorem zxr : ∀ x y, Q8 x = Q8 y → x = y := fun ⟨a, b⟩ ⟨c, d⟩ h => by
 simp only [Q8, xe, and_true] at h; rw [v9 h.1, v9 h.2]
theorem Q9 (x : DT × DT) : xK (Q8 x) = true := by simp only [Q8, xP, vw, xU, xb]
noncomputable def Y6 (N : Nat) : List AV → St → Option (AV × St) := uu Q8 (fun x => xq x.1 < N) (fun x => .bool (ud x.1 x.2))
theorem X8 {f N : Nat} (h : O f = some (Y6 N)) {a b : DT} (hn : xq a < N) (s : St) : (evW env O).call f [.agg (xu a), .agg (xu b)] s = some (.bool (ud a b), s) := by
 rw [qC h, Y6, uJ zxr s (a, b) hn (by simp only [Q8, wU, wkL, wkV, qQ])]
def YU (f : Nat) (x : List DT × List DT) : List AV := [.lst x.1.length false (xC x.1), .lst x.2.length false (xC x.2), .fn f [] []]
theorem zxl (f : Nat) : ∀ x y, YU f x = YU f y → x = y := fun ⟨a, b⟩ ⟨c, d⟩ h => by
 simp only [YU, xe, AV.lst.injEq, true_and, and_true] at h; rw [kF h.1.2, kF h.2.2]
theorem L6 (f : Nat) (x : List DT × List DT) : xK (YU f x) = true := by simp only [YU, xP, ww, Xk, xU, xb]
noncomputable def zqa (N : Nat) : List AV → St → Option (AV × St) := uu (YU 28) (fun x => xO x.1 < N) (fun x => .bool (qW ud x.1 x.2))
theorem zuf {N : Nat} (h : O 53 = some (zqa N)) {a b : List DT} (hn : xO a < N) (s : St) : (evW env O).call 53 [.lst a.length false (xC a), .lst b.length false (xC b), .fn 28 [] []] s = some (.bool (qW ud a b), s) := by
 rw [qC h, zqa, uJ (zxl _) s (a, b) hn (by simp only [YU, wkL, wkV, vM])]
attribute [local go_sem] YU xH xo in
theorem zoa (B : Bx P w0) (hO : OrcOk P w0 O) {N : Nat} (h13 : O 28 = some (Y6 N)) (hN : N ≤ 1000000) (a b : List DT) (hn : xO a < N) :
  SC P w0 53 (YU 28 (a, b)) (H [] 0 true) (.bool (qW ud a b)) (H [] 0 true) := by
 refine Is.sc hO B.mixed B.glob B.env 0 (show env.funs.get 53 = some f53 from rfl) (zmv rfl) lf fun C k => ?_; unfold f53; simp only [Ko, Kn, Ki]; refine k.q ?_; by_cases hl : a.length = b.length
 ·have hla := v3 a; refine k.q ?_; refine Za (p := qW ud a b = true) ⟨tmL [], []⟩ (H [] 0 true) ?_ ?_
  ·refine k.q ?_; refine qI (vu (k.gcL [] [17, 16, 15, 2, 1] true (fr1 := ⟨tmL [(17, .int .i64 (.ofNat 0)), (16, .int .i64 (.ofNat b.length)), (15, .lst b.length false (xC a)), (2, .fn 28 [] []), (1, .lst b.length false (xC b))], []⟩) (s1 := H [] 0 true) sW ?_)); refine uV (fun i : Nat => a.length - i) (fun i => ⟨tmL [(17, .int .i64 (.ofNat i)), (16, .int .i64 (.ofNat b.length)), (15, .lst b.length false (xC a)), (2, .fn 28 [] []), (1, .lst b.length false (xC b))], []⟩) (fun _ => H [] 0 true) (fun i => i ≤ a.length ∧ qW ud (a.drop i) (b.drop i) = qW ud a b) (fun i hi => ?_) 0 ⟨Nat.zero_le _, rfl⟩; obtain ⟨g1, g2⟩ := hi; rcases x8 a i with ⟨hi, hd⟩ | ⟨x, hi, hd⟩
   ·have hlt : ¬ i < b.length := oM; have hd2 : b.drop i = [] := zmz oM; rw [hd, hd2] at g2; refine k.z ?_; simp only [Yy]; refine ⟨g2.symm, ?_⟩; exact k.g [] []
   ·rcases x8 b i with ⟨hi2, _⟩ | ⟨y, hi2, hd2⟩
    ·omega
    have hnx : xq x < N := by
     have h1 : x ∈ a := List.mem_of_mem_drop (by rw [hd]; exact List.mem_cons_self)
     have := qF h1; omega
    have hc := X8 (f := 28) h13 (b := y) hnx; have hdr : wP (i * 5) (xC a) = xu x ++ xC (a.drop (i + 1)) := by rw [gu, hd, q7]
    have hdr2 : wP (i * 5) (xC b) = xu y ++ xC (b.drop (i + 1)) := by rw [gu, hd2, q7]
    rw [hd, hd2] at g2; simp only [qW] at g2; obtain ⟨xk, xn, xt, xks, xp⟩ := x; obtain ⟨yk, yn, yt, yks, yp⟩ := y; simp only [xo] at hc; cases hsm : ud (.mk xk xn xt xks xp) (.mk yk yn yt yks yp) with
    | true =>
     rw [hsm] at hc g2; refine k.z ?_; refine ⟨i + 1, ⟨oM, by rw [← g2, Bool.true_and]⟩, oM, ?_⟩
     refine k.gcs (keep := []) (live := [17, 16, 15, 2, 1]) (md := true) ?_; simp (disch := first | exact dis | fail) only [go_sem, seval, -rO, -rN]
    | false =>
     rw [hsm] at hc g2; refine k.z ?_; simp only [Yy]; rw [← g2]; apply XQ (Or.inr rfl)
     iterate 5 (simp (disch := first | exact dis | fail) only [go_sem, seval, -rO, -rN] <;> exact rfl)
  ·intro hp; rw [hp]; refine k.q ?_; refine k.z ?_; exact fin
 ·rw [Wg hl]; refine k.z ?_; exact fin
def Gcx {α : Type} (p : α → Prop) (C : Cx) (fr1 : α → Fr) (s1 : α → St) (Q : Res → Fr → St → Prop) : Res → Fr → St → Prop
 | .norm, f, t => ∃ x, p x ∧ Gc C f t (fr1 x) (s1 x)
 | r, f, t => Q r f t
theorem Lk {α : Type} {C : Cx} {ia ib : ICode} {fr : Fr} {Q : Res → Fr → St → Prop} (p : α → Prop) (fr1 : α → Fr) (s1 : α → St) (h1 : Tri C ia fr s (Gcx p C fr1 s1 Q)) (h2 : ∀ x, p x → Tri C ib (fr1 x) (s1 x) Q) : Tri C (.seq ia ib) fr s Q :=
 v6 (h1.mono fun r f t => by
  cases r with
  | norm => exact fun ⟨x, hp, hg⟩ => Gg hg (h2 x hp)
  | exit i => exact fun h => h
  | ret => exact fun h => h)
theorem jM : ∀ {a b : List Nat}, eqS a b = true → a = b
 | [], [], _ => rfl
 | [], _ :: _, h => by cases h
 | _ :: _, [], h => by cases h
 | x :: r, y :: s, h => by
  simp only [eqS] at h; cases hb : Nat.beq x y with
  | false => rw [hb] at h; cases h
  | true => rw [hb] at h; rw [xG.1 hb, jM h]
theorem kM : ∀ a : List Nat, eqS a a = true
 | [] => rfl
 | x :: r => by simp only [eqS, xG.2 (rfl : x = x), cond_true]; exact kM r
theorem zzZ {kd n : Int} {t : List Nat} {ks : List DT} {p : Int} (h : we (.mk kd n t ks p) = none) : (eqD kd (.ofNat 6) = false) ∨ (kd = .ofNat 6 ∧ ¬ ks.length = 2) := by
 by_cases hk : kd = .ofNat 6
 ·exact .inr ⟨hk, pL h hk⟩
 ·exact .inl (jy hk)
attribute [local go_sem] wU xX xo f52 lv xH xF in
theorem zqQ (B : Bx P w0) (hO : OrcOk P w0 O) (o23 : O 52 = none) {N : Nat} (h31 : O 53 = some (zqa N)) (h13 : O 28 = some (Y6 N)) (a0 b0 : DT) (hN : xq a0 < N + 1) :
  SC P w0 28 [wU a0, wU b0] (H [] 0 true) (.bool (ud a0 b0)) (H [] 0 true) := by
 refine Is.sc hO B.mixed B.glob B.env 0 (show env.funs.get 28 = some f28 from rfl) (zmv rfl) lf fun C k => ?_; have cpair := @Qj env O _ _ o23 (show env.funs.get 52 = some f52 from rfl) rfl; generalize hres : ud a0 b0 = res; unfold f28; simp only [Ko, Kg, Kd, Kf, Ki]; refine k.q ?_; refine Lk (fun x : DT × DT => ud x.1 x.2 = res ∧ (we x.1 = none ∨ we x.2 = none) ∧ xq x.1 < N + 1) (fun _ => ⟨tmL [(4, .bool false), (3, .ptr 1 0), (2, .ptr 0 0)], []⟩) (fun x => H [some (xX x.1), some (xX x.2)] 0 true) (qI (vu (k.gcL [0, 1] [4, 3, 2] true (fr1 := ⟨tmL [(4, .bool false), (3, .ptr 1 0), (2, .ptr 0 0)], []⟩) (s1 := H [some (xX a0), some (xX b0)] 0 true) (by simp (disch := first | exact dis | fail) only [go_sem, seval, -rO, -rN, xX, qZ]) ?_))) ?_
 ·refine uV (fun x : DT × DT => xq x.1) (fun x => ⟨tmL [(4, .bool false), (3, .ptr 1 0), (2, .ptr 0 0)], []⟩) (fun x => H [some (xX x.1), some (xX x.2)] 0 true) (fun x => ud x.1 x.2 = res ∧ xq x.1 < N + 1) (fun x hx => ?_) (a0, b0) ⟨hres, hN⟩; obtain ⟨⟨ak, an, at_, aks, ap⟩, ⟨bk, bn, bt, bks, bp⟩⟩ := x; obtain ⟨g1, g2⟩ := hx; simp only at g1 g2 ⊢; cases hka : we (.mk ak an at_ aks ap) with
  | none =>
   rcases zzZ hka with he | ⟨rfl, hl⟩
   ·refine k.z ?_; simp only [Gcx]; refine ⟨(.mk ak an at_ aks ap, .mk bk bn bt bks bp), ⟨g1, .inl hka, g2⟩, ?_⟩; exact k.g [0, 1] [4, 3, 2]
   ·refine k.z ?_; simp only [Gcx]; refine ⟨(.mk (.ofNat 6) an at_ aks ap, .mk bk bn bt bks bp), ⟨g1, .inl hka, g2⟩, ?_⟩; exact k.g [0, 1] [4, 3, 2]
  | some p =>
   obtain ⟨⟨xk, xn, xt, xks, xp⟩, ⟨yk, yn, yt, yks, yp⟩⟩ := p; have hna := vq hka; cases hkb : we (.mk bk bn bt bks bp) with
   | none =>
    obtain ⟨rfl, rfl⟩ := wW hka; rcases zzZ hkb with he | ⟨rfl, hl⟩
    ·refine k.z ?_; simp only [Gcx]; refine ⟨(.mk (.ofNat 6) an at_ [.mk xk xn xt xks xp, .mk yk yn yt yks yp] ap, .mk bk bn bt bks bp), ⟨g1, .inr hkb, g2⟩, ?_⟩; exact k.g [0, 1] [4, 3, 2]
    ·refine k.z ?_; simp only [Gcx]; refine ⟨(.mk (.ofNat 6) an at_ [.mk xk xn xt xks xp, .mk yk yn yt yks yp] ap, .mk (.ofNat 6) bn bt bks bp), ⟨g1, .inr hkb, g2⟩, ?_⟩; exact k.g [0, 1] [4, 3, 2]
   | some q =>
    obtain ⟨⟨uk, un, ut, uks, up⟩, ⟨vk, vn, vt, vks, vp⟩⟩ := q; have hsp := P7 hka hkb; simp only at hsp; obtain ⟨rfl, rfl⟩ := wW hka; obtain ⟨rfl, rfl⟩ := wW hkb; rw [hsp] at g1; have hc := X8 (f := 28) h13 (a := .mk xk xn xt xks xp) (b := .mk uk un ut uks up) (by have := xR (.mk yk yn yt yks yp); omega)
    simp only [xo] at hc; cases hsm : ud (.mk xk xn xt xks xp) (.mk uk un ut uks up) with
    | true =>
     rw [hsm] at hc g1; refine k.z ?_; refine ⟨(.mk yk yn yt yks yp, .mk vk vn vt vks vp), ⟨by rw [← g1, Bool.true_and], by simp only; omega⟩, by simp only; omega, ?_⟩
     exact k.g [0, 1] [4, 3, 2]
    | false =>
     rw [hsm] at hc g1; refine k.z ?_; simp only [Gcx]; rw [← g1]; apply XQ (Or.inr rfl)
     iterate 5 (simp (disch := first | exact dis | fail) only [go_sem, seval, -rO, -rN] <;> exact rfl)
 ·rintro ⟨⟨ak, an, at_, aks, ap⟩, ⟨bk, bn, bt, bks, bp⟩⟩ ⟨g1, g2, g3⟩
  simp only at g1 g2 g3; rw [P6 g2] at g1; simp only [xE, qL, x9, wi] at g1; have hn := wx (.mk ak an at_ aks ap); simp only [wi] at hn; have hc := zuf h31 (a := aks) (b := bks) oM; cases h1 : eqD ak bk with
  | false =>
   rw [h1] at g1; subst g1; refine k.q ?_; refine k.z ?_; exact fin
  | true =>
   cases h2 : eqD an bn with
   | false =>
    rw [h1, h2] at g1; subst g1; refine k.q ?_; refine k.z ?_; exact fin
   | true =>
    cases h3 : eqS at_ bt with
    | true =>
     rw [h1, h2, h3] at g1; subst g1; have h4 : at_ = bt := jM h3; subst h4; refine k.q ?_; refine k.z ?_; exact fin
    | false =>
     rw [h1, h2, h3] at g1; subst g1; have h4 : ¬ at_ = bt := fun h => by rw [h, kM] at h3; cases h3
     refine k.q ?_; refine k.z ?_; exact fin
def Hh (c : Int) : Bool := match c with
 | .ofNat n => wH n
 | .negSucc _ => false
theorem qT : wH n = true ↔ n ≤ 1114111 ∧ (n < 55296 ∨ 57343 < n) := by
 unfold wH; rw [kh]; by_cases h : n < 55296
 ·rw [if_pos h]; simp; omega
 ·rw [if_neg h, Bool.and_eq_true, xN, xN]; omega
theorem zqj : Hh (.ofNat n) = decide (n ≤ 1114111 ∧ (n < 55296 ∨ 57343 < n)) := by
 show wH n = _; by_cases h : n ≤ 1114111 ∧ (n < 55296 ∨ 57343 < n)
 ·rw [qT.2 h]; exact (decide_eq_true h).symm
 ·rw [decide_eq_false h]; cases hv : wH n with
  | false => rfl
  | true => exact absurd (qT.1 hv) h
def L7 (c : Int) : List AV := [.int .i64 c]
theorem zv9 : ∀ x y, L7 x = L7 y → x = y := fun x y h => by
 simp only [L7, xe, AV.int.injEq, true_and, and_true] at h; exact h
noncomputable def gIs : List AV → St → Option (AV × St) := uu L7 (fun _ => True) (fun c => .bool (Hh c))
theorem zzX {f : Nat} (h : O f = some gIs) (c : Int) (s : St) : (evW env O).call f [.int .i64 c] s = some (.bool (Hh c), s) := by
 rw [qC h, gIs, uJ zv9 s c trivial rfl]
attribute [local go_sem] L7 Hh in
theorem zt2 (B : Bx P w0) (hO : OrcOk P w0 O) (c : Int) :
  SC P w0 21 (L7 c) (H [] 0 true) (.bool (Hh c)) (H [] 0 true) := by
 refine Is.sc hO B.mixed B.glob B.env 0 (show env.funs.get 21 = some f21 from rfl) (zmv rfl) lf fun C k => ?_; unfold f21; simp only [Ko, Kg, Ki]; cases c with
 | negSucc m =>
  refine k.z ?_; exact fin
 | ofNat n =>
  rw [zqj]; by_cases h1 : n ≤ 1114111
  ·by_cases h2 : n < 55296
   ·rw [decide_eq_true ⟨h1, .inl h2⟩]; refine k.z ?_; exact fin
   ·by_cases h3 : 57343 < n
    ·rw [decide_eq_true ⟨h1, .inr h3⟩]; refine k.z ?_; exact fin
    ·rw [decide_eq_false oM]; refine k.z ?_; exact fin
  ·rw [decide_eq_false oM]; refine k.z ?_; exact fin
theorem zpD (a : Nat) : ji .quo .i64 (.ofNat a) .i64 (.ofNat 64) = some (.int .i64 (qV .i64 (.ofNat (a / 64)))) := rfl
theorem zqG (a : Nat) : ji .quo .i64 (.ofNat a) .i64 (.ofNat 4096) = some (.int .i64 (qV .i64 (.ofNat (a / 4096)))) := rfl
theorem zwr (a : Nat) : ji .quo .i64 (.ofNat a) .i64 (.ofNat 262144) = some (.int .i64 (qV .i64 (.ofNat (a / 262144)))) := rfl
theorem WK (a : Nat) : ji .rem .i64 (.ofNat a) .i64 (.ofNat 64) = some (.int .i64 (.ofNat (a % 64))) := rfl
theorem znP (a : Nat) : ji .rem .i64 (.ofNat a) .i64 (.ofNat 32) = some (.int .i64 (.ofNat (a % 32))) := rfl
theorem znO (a : Nat) : ji .rem .i64 (.ofNat a) .i64 (.ofNat 16) = some (.int .i64 (.ofNat (a % 16))) := rfl
theorem zml (a : Nat) : ji .rem .i64 (.ofNat a) .i64 (.ofNat 8) = some (.int .i64 (.ofNat (a % 8))) := rfl
def jz (l : List Nat) : Nat := match l with
 | [] => 0
 | [b] => b
 | [b, _] => b % 32
 | [b, _, _] => b % 16
 | b :: _ => b % 8
def gB : List Nat → Nat → Nat
 | [], n => n
 | b :: r, n => gB r (64 * n + b % 64)
def v5 (l : List Nat) : Nat := gB (l.drop 1) (jz l)
def XL (l : List Nat) : List AV := [.lst l.length false (x6 l)]
theorem GR : ∀ x y, XL x = XL y → x = y := fun x y h => by
 simp only [XL, xe, AV.lst.injEq, true_and, and_true] at h; exact ZY h.2
theorem U3 (l : List Nat) : xK (XL l) = true := by simp only [XL, xP, ww, xU, xb]
theorem zzK (l : List Nat) (e : Bool) : wkL [AV.lst l.length e (x6 l)] = XL l := by simp only [XL, wkL, wkV, ZA]
noncomputable def G8 : List AV → St → Option (AV × St) := uu XL (fun l => 1 ≤ l.length ∧ l.length ≤ 4 ∧ Byt l) (fun l => .int .i64 (.ofNat (v5 l)))
theorem zwR (h : O 73 = some G8) {l : List Nat} (h1 : 1 ≤ l.length) (h2 : l.length ≤ 4) (h3 : Byt l) (hn : n = l.length) (e : Bool) (s : St) : (evW env O).call 73 [.lst n e (x6 l)] s = some (.int .i64 (.ofNat (v5 l)), s) := by
 subst hn; rw [qC h, G8, uJ GR s l ⟨h1, h2, h3⟩ (zzK l e)]
attribute [local go_sem] XL zpD WK znP znO zml v5 jz gB xg z4 Nat.mul_comm in
theorem zq6 (B : Bx P w0) (hO : OrcOk P w0 O) (l : List Nat) (h1 : 1 ≤ l.length) (h2 : l.length ≤ 4) (hb : Byt l) :
  SC P w0 73 (XL l) (H [] 0 true) (.int .i64 (.ofNat (v5 l))) (H [] 0 true) := by
 refine Is.sc hO B.mixed B.glob B.env 0 (show env.funs.get 73 = some f73 from rfl) (zmv rfl) lf fun C k => ?_; unfold f73; simp only [Ko, Ki]
 match l, h1, h2, hb with
 | [b0], _, _, hb =>
  have h0 : b0 < 256 := hb b0 (by simp)
  refine k.q ?_; refine k.q ?_; refine k.q ?_; refine k.q ?_; refine k.q ?_; refine k.q ?_; refine v6 ?_; refine k.q ?_; refine qI (vu ?_); refine vy (k.ev ?_); simp (disch := first | exact dis | fail) only [go_sem, seval, -rO, -rN]
  refine ⟨_, rfl, ?_⟩; simp only [wo, uK]; refine k.z ?_; exact fin
 | [b0, b1], _, _, hb =>
  have h0 : b0 < 256 := hb b0 (by simp)
  have h1 : b1 < 256 := hb b1 (by simp)
  refine k.q ?_; refine k.q ?_; refine k.q ?_; refine k.q ?_; refine k.q ?_; refine k.q ?_; refine v6 ?_; refine k.q ?_; refine qI (vu ?_); refine vy (k.ev ?_); simp (disch := first | exact dis | fail) only [go_sem, seval, -rO, -rN, WK, PI]
  refine ⟨_, rfl, ?_⟩; simp only [wo]; refine vy (k.ev ?_); simp (disch := first | exact dis | fail) only [go_sem, seval, -rO, -rN]
  refine ⟨_, rfl, ?_⟩; simp only [wo, uK]; refine k.z ?_; exact fin
 | [b0, b1, b2], _, _, hb =>
  have h0 : b0 < 256 := hb b0 (by simp)
  have h1 : b1 < 256 := hb b1 (by simp)
  have h2 : b2 < 256 := hb b2 (by simp)
  refine k.q ?_; refine k.q ?_; refine k.q ?_; refine k.q ?_; refine k.q ?_; refine k.q ?_; refine v6 ?_; refine k.q ?_; refine qI (vu ?_); refine vy (k.ev ?_); simp (disch := first | exact dis | fail) only [go_sem, seval, -rO, -rN, WK, PI]
  refine ⟨_, rfl, ?_⟩; simp only [wo]; refine vy (k.ev ?_); simp (disch := first | exact dis | fail) only [go_sem, seval, -rO, -rN, WK, PI]
  refine ⟨_, rfl, ?_⟩; simp only [wo]; refine vy (k.ev ?_); simp (disch := first | exact dis | fail) only [go_sem, seval, -rO, -rN]
  refine ⟨_, rfl, ?_⟩; simp only [wo, uK]; refine k.z ?_; exact fin
 | [b0, b1, b2, b3], _, _, hb =>
  have h0 : b0 < 256 := hb b0 (by simp)
  have h1 : b1 < 256 := hb b1 (by simp)
  have h2 : b2 < 256 := hb b2 (by simp)
  have h3 : b3 < 256 := hb b3 (by simp)
  refine k.q ?_; refine k.q ?_; refine k.q ?_; refine k.q ?_; refine k.q ?_; refine k.q ?_; refine v6 ?_; refine k.q ?_; refine qI (vu ?_); refine vy (k.ev ?_); simp (disch := first | exact dis | fail) only [go_sem, seval, -rO, -rN, WK, PI]
  refine ⟨_, rfl, ?_⟩; simp only [wo]; refine vy (k.ev ?_); simp (disch := first | exact dis | fail) only [go_sem, seval, -rO, -rN, WK, PI]
  refine ⟨_, rfl, ?_⟩; simp only [wo]; refine vy (k.ev ?_); simp (disch := first | exact dis | fail) only [go_sem, seval, -rO, -rN, WK, PI]
  refine ⟨_, rfl, ?_⟩; simp only [wo]; refine vy (k.ev ?_); simp (disch := first | exact dis | fail) only [go_sem, seval, -rO, -rN]
  refine ⟨_, rfl, ?_⟩; simp only [wo, uK]; refine k.z ?_; exact fin
 | b0 :: b1 :: b2 :: b3 :: b4 :: r, _, h2, _ => simp only [y8] at h2; omega
theorem Zl (c : Nat) : pA c = if c < 128 then [c] else if c < 2048 then [192 + c / 64, 128 + c % 64] else if c < 65536 then [224 + c / 4096, 128 + c / 64 % 64, 128 + c % 64] else [240 + c / 262144, 128 + c / 4096 % 64, 128 + c / 64 % 64, 128 + c % 64] := by
 unfold pA; rw [kh, kh, kh]; rfl
theorem zv7 {c : Nat} (h : c ≤ 1114111) : Byt (pA c) := by
 rw [Zl]; intro x hx; split at hx
 ·simp at hx; omega
 ·split at hx
  ·simp at hx; omega
  ·split at hx
   ·simp at hx; omega
   ·simp at hx; omega
def Pb (c : Nat) : List AV := [.int .i64 (.ofNat c)]
theorem zub : ∀ x y, Pb x = Pb y → x = y := fun x y h => by
 simp only [Pb, xe, AV.int.injEq, true_and, and_true] at h; cases h; rfl
def PC (l : List Nat) : AV := .lst l.length false (x6 l)
theorem zx5 (l : List Nat) : x0 (PC l) = true := by simp only [PC, ww]
noncomputable def zu0 : List AV → St → Option (AV × St) := uu Pb (fun c => c ≤ 1114111) (fun c => PC (pA c))
theorem zvM (h : O 74 = some zu0) {c : Nat} (hc : c ≤ 1114111) (s : St) : (evW env O).call 74 [.int .i64 (.ofNat c)] s = some (PC (pA c), s) := by
 rw [qC h, zu0, uJ zub s c hc rfl]
attribute [local go_sem] Pb PC zpD WK zqG zwr in
theorem zpX (B : Bx P w0) (hO : OrcOk P w0 O) (c : Nat) (hc : c ≤ 1114111) :
  SC P w0 74 (Pb c) (H [] 0 true) (PC (pA c)) (H [] 0 true) := by
 refine Is.sc hO B.mixed B.glob B.env 0 (show env.funs.get 74 = some f74 from rfl) (zmv rfl) lf fun C k => ?_; unfold f74; simp only [Ko, Ki]; rw [Zl]; by_cases h1 : c < 128
 ·rw [if_pos h1]; refine k.z ?_; exact fin
 rw [if_neg h1]; by_cases h2 : c < 2048
 ·rw [if_pos h2]; refine k.z ?_; exact fin
 rw [if_neg h2]; by_cases h3 : c < 65536
 ·rw [if_pos h3]; refine k.z ?_; exact fin
 rw [if_neg h3]; refine k.z ?_; exact fin
def gR (l : List Nat) : Nat → Nat → Option (Nat × Nat)
 | 0, _ => none
 | k + 1, n => if n ≤ 4 ∧ n ≤ l.length then (if wH (v5 (l.take n)) = true ∧ pA (v5 (l.take n)) = l.take n then some (v5 (l.take n), n) else gR l k (n + 1)) else none
def Hb (l : List Nat) : AV := match gR l 5 1 with
 | some p => .tup [.int .i64 (.ofNat p.1), .int .i64 (.ofNat p.2), .int .i64 (.ofNat 0)]
 | none => .tup [.int .i64 (.ofNat 0), .int .i64 (.ofNat 0), .int .i64 (.ofNat 4)]
theorem zxU (l : List Nat) : x0 (Hb l) = true := by
 unfold Hb; cases gR l 5 1 <;> simp only [vx, xP, qx, xU, xb]
def YT (x : List Nat × Nat) : List AV := [.lst x.1.length false (x6 x.1), .int .i64 (.ofNat x.2)]
theorem zxi : ∀ x y, YT x = YT y → x = y := fun ⟨a, b⟩ ⟨c, d⟩ h => by
 simp only [YT, xe, AV.lst.injEq, AV.int.injEq, true_and, and_true] at h; rw [ZY h.1.2]; cases h.2; rfl
theorem LY (x : List Nat × Nat) : xK (YT x) = true := by simp only [YT, xP, ww, qx, xU, xb]
def zpJ (x : List Nat × Nat) : Prop := Byt x.1 ∧ x.2 < x.1.length ∧ x.1.length < 2000000
noncomputable def zu1 : List AV → St → Option (AV × St) := uu YT zpJ (fun x => Hb (x.1.drop x.2))
theorem zu7 (h : O 59 = some zu1) {i : Nat} (h1 : Byt b) (h2 : i < b.length) (h3 : b.length < 2000000) (e : Bool) (s : St) : (evW env O).call 59 [.lst b.length e (x6 b), .int .i64 (.ofNat i)] s = some (Hb (b.drop i), s) := by
 rw [qC h, zu1, uJ zxi s (b, i) ⟨h1, h2, h3⟩ (by simp only [YT, wkL, wkV, ZA])]
theorem zq5 {l : List Nat} (h1 : l.length ≤ 4) (hb : Byt l) : v5 l < 4294967296 := by
 match l, h1, hb with
 | [], _, _ => simp [v5, gB, jz]
 | [a], _, hb => have := hb a (by simp); simp [v5, gB, jz]; omega
 | [a, b], _, hb => simp [v5, gB, jz]; omega
 | [a, b, c], _, hb => simp [v5, gB, jz]; omega
 | [a, b, c, d], _, hb => simp [v5, gB, jz]; omega
 | a :: b :: c :: d :: e :: r, h, _ => simp only [y8] at h; omega
attribute [local go_sem] YT PC in
theorem zoq (B : Bx P w0) (hO : OrcOk P w0 O) (h30 : O 21 = some gIs) (h77 : O 74 = some zu0) (h102 : O 73 = some G8) (b : List Nat) (i : Nat) (hb : Byt b) (hi : i < b.length) (hlb : b.length < 2000000) :
  SC P w0 59 (YT (b, i)) (H [] 0 true) (Hb (b.drop i)) (H [] 0 true) := by
 refine Is.sc hO B.mixed B.glob B.env 0 (show env.funs.get 59 = some f59 from rfl) (zmv rfl) lf fun C k => ?_; have hge : ¬ b.length ≤ i := oM; unfold f59; simp only [Ko, Kg, Kd, Ke, Ki]; refine k.q ?_; refine k.q ?_; refine Za (p := gR (b.drop i) 5 1 = none) ⟨tmL [], []⟩ (H [] 0 true) ?_ ?_
 ·refine k.q ?_; refine qI (vu (k.gcL [] [7, 1, 0] true (fr1 := ⟨tmL [(7, .int .i64 (.ofNat 1)), (1, .int .i64 (.ofNat i)), (0, .lst b.length false (x6 b))], []⟩) (s1 := H [] 0 true) sW ?_)); refine uV (fun x : Nat × Nat => x.1) (fun x => ⟨tmL [(7, .int .i64 (.ofNat x.2)), (1, .int .i64 (.ofNat i)), (0, .lst b.length false (x6 b))], []⟩) (fun _ => H [] 0 true) (fun x => 1 ≤ x.2 ∧ x.2 + x.1 = 6 ∧ gR (b.drop i) x.1 x.2 = gR (b.drop i) 5 1) (fun x hx => ?_) (5, 1) ⟨by simp, rfl, rfl⟩
  obtain ⟨kk, n⟩ := x; obtain ⟨g0, g1, g2⟩ := hx; simp only at g0 g1 g2 ⊢; cases kk with
  | zero =>
   have h4 : ¬ n ≤ 4 := oM; simp only [gR] at g2; refine k.z ?_; simp only [Yy]; refine ⟨g2.symm, ?_⟩; exact k.g [] []
  | succ kk =>
   have h4 : n ≤ 5 := oM; rw [gR, List.length_drop] at g2; by_cases h5 : n ≤ 4
   case neg =>
    rw [if_neg oM] at g2; refine k.z ?_; simp only [Yy]; refine ⟨g2.symm, ?_⟩; exact k.g [] []
   by_cases h6 : i + n ≤ b.length
   case neg =>
    rw [if_neg oM] at g2; refine k.z ?_; simp only [Yy]; refine ⟨g2.symm, ?_⟩; exact k.g [] []
   rw [if_pos ⟨h5, oM⟩] at g2; have hsub : i + n - i = n := oM; have hl : ((b.drop i).take n).length = n := by rw [List.length_take, List.length_drop]; omega
   have hby : Byt ((b.drop i).take n) := (hb.drop i).take n; have htl := zq5 (l := (b.drop i).take n) oM hby; have ht := fun e s => zwR h102 (l := (b.drop i).take n) oM oM hby (n := n) hl.symm e s; have his := zzX h30 (.ofNat (v5 ((b.drop i).take n))); revert g2 hl hby htl ht his; generalize htk : (b.drop i).take n = tk; intro g2 hl hby htl ht his; cases hv : wH (v5 tk) with
   | false =>
    rw [if_neg (by rw [hv]; simp)] at g2
    rw [show Hh (.ofNat (v5 tk)) = false from hv] at his; refine k.z ?_; refine ⟨(kk, n + 1), ⟨oM, oM, g2⟩, yx _, ?_⟩; refine k.gcs (keep := []) (live := [7, 1, 0]) (md := true) ?_; simp (disch := first | exact dis | fail) only [go_sem, seval, -rO, -rN]
   | true =>
    rw [show Hh (.ofNat (v5 tk)) = true from hv] at his; have hcc := (qT.1 hv).1; have hbc := zvM h77 hcc; have hbb := zv7 hcc; by_cases he : pA (v5 tk) = tk
    ·rw [if_pos ⟨hv, he⟩] at g2; refine k.z ?_; simp only [Yy, Hb]; rw [← g2]; exact fin
    ·rw [if_neg (fun h => he h.2)] at g2; refine k.z ?_; refine ⟨(kk, n + 1), ⟨oM, oM, g2⟩, yx _, ?_⟩; refine k.gcs (keep := []) (live := [7, 1, 0]) (md := true) ?_; simp (disch := first | exact dis | fail) only [go_sem, seval, -rO, -rN]
 ·intro hp; simp only [Hb, hp]; refine k.q ?_; refine k.z ?_; exact fin
def Ks (l : List Nat) : Option (Nat × Nat) := if (ki l).1 = 65533 ∧ (ki l).2 ≤ 1 then none else some (ki l)
theorem zoA (a b : Nat) : Nat.div a b = a / b := rfl
theorem bb (a b : Nat) : Nat.beq a b = decide (a = b) := by
 cases h : Nat.beq a b with
 | true => exact (decide_eq_true (xG.1 h)).symm
 | false => exact (decide_eq_false (fun h' => by rw [xG.2 h'] at h; cases h)).symm
theorem YJ (a b : Nat) : gP a b = a % 32 * 64 + b % 64 := rfl
theorem YK (a b c : Nat) : j5 a b c = a % 16 * 4096 + b % 64 * 64 + c % 64 := rfl
theorem YL (a b c d : Nat) : pv a b c d = a % 8 * 262144 + b % 64 * 4096 + c % 64 * 64 + d % 64 := rfl
theorem LN (a : Nat) : ki [a] = if a < 128 then (a, 1) else (65533, 1) := by
 simp only [ki, YN, zmx]
theorem Kp (a b : Nat) : ki [a, b] = if a < 128 then (a, 1) else if a / 32 = 6 ∧ b / 64 = 2 ∧ 128 ≤ gP a b then (gP a b, 2) else (65533, 1) := by
 simp only [ki, YN, zmx, Us, bb, YM, zoA]; by_cases h0 : a < 128
 ·rw [if_pos h0, if_pos h0]
 rw [if_neg h0, if_neg h0]; by_cases h1 : a / 32 = 6 <;> by_cases h2 : b / 64 = 2 <;> by_cases h3 : 128 ≤ gP a b <;> simp [h1, h2, h3]
theorem QY (a b c : Nat) : ki [a, b, c] = if a < 128 then (a, 1) else if a / 32 = 6 ∧ b / 64 = 2 ∧ 128 ≤ gP a b then (gP a b, 2) else if a / 16 = 14 ∧ b / 64 = 2 ∧ c / 64 = 2 ∧ 2048 ≤ j5 a b c ∧ wH (j5 a b c) = true then (j5 a b c, 3) else (65533, 1) := by
 simp only [ki, YN, zmx, Us, bb, YM, zoA]; by_cases h0 : a < 128
 ·rw [if_pos h0, if_pos h0]
 rw [if_neg h0, if_neg h0]; by_cases h1 : a / 32 = 6
 ·have h4 : ¬ a / 16 = 14 := oM; by_cases h2 : b / 64 = 2 <;> by_cases h3 : 128 ≤ gP a b <;> simp [h1, h2, h3, h4]
 ·by_cases h4 : a / 16 = 14 <;> by_cases h2 : b / 64 = 2 <;> by_cases h5 : c / 64 = 2 <;> by_cases h6 : 2048 ≤ j5 a b c <;> cases h7 : wH (j5 a b c) <;> simp [h1, h2, h4, h5, h6]
theorem XK (a b c d : Nat) (r : List Nat) : ki (a :: b :: c :: d :: r) = if a < 128 then (a, 1) else if a / 32 = 6 ∧ b / 64 = 2 ∧ 128 ≤ gP a b then (gP a b, 2) else if a / 16 = 14 ∧ b / 64 = 2 ∧ c / 64 = 2 ∧ 2048 ≤ j5 a b c ∧ wH (j5 a b c) = true then (j5 a b c, 3)
  else if a / 8 = 30 ∧ b / 64 = 2 ∧ c / 64 = 2 ∧ d / 64 = 2 ∧ 65536 ≤ pv a b c d ∧ wH (pv a b c d) = true then (pv a b c d, 4) else (65533, 1) := by
 simp only [ki, YN, zmx, Us, bb, YM, zoA]; by_cases h0 : a < 128
 ·rw [if_pos h0, if_pos h0]
 rw [if_neg h0, if_neg h0]; by_cases h1 : a / 32 = 6
 ·have h4 : ¬ a / 16 = 14 := oM; have h8 : ¬ a / 8 = 30 := oM; by_cases h2 : b / 64 = 2 <;> by_cases h3 : 128 ≤ gP a b <;> simp [h1, h2, h3, h4, h8]
 ·by_cases h4 : a / 16 = 14
  ·have h8 : ¬ a / 8 = 30 := oM; by_cases h2 : b / 64 = 2 <;> by_cases h5 : c / 64 = 2 <;> by_cases h6 : 2048 ≤ j5 a b c <;> cases h7 : wH (j5 a b c) <;> simp [h1, h2, h4, h5, h6, h8]
  ·by_cases h8 : a / 8 = 30 <;> by_cases h2 : b / 64 = 2 <;> by_cases h5 : c / 64 = 2 <;> by_cases h9 : d / 64 = 2 <;> by_cases h6 : 65536 ≤ pv a b c d <;> cases h7 : wH (pv a b c d) <;> simp [h1, h2, h4, h5, h6, h8, h9]
theorem Wr {a : Nat} (ha : a < 256) : (wH (v5 [a]) = true ∧ pA (v5 [a]) = [a]) ↔ a < 128 := by
 have e : v5 [a] = a := rfl; rw [e, qT, Zl]; constructor
 ·rintro ⟨_, h⟩
  by_cases h1 : a < 128
  ·exact h1
  ·rw [if_neg h1, if_pos oM] at h; simp at h
 ·intro h; rw [if_pos h]; exact ⟨oM, rfl⟩
theorem zsu (a b : Nat) : v5 [a, b] = gP a b := by rw [YJ]; simp only [v5, jz, gB, xg, z4]; omega
theorem zpF (a b c : Nat) : v5 [a, b, c] = j5 a b c := by rw [YK]; simp only [v5, jz, gB, xg, z4]; omega
theorem znT (a b c d : Nat) : v5 [a, b, c, d] = pv a b c d := by rw [YL]; simp only [v5, jz, gB, xg, z4]; omega
theorem UU {a b : Nat} (ha : a < 256) (hb : b < 256) : (wH (v5 [a, b]) = true ∧ pA (v5 [a, b]) = [a, b]) ↔ a / 32 = 6 ∧ b / 64 = 2 ∧ 128 ≤ gP a b := by
 have e : v5 [a, b] = a % 32 * 64 + b % 64 := by simp only [v5, jz, gB, xg, z4]; omega
 rw [e, qT, Zl, YJ]; constructor
 ·rintro ⟨_, h⟩
  split at h
  ·simp at h
  ·rw [if_pos oM] at h; simp only [xe, and_true] at h; omega
 ·rintro ⟨h1, h2, h3⟩
  rw [if_neg oM, if_pos oM]; simp only [xe, and_true]; omega
theorem zzF {a b c : Nat} (ha : a < 256) (hb : b < 256) (hc : c < 256) : (wH (v5 [a, b, c]) = true ∧ pA (v5 [a, b, c]) = [a, b, c]) ↔ a / 16 = 14 ∧ b / 64 = 2 ∧ c / 64 = 2 ∧ 2048 ≤ j5 a b c ∧ wH (j5 a b c) = true := by
 have e : v5 [a, b, c] = j5 a b c := by rw [YK]; simp only [v5, jz, gB, xg, z4]; omega
 rw [e, Zl]; constructor
 ·rintro ⟨hv, h⟩
  rw [YK] at h ⊢; split at h
  ·simp at h
  ·split at h
   ·simp at h
   ·rw [if_pos oM] at h; simp only [xe, and_true] at h; rw [YK] at hv; exact ⟨oM, oM, oM, oM, hv⟩
 ·rintro ⟨h1, h2, h3, h4, hv⟩
  refine ⟨hv, ?_⟩; rw [YK] at h4 ⊢; rw [if_neg oM, if_neg oM, if_pos oM]; simp only [xe, and_true]; omega
theorem zpv {a b c d : Nat} (ha : a < 256) (hb : b < 256) (hc : c < 256) (hd : d < 256) : (wH (v5 [a, b, c, d]) = true ∧ pA (v5 [a, b, c, d]) = [a, b, c, d]) ↔ a / 8 = 30 ∧ b / 64 = 2 ∧ c / 64 = 2 ∧ d / 64 = 2 ∧ 65536 ≤ pv a b c d ∧ wH (pv a b c d) = true := by
 have e : v5 [a, b, c, d] = pv a b c d := by rw [YL]; simp only [v5, jz, gB, xg, z4]; omega
 rw [e, Zl]; constructor
 ·rintro ⟨hv, h⟩
  rw [YL] at h ⊢; split at h
  ·simp at h
  ·split at h
   ·simp at h
   ·split at h
    ·simp at h
    ·simp only [xe, and_true] at h; rw [YL] at hv; exact ⟨oM, oM, oM, oM, oM, hv⟩
 ·rintro ⟨h1, h2, h3, h5, h4, hv⟩
  refine ⟨hv, ?_⟩; rw [YL] at h4 ⊢; rw [if_neg oM, if_neg oM, if_neg oM]; simp only [xe, and_true]; omega
theorem uf {c : Nat} {l : List Nat} (h : ki l = (c, n)) (h' : ¬ (c = 65533 ∧ n ≤ 1)) : Ks l = some (c, n) := by
 unfold Ks; rw [h, if_neg h']
theorem Zi {l : List Nat} (h : ki l = (65533, 1)) : Ks l = none := by
 unfold Ks; rw [h, if_pos ⟨rfl, zp _⟩]
theorem KP {l : List Nat} (k n : Nat) (h : ¬ (n ≤ 4 ∧ n ≤ l.length)) : gR l k n = none := by
 cases k with
 | zero => rfl
 | succ k => rw [gR, if_neg h]
theorem zu5 {l : List Nat} (hb : Byt l) (hl : l ≠ []) : gR l 5 1 = Ks l := by
 match l, hb, hl with
 | [a], hb, _ =>
  have ha := hb a (by simp)
  rw [gR, if_pos (by simp), zG (by simp)]
  by_cases h : a < 128
  ·rw [if_pos ((Wr ha).2 h), uf (by rw [LN, if_pos h]) oM]; rfl
  ·rw [if_neg (fun h' => h ((Wr ha).1 h')), Zi (by rw [LN, if_neg h]), KP _ _ (by simp)]
 | [a, b], hb, _ =>
  have ha := hb a (by simp)
  have hb' := hb b (by simp)
  have t1 : [a, b].take 1 = [a] := rfl; rw [gR, if_pos (by simp), t1]
  by_cases h : a < 128
  ·rw [if_pos ((Wr ha).2 h), uf (by rw [Kp, if_pos h]) oM]; rfl
  rw [if_neg (fun h' => h ((Wr ha).1 h')), gR, if_pos (by simp), zG (by simp)]
  by_cases h2 : a / 32 = 6 ∧ b / 64 = 2 ∧ 128 ≤ gP a b
  ·rw [if_pos ((UU ha hb').2 h2), uf (c := gP a b) (n := 2) (by rw [Kp, if_neg h, if_pos h2]) oM]
   rw [zsu]
  ·rw [if_neg (fun h' => h2 ((UU ha hb').1 h')), Zi (by rw [Kp, if_neg h, if_neg h2]), KP _ _ (by simp)]
 | [a, b, c], hb, _ =>
  have ha := hb a (by simp)
  have hb' := hb b (by simp)
  have hc := hb c (by simp)
  have t1 : [a, b, c].take 1 = [a] := rfl; have t2 : [a, b, c].take (1 + 1) = [a, b] := rfl; rw [gR, if_pos (by simp), t1]
  by_cases h : a < 128
  ·rw [if_pos ((Wr ha).2 h), uf (by rw [QY, if_pos h]) oM]; rfl
  rw [if_neg (fun h' => h ((Wr ha).1 h')), gR, if_pos (by simp), t2]
  by_cases h2 : a / 32 = 6 ∧ b / 64 = 2 ∧ 128 ≤ gP a b
  ·rw [if_pos ((UU ha hb').2 h2), uf (c := gP a b) (n := 2) (by rw [QY, if_neg h, if_pos h2]) oM]
   rw [zsu]
  rw [if_neg (fun h' => h2 ((UU ha hb').1 h')), gR, if_pos (by simp), zG (by simp)]
  by_cases h3 : a / 16 = 14 ∧ b / 64 = 2 ∧ c / 64 = 2 ∧ 2048 ≤ j5 a b c ∧ wH (j5 a b c) = true
  ·rw [if_pos ((zzF ha hb' hc).2 h3), uf (c := j5 a b c) (n := 3) (by rw [QY, if_neg h, if_neg h2, if_pos h3]) oM]
   rw [zpF]
  ·rw [if_neg (fun h' => h3 ((zzF ha hb' hc).1 h')), Zi (by rw [QY, if_neg h, if_neg h2, if_neg h3]), KP _ _ (by simp)]
 | a :: b :: c :: d :: r, hb, _ =>
  have ha := hb a (by simp)
  have hb' := hb b (by simp)
  have hc := hb c (by simp)
  have hd := hb d (by simp)
  have t1 : (a :: b :: c :: d :: r).take 1 = [a] := rfl; have t2 : (a :: b :: c :: d :: r).take (1 + 1) = [a, b] := rfl; have t3 : (a :: b :: c :: d :: r).take (1 + 1 + 1) = [a, b, c] := rfl; have t4 : (a :: b :: c :: d :: r).take (1 + 1 + 1 + 1) = [a, b, c, d] := rfl; rw [gR, if_pos (by simp), t1]
  by_cases h : a < 128
  ·rw [if_pos ((Wr ha).2 h), uf (by rw [XK, if_pos h]) oM]; rfl
  rw [if_neg (fun h' => h ((Wr ha).1 h')), gR, if_pos (by simp), t2]
  by_cases h2 : a / 32 = 6 ∧ b / 64 = 2 ∧ 128 ≤ gP a b
  ·rw [if_pos ((UU ha hb').2 h2), uf (c := gP a b) (n := 2) (by rw [XK, if_neg h, if_pos h2]) oM]
   rw [zsu]
  rw [if_neg (fun h' => h2 ((UU ha hb').1 h')), gR, if_pos (by simp), t3]
  by_cases h3 : a / 16 = 14 ∧ b / 64 = 2 ∧ c / 64 = 2 ∧ 2048 ≤ j5 a b c ∧ wH (j5 a b c) = true
  ·rw [if_pos ((zzF ha hb' hc).2 h3), uf (c := j5 a b c) (n := 3) (by rw [XK, if_neg h, if_neg h2, if_pos h3]) oM]
   rw [zpF]
  rw [if_neg (fun h' => h3 ((zzF ha hb' hc).1 h')), gR, if_pos (by simp), t4]
  by_cases h4 : a / 8 = 30 ∧ b / 64 = 2 ∧ c / 64 = 2 ∧ d / 64 = 2 ∧ 65536 ≤ pv a b c d ∧ wH (pv a b c d) = true
  ·rw [if_pos ((zpv ha hb' hc hd).2 h4), uf (c := pv a b c d) (n := 4) (by rw [XK, if_neg h, if_neg h2, if_neg h3, if_pos h4]) oM]
   rw [znT]
  ·rw [if_neg (fun h' => h4 ((zpv ha hb' hc hd).1 h')), Zi (by rw [XK, if_neg h, if_neg h2, if_neg h3, if_neg h4]), KP _ _ (by simp)]
end Go.Proofs.YtionbncghjdeoaaGreatDoor.Ev

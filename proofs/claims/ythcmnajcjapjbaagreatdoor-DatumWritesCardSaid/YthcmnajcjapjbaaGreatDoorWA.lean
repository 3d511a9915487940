/- Contracts of functions that DatumWrites calls: what a call answers, for all data, by symbolic evaluation. No conditions of its own. -/
import Derived.Test.YthcmnajcjapjbaaGreatDoorEvG
import Derived.Test.YthcmnajcjapjbaaGreatDoorIrDatumWrites
set_option linter.unusedSimpArgs false
set_option linter.unusedVariables false
set_option linter.defProp false
namespace Go.Proofs.YthcmnajcjapjbaaGreatDoor.Ev
open T
set_option maxRecDepth 100000
structure Bx (P : Program) (w0 : World) : Prop where
 mixed : P.follows .mixedOrders = true
 glob : zt env.globs w0
 env : qA P env
def drow (d : DT) : AObj := .row 24 (zF d) false false
def yA : AObj := .row 24 [.int .i64 (.ofNat 0), .int .i64 (.ofNat 0), .str [], .nils, .int .i64 (.ofNat 0)] false false
theorem gu (d : DT) (r : List AV) : yh 5 (zF d ++ r) = some (zF d) := JE (wN d)
theorem ym {a b : Int} (h : a ≠ b) : eqD a b = false := by simp [eqD, h]
theorem zyB {a : Int} : eqD a a = true := by simp [eqD]
theorem yN (x y : DT) : zl [x, y] = zF x ++ zF y := by simp only [zM, xx, List.append_nil]
def accD (acc : List DT) : AV := match acc with
 | [] => .nils
 | t :: r => .gr 2 5 (t :: r).length (zl (t :: r))
def yC (acc : List DT) : List (Option AObj) := match acc with
 | [] => []
 | t :: r => [some (.app 24 (zl (t :: r)))]
theorem qo (d : DT) : zy (encD d) = true := by simp only [encD, uT, y9]
theorem zS {α : Type} (l : List α) (i : Nat) : (l.length ≤ i ∧ l.drop i = []) ∨ ∃ x, i < l.length ∧ l.drop i = x :: l.drop (i + 1) := by
 by_cases h : i < l.length
 ·exact .inr ⟨l[i], h, List.drop_eq_getElem_cons h⟩
 ·exact .inl ⟨by omega, List.drop_eq_nil_of_le (by omega)⟩
def CutP (p : Prop) (C : Cx) (fr1 : Fr) (s1 : St) (Q : Res → Fr → St → Prop) : Res → Fr → St → Prop
 | .norm, f, t => p ∧ Gc C f t fr1 s1
 | r, f, t => Q r f t
theorem wG {C : Cx} {ia ib : ICode} {fr : Fr} {s : St} {Q : Res → Fr → St → Prop} (p : Prop) (fr1 : Fr) (s1 : St) (h1 : Tri C ia fr s (CutP p C fr1 s1 Q)) (h2 : p → Tri C ib fr1 s1 Q) : Tri C (.seq ia ib) fr s Q :=
 ze (h1.mono fun r f t => by
  cases r with
  | norm => exact fun h => kX h.2 (h2 h.1)
  | exit i => exact fun h => h
  | ret => exact fun h => h)
open Nat (reduceEqDiff reduceLeDiff reduceLT reduceAdd reduceMul reduceSub reduceMod reducePow reduceDiv reduceOr reduceShiftLeft reduceGT reduceSucc)
open List (length_cons length_nil length_take length_drop)
open Int (reduceOfNat reduceNegSucc)
set_option maxRecDepth 100000
mutual
def xL : DT → Nat → Int
 | .mk _ _ t ks _, left => if 300 < t.length then -1 else x8 ks (.ofNat (left - 1))
def x8 : List DT → Int → Int
 | [], x => x
 | d :: r, x => match x with
  | .ofNat (n + 1) => x8 r (xL d (n + 1))
  | x => x
end
def lF (x : DT × Nat) : List AV := [encD x.1, .int .i64 (.ofNat x.2)]
def zxp (N : Nat) (x : DT × Nat) : Prop := 0 < x.2 ∧ x.2 ≤ 300 ∧ SizeOf.sizeOf x.1 < N
noncomputable def gSl (N : Nat) : List AV → St → Option (AV × St) := orc0 lF (zxp N) (fun x => .int .i64 (xL x.1 x.2))
theorem VW : ∀ x y, lF x = lF y → x = y := fun ⟨d, n⟩ ⟨e, m⟩ h => by
 simp only [lF, List.cons.injEq, AV.int.injEq, true_and, and_true] at h
 rw [vq h.1]; cases h.2; rfl
theorem Ye {O : Orc} {N : Nat} (h : O 7 = some (gSl N)) {d : DT} {n : Nat} (h1 : 0 < n) (h2 : n ≤ 300) (h3 : SizeOf.sizeOf d < N) (s : St) :
  (evW env O).call 7 [.agg (zF d), .int .i64 (.ofNat n)] s = some (.int .i64 (xL d n), s) := by
 rw [zq h, gSl, zT VW s (d, n) ⟨h1, h2, h3⟩ (by simp only [lF, encD, wkL, wkV, x0])]
mutual
theorem Zn : ∀ (d : DT) (n : Nat), xL d (n + 1) ≤ .ofNat n
 | .mk _ _ t ks _, n => by
  simp only [xL]
  split
  ·exact Int.le_trans (by decide) (Int.natCast_nonneg n)
  ·exact ZG ks _
theorem ZG : ∀ (l : List DT) (x : Int), x8 l x ≤ x
 | [], x => by simp only [x8]; exact Int.le_refl _
 | d :: r, x => by
  simp only [x8]
  split
  ·rename_i n
   exact Int.le_trans (ZG r _) (Int.le_trans (Zn d n) (by rw [Int.ofNat_eq_natCast, Int.ofNat_eq_natCast]; omega))
  ·exact Int.le_refl _
end
theorem Hu {P : Program} {w0 : World} (B : Bx P w0) {O : Orc} (hO : OrcOk P w0 O) {N : Nat} (h7 : O 7 = some (gSl N)) (d : DT) (n : Nat) (h1 : 0 < n) (h2 : n ≤ 300) (h3 : SizeOf.sizeOf d < N + 1) :
  SC P w0 7 [encD d, .int .i64 (.ofNat n)] (H [] 0 true) (.int .i64 (xL d n)) (H [] 0 true) := by
 refine Is.sc hO B.mixed B.glob B.env 0 (show env.funs.get 7 = some f7 from rfl) (Nat.le_of_ble_eq_true rfl) z8 fun C k => ?_
 obtain ⟨dk, dn, dt, dks, dp⟩ := d
 unfold f7
 simp only [Ko, Kg, Ki]
 refine ze (k.eval (by simp (disch := first | exact dis | fail) only [go_sem, seval, -reduceOfNat, -reduceNegSucc, encD, zb]; exact rfl) ?_)
 simp only [za]
 refine ze (k.eval (by simp (disch := first | exact dis | fail) only [go_sem, seval, -reduceOfNat, -reduceNegSucc]; exact rfl) ?_)
 simp only [za]
 by_cases ht : 300 < dt.length
 ·
  refine k.eval (by simp (disch := first | exact dis | fail) only [go_sem, seval, -reduceOfNat, -reduceNegSucc, ht]; exact rfl) ?_
  try simp only [za, zg, Cut, if_true]
  apply zd (Or.inr rfl)
  iterate 3 (simp (disch := first | exact dis | fail) only [go_sem, seval, -reduceOfNat, -reduceNegSucc]; exact rfl)
  ·simp (disch := first | exact dis | fail) only [go_sem, seval, -reduceOfNat, -reduceNegSucc, xL, ht]; rfl
  ·simp (disch := first | exact dis | fail) only [go_sem, seval, -reduceOfNat, -reduceNegSucc]
 have hF : xL (.mk dk dn dt dks dp) n = x8 dks (.ofNat (n - 1)) := by simp only [xL, ht, if_false]
 refine ze (k.eval (by simp (disch := first | exact dis | fail) only [go_sem, seval, -reduceOfNat, -reduceNegSucc, ht]; exact rfl) ?_)
 simp only [za]
 refine wH ⟨tmL [(1, .int .i64 (xL (.mk dk dn dt dks dp) n))], []⟩ (H [] 0 true) ?_ ?_
 ·
  refine ze (k.eval (by simp (disch := first | exact dis | fail) only [go_sem, seval, -reduceOfNat, -reduceNegSucc]; exact rfl) ?_)
  simp only [za]
  refine zw (zI (k.gcL [0] [5, 2, 1] true (fr1 := ⟨tmL [(5, .int .i64 (.ofNat 0)), (2, .ptr 0 0), (1, .int .i64 (.ofNat (n - 1)))], []⟩) (s1 := H [some (drow (.mk dk dn dt dks dp))] 0 true) (by simp (disch := first | exact dis | fail) only [go_sem, seval, -reduceOfNat, -reduceNegSucc, drow, zb]) ?_))
  refine zV (fun x : Nat × Int => dks.length - x.1) (fun x => ⟨tmL [(5, .int .i64 (.ofNat x.1)), (2, .ptr 0 0), (1, .int .i64 x.2)], []⟩) (fun x => H [some (drow (.mk dk dn dt dks dp))] 0 true) (fun x => x.1 ≤ dks.length ∧ x.2 + x.1 ≤ 300 ∧ x8 (dks.drop x.1) x.2 = xL (.mk dk dn dt dks dp) n) (fun x hx => ?_) (0, .ofNat (n - 1)) ⟨Nat.zero_le _, by simp only [Int.ofNat_eq_natCast]; omega, hF.symm⟩
  obtain ⟨i, x⟩ := x
  obtain ⟨g1, g2, g3⟩ := hx
  simp only at g1 g2 g3 ⊢
  rcases zS dks i with ⟨hi, hd⟩ | ⟨⟨yk, yn, yt, yks, yp⟩, hi, hd⟩
  ·have hlt : ¬ i < dks.length := by omega
   rw [hd] at g3; simp only [x8] at g3; subst g3
   refine k.eval (by simp (disch := first | exact dis | fail) only [go_sem, seval, -reduceOfNat, -reduceNegSucc, drow, zb, hlt]; exact rfl) ?_
   try simp only [za, zg, Cut]
   refine k.gcs (keep := []) (live := [1]) (md := true) ?_
   simp (disch := first | exact dis | fail) only [go_sem, seval, -reduceOfNat, -reduceNegSucc]
  ·rw [hd] at g3
   match x, g2, g3 with
   | .ofNat (m + 1), g2, g3 =>
    simp only [x8] at g3
    have hs : SizeOf.sizeOf (DT.mk yk yn yt yks yp) < N := by
     have : (DT.mk yk yn yt yks yp) ∈ dks := List.mem_of_mem_drop (by rw [hd]; exact List.mem_cons_self)
     have := List.sizeOf_lt_of_mem this
     simp only [DT.mk.sizeOf_spec] at h3 this ⊢; omega
    have hc := Ye h7 (d := .mk yk yn yt yks yp) (n := m + 1) (by omega) (by rw [Int.ofNat_eq_natCast] at g2; omega) hs
    have hi2 : i < 1000 := by rw [Int.ofNat_eq_natCast] at g2; omega
    simp only [zb] at hc
    have hdr : z4 (i * 5) (zl dks) = zF (.mk yk yn yt yks yp) ++ zl (dks.drop (i + 1)) := by rw [yu, hd, zM]
    refine k.eval (by simp (disch := first | exact dis | fail) only [go_sem, seval, -reduceOfNat, -reduceNegSucc, drow, zb, hi, hdr, hc, hY, Nat.zero_lt_succ]; exact rfl) ?_
    try simp only [za]
    refine ⟨(i + 1, xL (.mk yk yn yt yks yp) (m + 1)), ⟨by simp only; omega, by have := Zn (.mk yk yn yt yks yp) m; rw [Int.ofNat_eq_natCast] at g2 this; simp only; omega, g3⟩, by simp only; omega, ?_⟩
    refine k.gcs (keep := [0]) (live := [5, 2, 1]) (md := true) ?_
    simp (disch := first | exact dis | fail) only [go_sem, seval, -reduceOfNat, -reduceNegSucc, drow, zb]
   | .ofNat 0, g2, g3 =>
    simp only [x8] at g3
    refine k.eval (by simp (disch := first | exact dis | fail) only [go_sem, seval, -reduceOfNat, -reduceNegSucc, drow, zb, hi]; exact rfl) ?_
    try simp only [za, zg, Cut]
    rw [← g3]
    refine k.gcs (keep := []) (live := [1]) (md := true) ?_
    simp (disch := first | exact dis | fail) only [go_sem, seval, -reduceOfNat, -reduceNegSucc]
   | .negSucc m, g2, g3 =>
    simp only [x8] at g3
    have hl : ltD (.ofNat 0) (.negSucc m) = false := rfl
    refine k.eval (by simp (disch := first | exact dis | fail) only [go_sem, seval, -reduceOfNat, -reduceNegSucc, drow, zb, hi, hl]; exact rfl) ?_
    try simp only [za, zg, Cut]
    rw [← g3]
    refine k.gcs (keep := []) (live := [1]) (md := true) ?_
    simp (disch := first | exact dis | fail) only [go_sem, seval, -reduceOfNat, -reduceNegSucc]
 ·
  refine ze (k.eval (by simp (disch := first | exact dis | fail) only [go_sem, seval, -reduceOfNat, -reduceNegSucc]; exact rfl) ?_)
  simp only [za]
  refine k.eval (by simp (disch := first | exact dis | fail) only [go_sem, seval, -reduceOfNat, -reduceNegSucc]; exact rfl) ?_
  try simp only [za, zg, Cut, if_true]
  apply zd (Or.inr rfl)
  iterate 5 (simp (disch := first | exact dis | fail) only [go_sem, seval, -reduceOfNat, -reduceNegSucc] <;> exact rfl)
theorem UI {P : Program} {w0 : World} (B : Bx P w0) : ∀ (N : Nat), OrcOk P w0 (withG 7 (gSl N) noO) := by
 intro N
 induction N with
 | zero => exact (qe P w0).withG yP (qO true (fun x => by simp only [lF, zD, qo, yJ, zJ, Bool.and_self]) (fun _ => rfl) fun x hx => by have := hx.2.2; omega)
 | succ N ih => exact (qe P w0).withG yP (qO true (fun x => by simp only [lF, zD, qo, yJ, zJ, Bool.and_self]) (fun _ => rfl) fun x hx => ⟨_, Hu B ih rfl x.1 x.2 hx.1 hx.2.1 hx.2.2⟩)
set_option maxRecDepth 100000
def zC : DT → Option (DT × DT)
 | .mk kd _ _ ks _ => match ks with
  | [x, y] => if kd = .ofNat 6 then some (x, y) else none
  | _ => none
theorem yi {kd n : Int} {t : List Nat} {ks : List DT} {p : Int} {x y : DT} (h : zC (.mk kd n t ks p) = some (x, y)) : kd = .ofNat 6 ∧ ks = [x, y] := by
 simp only [zC] at h
 split at h
 ·split at h
  ·cases h; exact ⟨by assumption, rfl⟩
  ·cases h
 ·cases h
theorem ui {kd n : Int} {t : List Nat} {ks : List DT} {p : Int} (h : zC (.mk kd n t ks p) = none) (hk : kd = .ofNat 6) : ¬ ks.length = 2 := by
 subst hk
 intro hl
 match ks, hl with
 | [x, y], _ => simp [zC] at h
theorem qq {d x y : DT} (h : zC d = some (x, y)) : SizeOf.sizeOf x < SizeOf.sizeOf d ∧ SizeOf.sizeOf y < SizeOf.sizeOf d := by
 obtain ⟨kd, n, t, ks, p⟩ := d
 obtain ⟨rfl, rfl⟩ := yi h
 simp only [DT.mk.sizeOf_spec, List.cons.sizeOf_spec, List.nil.sizeOf_spec]; omega
def uj : Nat → DT → List DT × DT
 | 0, d => ([], d)
 | k + 1, d => match zC d with
  | some (x, y) => (x :: (uj k y).1, (uj k y).2)
  | none => ([], d)
noncomputable def zm (d : DT) : List DT × DT := uj (SizeOf.sizeOf d) d
theorem uS : ∀ {k m : Nat} {d : DT}, SizeOf.sizeOf d ≤ k → SizeOf.sizeOf d ≤ m → uj k d = uj m d
 | 0, _, d, h, _ => by cases d; simp only [DT.mk.sizeOf_spec] at h; omega
 | _ + 1, 0, d, _, h => by cases d; simp only [DT.mk.sizeOf_spec] at h; omega
 | k + 1, m + 1, d, h, h' => by
  simp only [uj]
  cases hk : zC d with
  | none => rfl
  | some xy =>
   obtain ⟨x, y⟩ := xy
   have := (qq hk).2
   simp only
   rw [uS (k := k) (m := m) (by omega) (by omega)]
theorem yq {d x y : DT} (h : zC d = some (x, y)) : zm d = (x :: (zm y).1, (zm y).2) := by
 have := qq h
 unfold zm
 rw [uS (d := d) (m := SizeOf.sizeOf d + 1) (Nat.le_refl _) (by omega), uj, h]
 simp only
 rw [uS (d := y) (m := SizeOf.sizeOf y) (by omega) (Nat.le_refl _)]
theorem yY {d : DT} (h : zC d = none) : zm d = ([], d) := by
 unfold zm
 rw [uS (d := d) (m := SizeOf.sizeOf d + 1) (Nat.le_refl _) (by omega), uj, h]
theorem jB (d : DT) : zC (zm d).2 = none := by
 have key : ∀ (k : Nat) (d : DT), SizeOf.sizeOf d < k → zC (zm d).2 = none := by
  intro k
  induction k with
  | zero => intro d h; omega
  | succ k ih =>
   intro d h
   cases hk : zC d with
   | none => rw [yY hk]; exact hk
   | some xy =>
    obtain ⟨x, y⟩ := xy
    rw [yq hk]; exact ih y (by have := (qq hk).2; omega)
 exact key _ d (Nat.lt_succ_self _)
theorem HP {P : Program} {w0 : World} (B : Bx P w0) {O : Orc} (hO : OrcOk P w0 O) (o23 : O 23 = none) (d0 : DT) (hlen : (zm d0).1.length < 1000000) :
  SC P w0 19 [encD d0] (H [] 0 true) (.tup [.lst (zm d0).1.length false (zl (zm d0).1), encD (zm d0).2]) (H [] 0 true) := by
 refine Is.sc hO B.mixed B.glob B.env 0 (show env.funs.get 19 = some f19 from rfl) (Nat.le_of_ble_eq_true rfl) z8 fun C k => ?_
 have cpair := @z5 env O _ _ o23 (show env.funs.get 23 = some f23 from rfl) rfl
 generalize hl : (zm d0).1 = l at hlen ⊢
 generalize he : (zm d0).2 = e
 unfold f19
 simp only [Ko, Kn, Kd, Kf, Ki]
 refine ze (k.eval (by simp (disch := first | exact dis | fail) only [go_sem, seval, -reduceOfNat, -reduceNegSucc, encD]; exact rfl) ?_)
 simp only [za]
 refine wH ⟨tmL [(3, .ptr 1 0), (2, accD l), (1, .ptr 0 0)], []⟩ (H ([some (drow e), some yA] ++ yC l) 0 true) (zw (zI (k.gcL [0, 1] [3, 2, 1] true (fr1 := ⟨tmL [(3, .ptr 1 0), (2, accD []), (1, .ptr 0 0)], []⟩) (s1 := H ([some (drow d0), some yA] ++ yC []) 0 true) (by simp (disch := first | exact dis | fail) only [go_sem, seval, -reduceOfNat, -reduceNegSucc, drow, yA, accD, yC, y9]) ?_))) ?_
 ·refine zV (fun x : List DT × DT => SizeOf.sizeOf x.2) (fun x => ⟨tmL [(3, .ptr 1 0), (2, accD x.1), (1, .ptr 0 0)], []⟩) (fun x => H ([some (drow x.2), some yA] ++ yC x.1) 0 true) (fun x => x.1 ++ (zm x.2).1 = l ∧ (zm x.2).2 = e) (fun x hx => ?_) ([], d0) ⟨hl, he⟩
  obtain ⟨acc, cur⟩ := x
  simp only at hx ⊢
  obtain ⟨hx1, hx2⟩ := hx
  have hc2 : acc.length < 1000000 := by rw [← hx1, List.length_append] at hlen; omega
  cases hkd : zC cur with
  | some xy =>
   obtain ⟨x, y⟩ := xy
   have hm := qq hkd
   rw [yq hkd] at hx1 hx2
   obtain ⟨kd, n, t, ks, p⟩ := cur
   obtain ⟨rfl, rfl⟩ := yi hkd
   obtain ⟨xk, xn, xt, xks, xp⟩ := x
   obtain ⟨yk, yn, yt, yks, yp⟩ := y
   cases acc with
   | nil =>
    refine k.eval (by simp (disch := first | exact dis | fail) only [go_sem, seval, -reduceOfNat, -reduceNegSucc, accD, yC, drow, yA, zb, yN, cpair, f23]; exact rfl) ?_
    try simp only [za]
    refine ⟨([] ++ [⟨xk, xn, xt, xks, xp⟩], ⟨yk, yn, yt, yks, yp⟩), ⟨by rw [← hx1]; simp, hx2⟩, hm.2, ?_⟩
    refine k.gcs (keep := [0, 1, 2]) (live := [3, 2, 1]) (md := true) ?_
    simp only [List.cons_append, List.nil_append, accD, yC, zM, xx, zb, List.append_nil, List.length_cons, List.length_nil]
    simp (disch := first | exact dis | fail) only [go_sem, seval, -reduceOfNat, -reduceNegSucc, drow, yA, zb]
   | cons a0 ar =>
    have hp1 := yG (a0 :: ar)
    simp only [List.length_cons] at hc2
    refine k.eval (by simp (disch := first | exact dis | fail) only [go_sem, seval, -reduceOfNat, -reduceNegSucc, accD, yC, drow, yA, zb, yN, cpair, f23]; exact rfl) ?_
    try simp only [za]
    refine ⟨((a0 :: ar) ++ [⟨xk, xn, xt, xks, xp⟩], ⟨yk, yn, yt, yks, yp⟩), ⟨by rw [← hx1]; simp, hx2⟩, hm.2, ?_⟩
    refine k.gcs (keep := [0, 1, 3]) (live := [3, 2, 1]) (md := true) ?_
    simp only [List.cons_append, List.nil_append, accD, yC, zM, jb, xx, zb, List.append_nil, List.append_assoc, List.length_append, List.length_cons, List.length_nil]
    simp (disch := first | exact dis | fail) only [go_sem, seval, -reduceOfNat, -reduceNegSucc, drow, yA, zb, yG, y9]
  | none =>
   rw [yY hkd] at hx1 hx2
   simp only [List.append_nil] at hx1 hx2
   subst hx1; subst hx2
   obtain ⟨kd, n, t, ks, p⟩ := cur
   by_cases hk : kd = .ofNat 6
   ·have hl := ui hkd hk
    subst hk
    cases acc with
    | nil =>
     refine k.eval (by simp (disch := first | exact dis | fail) only [go_sem, seval, -reduceOfNat, -reduceNegSucc, accD, yC, drow, yA, zb, cpair, f23]; exact rfl) ?_
     try simp only [za, zg, Cut]
     refine k.gcs (keep := [0, 1]) (live := [3, 2, 1]) (md := true) ?_
     simp (disch := first | exact dis | fail) only [go_sem, seval, -reduceOfNat, -reduceNegSucc, accD, yC, drow, yA, zb]
    | cons a0 ar =>
     have hp1 := yG (a0 :: ar)
     refine k.eval (by simp (disch := first | exact dis | fail) only [go_sem, seval, -reduceOfNat, -reduceNegSucc, accD, yC, drow, yA, zb, cpair, f23]; exact rfl) ?_
     try simp only [za, zg, Cut]
     refine k.gcs (keep := [0, 1, 2]) (live := [3, 2, 1]) (md := true) ?_
     simp (disch := first | exact dis | fail) only [go_sem, seval, -reduceOfNat, -reduceNegSucc, accD, yC, drow, yA, zb, hp1]
   ·have hke : eqD kd (.ofNat 6) = false := ym hk
    cases acc with
    | nil =>
     refine k.eval (by simp (disch := first | exact dis | fail) only [go_sem, seval, -reduceOfNat, -reduceNegSucc, accD, yC, drow, yA, zb, cpair, f23, hke]; exact rfl) ?_
     try simp only [za, zg, Cut]
     refine k.gcs (keep := [0, 1]) (live := [3, 2, 1]) (md := true) ?_
     simp (disch := first | exact dis | fail) only [go_sem, seval, -reduceOfNat, -reduceNegSucc, accD, yC, drow, yA, zb]
    | cons a0 ar =>
     have hp1 := yG (a0 :: ar)
     refine k.eval (by simp (disch := first | exact dis | fail) only [go_sem, seval, -reduceOfNat, -reduceNegSucc, accD, yC, drow, yA, zb, cpair, f23, hke]; exact rfl) ?_
     try simp only [za, zg, Cut]
     refine k.gcs (keep := [0, 1, 2]) (live := [3, 2, 1]) (md := true) ?_
     simp (disch := first | exact dis | fail) only [go_sem, seval, -reduceOfNat, -reduceNegSucc, accD, yC, drow, yA, zb, hp1]
 ·obtain ⟨ek, en, et, eks, ep⟩ := e
  cases l with
  | nil =>
   refine ze (k.eval (by simp (disch := first | exact dis | fail) only [go_sem, seval, -reduceOfNat, -reduceNegSucc, accD, yC, drow, yA, zb]; exact rfl) ?_)
   simp only [za]
   refine k.eval (by simp (disch := first | exact dis | fail) only [go_sem, seval, -reduceOfNat, -reduceNegSucc]; exact rfl) ?_
   try simp only [za, zg, Cut, if_true]
   apply zd (Or.inr rfl)
   iterate 5 (simp (disch := first | exact dis | fail) only [go_sem, seval, -reduceOfNat, -reduceNegSucc, xx, xH, encD, zb] <;> exact rfl)
  | cons a0 ar =>
   have hp1 := yG (a0 :: ar)
   refine ze (k.eval (by simp (disch := first | exact dis | fail) only [go_sem, seval, -reduceOfNat, -reduceNegSucc, accD, yC, drow, yA, zb]; exact rfl) ?_)
   simp only [za]
   refine k.eval (by simp (disch := first | exact dis | fail) only [go_sem, seval, -reduceOfNat, -reduceNegSucc]; exact rfl) ?_
   try simp only [za, zg, Cut, if_true]
   apply zd (Or.inr rfl)
   iterate 5 (simp (disch := first | exact dis | fail) only [go_sem, seval, -reduceOfNat, -reduceNegSucc, xH, encD, zb] <;> exact rfl)
theorem J5 {P : Program} {w0 : World} (B : Bx P w0) {O : Orc} (hO : OrcOk P w0 O) (d0 : DT) (hlen : (zm d0).1.length < 1000000) :
  SC P w0 27 [encD d0] (H [] 0 true) (.tup [.lst (zm d0).1.length false (zl (zm d0).1), encD (zm d0).2]) (H [] 0 true) := by
 refine Is.sc hO B.mixed B.glob B.env 0 (show env.funs.get 27 = some f27 from rfl) (Nat.le_of_ble_eq_true rfl) z8 fun C k => ?_
 generalize hl : (zm d0).1 = l at hlen ⊢
 generalize he : (zm d0).2 = e
 unfold f27
 simp only [Ko, Kg, Kn, Kd, Kf, Ki]
 refine ze (k.eval (by simp (disch := first | exact dis | fail) only [go_sem, seval, -reduceOfNat, -reduceNegSucc, encD]; exact rfl) ?_)
 simp only [za]
 refine ze (k.eval (by simp (disch := first | exact dis | fail) only [go_sem, seval, -reduceOfNat, -reduceNegSucc]; exact rfl) ?_)
 simp only [za]
 refine wH ⟨tmL [(4, accD l), (3, .ptr 1 0), (1, .ptr 0 0)], []⟩ (H ([some (drow e), some yA] ++ yC l) 0 true) (zw (zI (k.gcL [0, 1] [4, 3, 1] true (fr1 := ⟨tmL [(4, accD []), (3, .ptr 1 0), (1, .ptr 0 0)], []⟩) (s1 := H ([some (drow d0), some yA] ++ yC []) 0 true) (by simp (disch := first | exact dis | fail) only [go_sem, seval, -reduceOfNat, -reduceNegSucc, drow, yA, accD, yC, y9]) ?_))) ?_
 ·refine zV (fun x : List DT × DT => SizeOf.sizeOf x.2) (fun x => ⟨tmL [(4, accD x.1), (3, .ptr 1 0), (1, .ptr 0 0)], []⟩) (fun x => H ([some (drow x.2), some yA] ++ yC x.1) 0 true) (fun x => x.1 ++ (zm x.2).1 = l ∧ (zm x.2).2 = e) (fun x hx => ?_) ([], d0) ⟨hl, he⟩
  obtain ⟨acc, cur⟩ := x
  simp only at hx ⊢
  obtain ⟨hx1, hx2⟩ := hx
  have hc2 : acc.length < 1000000 := by rw [← hx1, List.length_append] at hlen; omega
  cases hkd : zC cur with
  | some xy =>
   obtain ⟨x, y⟩ := xy
   have hm := qq hkd
   rw [yq hkd] at hx1 hx2
   obtain ⟨kd, n, t, ks, p⟩ := cur
   obtain ⟨rfl, rfl⟩ := yi hkd
   obtain ⟨xk, xn, xt, xks, xp⟩ := x
   obtain ⟨yk, yn, yt, yks, yp⟩ := y
   cases acc with
   | nil =>
    refine k.eval (by simp (disch := first | exact dis | fail) only [go_sem, seval, -reduceOfNat, -reduceNegSucc, accD, yC, drow, yA, zb, yN]; exact rfl) ?_
    try simp only [za]
    refine ⟨([] ++ [⟨xk, xn, xt, xks, xp⟩], ⟨yk, yn, yt, yks, yp⟩), ⟨by rw [← hx1]; simp, hx2⟩, hm.2, ?_⟩
    refine k.gcs (keep := [0, 1, 2]) (live := [4, 3, 1]) (md := true) ?_
    simp only [List.cons_append, List.nil_append, accD, yC, zM, xx, zb, List.append_nil, List.length_cons, List.length_nil]
    simp (disch := first | exact dis | fail) only [go_sem, seval, -reduceOfNat, -reduceNegSucc, drow, yA, zb]
   | cons a0 ar =>
    have hp1 := yG (a0 :: ar)
    simp only [List.length_cons] at hc2
    refine k.eval (by simp (disch := first | exact dis | fail) only [go_sem, seval, -reduceOfNat, -reduceNegSucc, accD, yC, drow, yA, zb, yN]; exact rfl) ?_
    try simp only [za]
    refine ⟨((a0 :: ar) ++ [⟨xk, xn, xt, xks, xp⟩], ⟨yk, yn, yt, yks, yp⟩), ⟨by rw [← hx1]; simp, hx2⟩, hm.2, ?_⟩
    refine k.gcs (keep := [0, 1, 3]) (live := [4, 3, 1]) (md := true) ?_
    simp only [List.cons_append, List.nil_append, accD, yC, zM, jb, xx, zb, List.append_nil, List.append_assoc, List.length_append, List.length_cons, List.length_nil]
    simp (disch := first | exact dis | fail) only [go_sem, seval, -reduceOfNat, -reduceNegSucc, drow, yA, zb, yG, y9]
  | none =>
   rw [yY hkd] at hx1 hx2
   simp only [List.append_nil] at hx1 hx2
   subst hx1; subst hx2
   obtain ⟨kd, n, t, ks, p⟩ := cur
   by_cases hk : kd = .ofNat 6
   ·have hl := ui hkd hk
    subst hk
    cases acc with
    | nil =>
     refine k.eval (by simp (disch := first | exact dis | fail) only [go_sem, seval, -reduceOfNat, -reduceNegSucc, accD, yC, drow, yA, zb]; exact rfl) ?_
     try simp only [za, zg, Cut]
     refine k.gcs (keep := [0, 1]) (live := [4, 3, 1]) (md := true) ?_
     simp (disch := first | exact dis | fail) only [go_sem, seval, -reduceOfNat, -reduceNegSucc, accD, yC, drow, yA, zb]
    | cons a0 ar =>
     have hp1 := yG (a0 :: ar)
     refine k.eval (by simp (disch := first | exact dis | fail) only [go_sem, seval, -reduceOfNat, -reduceNegSucc, accD, yC, drow, yA, zb]; exact rfl) ?_
     try simp only [za, zg, Cut]
     refine k.gcs (keep := [0, 1, 2]) (live := [4, 3, 1]) (md := true) ?_
     simp (disch := first | exact dis | fail) only [go_sem, seval, -reduceOfNat, -reduceNegSucc, accD, yC, drow, yA, zb, hp1]
   ·have hke : eqD kd (.ofNat 6) = false := ym hk
    cases acc with
    | nil =>
     refine k.eval (by simp (disch := first | exact dis | fail) only [go_sem, seval, -reduceOfNat, -reduceNegSucc, accD, yC, drow, yA, zb, hke]; exact rfl) ?_
     try simp only [za, zg, Cut]
     refine k.gcs (keep := [0, 1]) (live := [4, 3, 1]) (md := true) ?_
     simp (disch := first | exact dis | fail) only [go_sem, seval, -reduceOfNat, -reduceNegSucc, accD, yC, drow, yA, zb]
    | cons a0 ar =>
     have hp1 := yG (a0 :: ar)
     refine k.eval (by simp (disch := first | exact dis | fail) only [go_sem, seval, -reduceOfNat, -reduceNegSucc, accD, yC, drow, yA, zb, hke]; exact rfl) ?_
     try simp only [za, zg, Cut]
     refine k.gcs (keep := [0, 1, 2]) (live := [4, 3, 1]) (md := true) ?_
     simp (disch := first | exact dis | fail) only [go_sem, seval, -reduceOfNat, -reduceNegSucc, accD, yC, drow, yA, zb, hp1]
 ·obtain ⟨ek, en, et, eks, ep⟩ := e
  cases l with
  | nil =>
   refine ze (k.eval (by simp (disch := first | exact dis | fail) only [go_sem, seval, -reduceOfNat, -reduceNegSucc, accD, yC, drow, yA, zb]; exact rfl) ?_)
   simp only [za]
   refine k.eval (by simp (disch := first | exact dis | fail) only [go_sem, seval, -reduceOfNat, -reduceNegSucc]; exact rfl) ?_
   try simp only [za, zg, Cut, if_true]
   apply zd (Or.inr rfl)
   iterate 5 (simp (disch := first | exact dis | fail) only [go_sem, seval, -reduceOfNat, -reduceNegSucc, xx, xH, encD, zb] <;> exact rfl)
  | cons a0 ar =>
   have hp1 := yG (a0 :: ar)
   refine ze (k.eval (by simp (disch := first | exact dis | fail) only [go_sem, seval, -reduceOfNat, -reduceNegSucc, accD, yC, drow, yA, zb]; exact rfl) ?_)
   simp only [za]
   refine k.eval (by simp (disch := first | exact dis | fail) only [go_sem, seval, -reduceOfNat, -reduceNegSucc]; exact rfl) ?_
   try simp only [za, zg, Cut, if_true]
   apply zd (Or.inr rfl)
   iterate 5 (simp (disch := first | exact dis | fail) only [go_sem, seval, -reduceOfNat, -reduceNegSucc, xH, encD, zb] <;> exact rfl)
def z3 (d : DT) : List AV := [encD d]
theorem jj : ∀ x y, z3 x = z3 y → x = y := fun d e h => by
 simp only [z3, List.cons.injEq, and_true] at h; exact vq h
theorem kM (d : DT) : wkL [AV.agg (zF d)] = z3 d := by simp only [z3, encD, wkL, wkV, x0]
theorem yF (d : DT) : zo (z3 d) = true := by simp only [z3, zD, qo, zJ, Bool.and_self]
noncomputable def itR (d : DT) : AV := .tup [.lst (zm d).1.length false (zl (zm d).1), encD (zm d).2]
noncomputable def gItm : List AV → St → Option (AV × St) := orc0 z3 (fun d => (zm d).1.length < 1000000) itR
theorem vy {O : Orc} {f : Nat} (h : O f = some gItm) {d : DT} (hi : (zm d).1.length < 1000000) (s : St) : (evW env O).call f [.agg (zF d)] s = some (itR d, s) := by
 rw [zq h, gItm, zT jj s d hi (kM d)]
theorem YX (d : DT) : zy (itR d) = true := by simp only [itR, wz, zD, yz, qo, zJ, Bool.and_self]
theorem U7 {P : Program} {w0 : World} (B : Bx P w0) {O : Orc} (hO : OrcOk P w0 O) : OrcOk P w0 (withG 19 gItm (withG 27 gItm O)) :=
 (hO.withG yP (qO true yF YX fun d hd => ⟨_, J5 B (qe P w0) d hd⟩)).withG yP (qO true yF YX fun d hd => ⟨_, HP B (qe P w0) rfl d hd⟩)
set_option maxRecDepth 100000
mutual
def zu : DT → Nat
 | .mk _ _ _ ks _ => 1 + yw ks
def yw : List DT → Nat
 | [] => 0
 | d :: r => zu d + yw r
end
theorem yc : ∀ d, 0 < zu d
 | .mk _ _ _ ks _ => by simp only [zu]; omega
theorem yL : ∀ l, l.length ≤ yw l
 | [] => Nat.le_refl _
 | d :: r => by simp only [yw, List.length_cons]; have := yL r; have := yc d; omega
theorem z6 : ∀ {l : List DT} {d : DT}, d ∈ l → zu d ≤ yw l
 | [], d, h => by cases h
 | x :: r, d, h => by
  simp only [yw]
  rcases List.mem_cons.1 h with rfl | h
  ·omega
  ·have := z6 h; omega
theorem yT {d x y : DT} (h : zC d = some (x, y)) : zu d = 1 + zu x + zu y := by
 obtain ⟨kd, n, t, ks, p⟩ := d
 obtain ⟨rfl, rfl⟩ := yi h
 simp only [zu, yw]; omega
theorem w9 (d : DT) : yw (zm d).1 + zu (zm d).2 ≤ zu d := by
 have key : ∀ (k : Nat) (d : DT), SizeOf.sizeOf d < k → yw (zm d).1 + zu (zm d).2 ≤ zu d := by
  intro k
  induction k with
  | zero => intro d h; omega
  | succ k ih =>
   intro d h
   cases hk : zC d with
   | none => rw [yY hk]; simp only [yw]; omega
   | some xy =>
    obtain ⟨x, y⟩ := xy
    have := ih y (by have := (qq hk).2; omega)
    have h2 := yT hk
    rw [yq hk]; simp only [yw]; omega
 exact key _ d (Nat.lt_succ_self _)
def yV : DT → Int | .mk k _ _ _ _ => k
def numD : DT → Int | .mk _ n _ _ _ => n
def yr : DT → List Nat | .mk _ _ t _ _ => t
def yg : DT → List DT | .mk _ _ _ ks _ => ks
theorem yZ (d : DT) : zu d = 1 + yw (yg d) := by cases d; simp only [zu, yg]
def zK (f : DT → DT → Bool) : List DT → List DT → Bool
 | [], [] => true
 | x :: r, y :: s => f x y && zK f r s
 | _, _ => false
theorem w5 {f : DT → DT → Bool} : ∀ {l m : List DT}, l.length ≠ m.length → zK f l m = false
 | [], [], h => absurd rfl h
 | [], _ :: _, _ => rfl
 | _ :: _, [], _ => rfl
 | x :: r, y :: s, h => by simp only [zK, w5 (l := r) (m := s) (by simpa using h), Bool.and_false]
theorem vl {f g : DT → DT → Bool} : ∀ {l m : List DT}, (∀ x ∈ l, ∀ y, f x y = g x y) → zK f l m = zK g l m
 | [], [], _ => rfl
 | [], _ :: _, _ => rfl
 | _ :: _, [], _ => rfl
 | x :: r, y :: s, h => by simp only [zK, h x (by simp), vl (l := r) (m := s) fun z hz => h z (by simp [hz])]
def qK : Nat → DT → DT → Bool
 | 0, _, _ => false
 | k + 1, a, b => match zC a, zC b with
  | some p, some q => qK k p.1 q.1 && qK k p.2 q.2
  | _, _ => eqD (yV a) (yV b) && (eqD (numD a) (numD b) && (eqS (yr a) (yr b) && zK (qK k) (yg a) (yg b)))
def yd (a b : DT) : Bool := qK (zu a) a b
theorem wb : ∀ {k m : Nat} {a b : DT}, zu a ≤ k → zu a ≤ m → qK k a b = qK m a b
 | 0, _, a, _, h, _ => by have := yc a; omega
 | _ + 1, 0, a, _, _, h => by have := yc a; omega
 | k + 1, m + 1, a, b, h, h' => by
  have hk := yZ a
  have e : zK (qK k) (yg a) (yg b) = zK (qK m) (yg a) (yg b) := vl fun x hx y => by
   have := z6 hx
   exact wb (by omega) (by omega)
  simp only [qK]
  rw [e]
  cases hka : zC a with
  | none => rfl
  | some p =>
   cases hkb : zC b with
   | none => rfl
   | some q =>
    have := yT (x := p.1) (y := p.2) hka
    simp only
    rw [wb (k := k) (m := m) (a := p.1) (by omega) (by omega), wb (k := k) (m := m) (a := p.2) (by omega) (by omega)]
theorem px {a b : DT} {p q : DT × DT} (ha : zC a = some p) (hb : zC b = some q) : yd a b = (yd p.1 q.1 && yd p.2 q.2) := by
 have := yT (x := p.1) (y := p.2) ha
 unfold yd
 rw [wb (m := zu a + 1) (Nat.le_refl _) (by omega), qK, ha, hb]
 simp only
 rw [wb (k := zu a) (m := zu p.1) (by omega) (Nat.le_refl _), wb (k := zu a) (m := zu p.2) (by omega) (Nat.le_refl _)]
theorem jf {a b : DT} (h : zC a = none ∨ zC b = none) : yd a b = (eqD (yV a) (yV b) && (eqD (numD a) (numD b) && (eqS (yr a) (yr b) && zK yd (yg a) (yg b)))) := by
 have hk := yZ a
 have e : zK (qK (zu a)) (yg a) (yg b) = zK yd (yg a) (yg b) := vl fun x hx y => by
  have := z6 hx
  exact wb (by omega) (Nat.le_refl _)
 unfold yd at e ⊢
 rw [wb (m := zu a + 1) (Nat.le_refl _) (by omega), qK, e]
 rcases h with h | h
 ·rw [h]
 ·rw [h]; cases zC a <;> rfl
def kq (x : DT × DT) : List AV := [encD x.1, encD x.2]
theorem ZQ : ∀ x y, kq x = kq y → x = y := fun ⟨a, b⟩ ⟨c, d⟩ h => by
 simp only [kq, List.cons.injEq, and_true] at h
 rw [vq h.1, vq h.2]
theorem vM (x : DT × DT) : zo (kq x) = true := by simp only [kq, zD, qo, zJ, Bool.and_self]
noncomputable def gP (N : Nat) : List AV → St → Option (AV × St) := orc0 kq (fun x => zu x.1 < N) (fun x => .bool (yd x.1 x.2))
theorem uR {O : Orc} {f N : Nat} (h : O f = some (gP N)) {a b : DT} (hn : zu a < N) (s : St) : (evW env O).call f [.agg (zF a), .agg (zF b)] s = some (.bool (yd a b), s) := by
 rw [zq h, gP, zT ZQ s (a, b) hn (by simp only [kq, encD, wkL, wkV, x0])]
def j0 (f : Nat) (x : List DT × List DT) : List AV := [.lst x.1.length false (zl x.1), .lst x.2.length false (zl x.2), .fn f [] []]
theorem J1 (f : Nat) : ∀ x y, j0 f x = j0 f y → x = y := fun ⟨a, b⟩ ⟨c, d⟩ h => by
 simp only [j0, List.cons.injEq, AV.lst.injEq, true_and, and_true] at h
 rw [wp h.1.2, wp h.2.2]
theorem Qu (f : Nat) (x : List DT × List DT) : zo (j0 f x) = true := by simp only [j0, zD, yz, ul, zJ, Bool.and_self]
noncomputable def gEqf (N : Nat) : List AV → St → Option (AV × St) := orc0 (j0 13) (fun x => yw x.1 < N) (fun x => .bool (zK yd x.1 x.2))
theorem KS {O : Orc} {N : Nat} (h : O 31 = some (gEqf N)) {a b : List DT} (hn : yw a < N) (s : St) : (evW env O).call 31 [.lst a.length false (zl a), .lst b.length false (zl b), .fn 13 [] []] s = some (.bool (zK yd a b), s) := by
 rw [zq h, gEqf, zT (J1 _) s (a, b) hn (by simp only [j0, wkL, wkV, xH])]
theorem zyF {P : Program} {w0 : World} (B : Bx P w0) {O : Orc} (hO : OrcOk P w0 O) {N : Nat} (h13 : O 13 = some (gP N)) (hN : N ≤ 100000) (a b : List DT) (hn : yw a < N) :
  SC P w0 31 (j0 13 (a, b)) (H [] 0 true) (.bool (zK yd a b)) (H [] 0 true) := by
 refine Is.sc hO B.mixed B.glob B.env 0 (show env.funs.get 31 = some f31 from rfl) (Nat.le_of_ble_eq_true rfl) z8 fun C k => ?_
 unfold f31
 simp only [Ko, Kn, Ki]
 refine ze (k.eval (by simp (disch := first | exact dis | fail) only [go_sem, seval, -reduceOfNat, -reduceNegSucc, j0]; exact rfl) ?_)
 simp only [za]
 by_cases hl : a.length = b.length
 ·have hla := yL a
  refine ze (k.eval (by simp (disch := first | exact dis | fail) only [go_sem, seval, -reduceOfNat, -reduceNegSucc, hl]; exact rfl) ?_)
  simp only [za]
  refine wG (p := zK yd a b = true) ⟨tmL [], []⟩ (H [] 0 true) ?_ ?_
  ·
   refine ze (k.eval (by simp (disch := first | exact dis | fail) only [go_sem, seval, -reduceOfNat, -reduceNegSucc]; exact rfl) ?_)
   simp only [za]
   refine zw (zI (k.gcL [] [17, 16, 15, 2, 1] true (fr1 := ⟨tmL [(17, .int .i64 (.ofNat 0)), (16, .int .i64 (.ofNat b.length)), (15, .lst b.length false (zl a)), (2, .fn 13 [] []), (1, .lst b.length false (zl b))], []⟩) (s1 := H [] 0 true) (by simp (disch := first | exact dis | fail) only [go_sem, seval, -reduceOfNat, -reduceNegSucc]) ?_))
   refine zV (fun i : Nat => a.length - i) (fun i => ⟨tmL [(17, .int .i64 (.ofNat i)), (16, .int .i64 (.ofNat b.length)), (15, .lst b.length false (zl a)), (2, .fn 13 [] []), (1, .lst b.length false (zl b))], []⟩) (fun _ => H [] 0 true) (fun i => i ≤ a.length ∧ zK yd (a.drop i) (b.drop i) = zK yd a b) (fun i hi => ?_) 0 ⟨Nat.zero_le _, rfl⟩
   obtain ⟨g1, g2⟩ := hi
   rcases zS a i with ⟨hi, hd⟩ | ⟨x, hi, hd⟩
   ·have hlt : ¬ i < b.length := by omega
    have hd2 : b.drop i = [] := List.drop_eq_nil_of_le (by omega)
    rw [hd, hd2] at g2
    refine k.eval (by simp (disch := first | exact dis | fail) only [go_sem, seval, -reduceOfNat, -reduceNegSucc, hlt]; exact rfl) ?_
    try simp only [za, zg]
    simp only [CutP]
    refine ⟨g2.symm, ?_⟩
    refine k.gcs (keep := []) (live := []) (md := true) ?_
    simp (disch := first | exact dis | fail) only [go_sem, seval, -reduceOfNat, -reduceNegSucc]
   ·rcases zS b i with ⟨hi2, _⟩ | ⟨y, hi2, hd2⟩
    ·omega
    have hnx : zu x < N := by
     have h1 : x ∈ a := List.mem_of_mem_drop (by rw [hd]; exact List.mem_cons_self)
     have := z6 h1; omega
    have hc := uR (f := 13) h13 (b := y) hnx
    have hdr : z4 (i * 5) (zl a) = zF x ++ zl (a.drop (i + 1)) := by rw [yu, hd, zM]
    have hdr2 : z4 (i * 5) (zl b) = zF y ++ zl (b.drop (i + 1)) := by rw [yu, hd2, zM]
    rw [hd, hd2] at g2
    simp only [zK] at g2
    obtain ⟨xk, xn, xt, xks, xp⟩ := x
    obtain ⟨yk, yn, yt, yks, yp⟩ := y
    simp only [zb] at hc
    cases hsm : yd (.mk xk xn xt xks xp) (.mk yk yn yt yks yp) with
    | true =>
     rw [hsm] at hc g2
     refine k.eval (by simp (disch := first | exact dis | fail) only [go_sem, seval, -reduceOfNat, -reduceNegSucc, hi2, hdr, hdr2, zb, hc]; exact rfl) ?_
     try simp only [za]
     refine ⟨i + 1, ⟨by omega, by rw [← g2, Bool.true_and]⟩, by omega, ?_⟩
     refine k.gcs (keep := []) (live := [17, 16, 15, 2, 1]) (md := true) ?_
     simp (disch := first | exact dis | fail) only [go_sem, seval, -reduceOfNat, -reduceNegSucc]
    | false =>
     rw [hsm] at hc g2
     refine k.eval (by simp (disch := first | exact dis | fail) only [go_sem, seval, -reduceOfNat, -reduceNegSucc, hi2, hdr, hdr2, zb, hc]; exact rfl) ?_
     try simp only [za, zg]
     simp only [CutP]
     rw [← g2]
     apply zd (Or.inr rfl)
     iterate 5 (simp (disch := first | exact dis | fail) only [go_sem, seval, -reduceOfNat, -reduceNegSucc] <;> exact rfl)
  ·intro hp
   rw [hp]
   refine ze (k.eval (by simp (disch := first | exact dis | fail) only [go_sem, seval, -reduceOfNat, -reduceNegSucc]; exact rfl) ?_)
   simp only [za]
   refine k.eval (by simp (disch := first | exact dis | fail) only [go_sem, seval, -reduceOfNat, -reduceNegSucc]; exact rfl) ?_
   try simp only [za, zg, Cut, if_true]
   apply zd (Or.inr rfl)
   iterate 5 (simp (disch := first | exact dis | fail) only [go_sem, seval, -reduceOfNat, -reduceNegSucc] <;> exact rfl)
 ·rw [w5 hl]
  refine k.eval (by simp (disch := first | exact dis | fail) only [go_sem, seval, -reduceOfNat, -reduceNegSucc, hl]; exact rfl) ?_
  try simp only [za, zg, Cut, if_true]
  apply zd (Or.inr rfl)
  iterate 5 (simp (disch := first | exact dis | fail) only [go_sem, seval, -reduceOfNat, -reduceNegSucc] <;> exact rfl)
set_option maxRecDepth 100000
def Gcx {α : Type} (p : α → Prop) (C : Cx) (fr1 : α → Fr) (s1 : α → St) (Q : Res → Fr → St → Prop) : Res → Fr → St → Prop
 | .norm, f, t => ∃ x, p x ∧ Gc C f t (fr1 x) (s1 x)
 | r, f, t => Q r f t
theorem j8 {α : Type} {C : Cx} {ia ib : ICode} {fr : Fr} {s : St} {Q : Res → Fr → St → Prop} (p : α → Prop) (fr1 : α → Fr) (s1 : α → St) (h1 : Tri C ia fr s (Gcx p C fr1 s1 Q)) (h2 : ∀ x, p x → Tri C ib (fr1 x) (s1 x) Q) : Tri C (.seq ia ib) fr s Q :=
 ze (h1.mono fun r f t => by
  cases r with
  | norm => exact fun ⟨x, hp, hg⟩ => kX hg (h2 x hp)
  | exit i => exact fun h => h
  | ret => exact fun h => h)
theorem gX : ∀ {a b : List Nat}, eqS a b = true → a = b
 | [], [], _ => rfl
 | [], _ :: _, h => by cases h
 | _ :: _, [], h => by cases h
 | x :: r, y :: s, h => by
  simp only [eqS] at h
  cases hb : Nat.beq x y with
  | false => rw [hb] at h; cases h
  | true => rw [hb] at h; rw [zn.1 hb, gX h]
theorem pe : ∀ a : List Nat, eqS a a = true
 | [] => rfl
 | x :: r => by simp only [eqS, zn.2 (rfl : x = x), cond_true]; exact pe r
theorem kh {kd n : Int} {t : List Nat} {ks : List DT} {p : Int} (h : zC (.mk kd n t ks p) = none) : (eqD kd (.ofNat 6) = false) ∨ (kd = .ofNat 6 ∧ ¬ ks.length = 2) := by
 by_cases hk : kd = .ofNat 6
 ·exact .inr ⟨hk, ui h hk⟩
 ·exact .inl (ym hk)
theorem LP {P : Program} {w0 : World} (B : Bx P w0) {O : Orc} (hO : OrcOk P w0 O) (o23 : O 23 = none) {N : Nat} (h31 : O 31 = some (gEqf N)) (h13 : O 13 = some (gP N)) (a0 b0 : DT) (hN : zu a0 < N + 1) :
  SC P w0 13 [encD a0, encD b0] (H [] 0 true) (.bool (yd a0 b0)) (H [] 0 true) := by
 refine Is.sc hO B.mixed B.glob B.env 0 (show env.funs.get 13 = some f13 from rfl) (Nat.le_of_ble_eq_true rfl) z8 fun C k => ?_
 have cpair := @z5 env O _ _ o23 (show env.funs.get 23 = some f23 from rfl) rfl
 generalize hres : yd a0 b0 = res
 unfold f13
 simp only [Ko, Kg, Kd, Kf, Ki]
 refine ze (k.eval (by simp (disch := first | exact dis | fail) only [go_sem, seval, -reduceOfNat, -reduceNegSucc, encD]; exact rfl) ?_)
 simp only [za]
 refine j8 (fun x : DT × DT => yd x.1 x.2 = res ∧ (zC x.1 = none ∨ zC x.2 = none) ∧ zu x.1 < N + 1) (fun _ => ⟨tmL [(4, .bool false), (3, .ptr 1 0), (2, .ptr 0 0)], []⟩) (fun x => H [some (drow x.1), some (drow x.2)] 0 true) (zw (zI (k.gcL [0, 1] [4, 3, 2] true (fr1 := ⟨tmL [(4, .bool false), (3, .ptr 1 0), (2, .ptr 0 0)], []⟩) (s1 := H [some (drow a0), some (drow b0)] 0 true) (by simp (disch := first | exact dis | fail) only [go_sem, seval, -reduceOfNat, -reduceNegSucc, drow, y9]) ?_))) ?_
 ·refine zV (fun x : DT × DT => zu x.1) (fun x => ⟨tmL [(4, .bool false), (3, .ptr 1 0), (2, .ptr 0 0)], []⟩) (fun x => H [some (drow x.1), some (drow x.2)] 0 true) (fun x => yd x.1 x.2 = res ∧ zu x.1 < N + 1) (fun x hx => ?_) (a0, b0) ⟨hres, hN⟩
  obtain ⟨⟨ak, an, at_, aks, ap⟩, ⟨bk, bn, bt, bks, bp⟩⟩ := x
  obtain ⟨g1, g2⟩ := hx
  simp only at g1 g2 ⊢
  cases hka : zC (.mk ak an at_ aks ap) with
  | none =>
   rcases kh hka with he | ⟨rfl, hl⟩
   ·
    refine k.eval (by simp (disch := first | exact dis | fail) only [go_sem, seval, -reduceOfNat, -reduceNegSucc, drow, zb, cpair, f23, he]; exact rfl) ?_
    try simp only [za, zg]
    simp only [Gcx]
    refine ⟨(.mk ak an at_ aks ap, .mk bk bn bt bks bp), ⟨g1, .inl hka, g2⟩, ?_⟩
    refine k.gcs (keep := [0, 1]) (live := [4, 3, 2]) (md := true) ?_
    simp (disch := first | exact dis | fail) only [go_sem, seval, -reduceOfNat, -reduceNegSucc, drow, zb]
   ·
    refine k.eval (by simp (disch := first | exact dis | fail) only [go_sem, seval, -reduceOfNat, -reduceNegSucc, drow, zb, cpair, f23, hl]; exact rfl) ?_
    try simp only [za, zg]
    simp only [Gcx]
    refine ⟨(.mk (.ofNat 6) an at_ aks ap, .mk bk bn bt bks bp), ⟨g1, .inl hka, g2⟩, ?_⟩
    refine k.gcs (keep := [0, 1]) (live := [4, 3, 2]) (md := true) ?_
    simp (disch := first | exact dis | fail) only [go_sem, seval, -reduceOfNat, -reduceNegSucc, drow, zb]
  | some p =>
   obtain ⟨⟨xk, xn, xt, xks, xp⟩, ⟨yk, yn, yt, yks, yp⟩⟩ := p
   have hna := yT hka
   cases hkb : zC (.mk bk bn bt bks bp) with
   | none =>
    obtain ⟨rfl, rfl⟩ := yi hka
    rcases kh hkb with he | ⟨rfl, hl⟩
    ·
     refine k.eval (by simp (disch := first | exact dis | fail) only [go_sem, seval, -reduceOfNat, -reduceNegSucc, drow, zb, yN, cpair, f23, he]; exact rfl) ?_
     try simp only [za, zg]
     simp only [Gcx]
     refine ⟨(.mk (.ofNat 6) an at_ [.mk xk xn xt xks xp, .mk yk yn yt yks yp] ap, .mk bk bn bt bks bp), ⟨g1, .inr hkb, g2⟩, ?_⟩
     refine k.gcs (keep := [0, 1]) (live := [4, 3, 2]) (md := true) ?_
     simp (disch := first | exact dis | fail) only [go_sem, seval, -reduceOfNat, -reduceNegSucc, drow, zb, yN]
    ·
     refine k.eval (by simp (disch := first | exact dis | fail) only [go_sem, seval, -reduceOfNat, -reduceNegSucc, drow, zb, yN, cpair, f23, hl]; exact rfl) ?_
     try simp only [za, zg]
     simp only [Gcx]
     refine ⟨(.mk (.ofNat 6) an at_ [.mk xk xn xt xks xp, .mk yk yn yt yks yp] ap, .mk (.ofNat 6) bn bt bks bp), ⟨g1, .inr hkb, g2⟩, ?_⟩
     refine k.gcs (keep := [0, 1]) (live := [4, 3, 2]) (md := true) ?_
     simp (disch := first | exact dis | fail) only [go_sem, seval, -reduceOfNat, -reduceNegSucc, drow, zb, yN]
   | some q =>
    obtain ⟨⟨uk, un, ut, uks, up⟩, ⟨vk, vn, vt, vks, vp⟩⟩ := q
    have hsp := px hka hkb
    simp only at hsp
    obtain ⟨rfl, rfl⟩ := yi hka
    obtain ⟨rfl, rfl⟩ := yi hkb
    rw [hsp] at g1
    have hc := uR (f := 13) h13 (a := .mk xk xn xt xks xp) (b := .mk uk un ut uks up) (by have := yc (.mk yk yn yt yks yp); omega)
    simp only [zb] at hc
    cases hsm : yd (.mk xk xn xt xks xp) (.mk uk un ut uks up) with
    | true =>
     rw [hsm] at hc g1
     refine k.eval (by simp (disch := first | exact dis | fail) only [go_sem, seval, -reduceOfNat, -reduceNegSucc, drow, zb, yN, cpair, f23, hc]; exact rfl) ?_
     try simp only [za]
     refine ⟨(.mk yk yn yt yks yp, .mk vk vn vt vks vp), ⟨by rw [← g1, Bool.true_and], by simp only; omega⟩, by simp only; omega, ?_⟩
     refine k.gcs (keep := [0, 1]) (live := [4, 3, 2]) (md := true) ?_
     simp (disch := first | exact dis | fail) only [go_sem, seval, -reduceOfNat, -reduceNegSucc, drow, zb]
    | false =>
     rw [hsm] at hc g1
     refine k.eval (by simp (disch := first | exact dis | fail) only [go_sem, seval, -reduceOfNat, -reduceNegSucc, drow, zb, yN, cpair, f23, hc]; exact rfl) ?_
     try simp only [za, zg]
     simp only [Gcx]
     rw [← g1]
     apply zd (Or.inr rfl)
     iterate 5 (simp (disch := first | exact dis | fail) only [go_sem, seval, -reduceOfNat, -reduceNegSucc] <;> exact rfl)
 ·rintro ⟨⟨ak, an, at_, aks, ap⟩, ⟨bk, bn, bt, bks, bp⟩⟩ ⟨g1, g2, g3⟩
  simp only at g1 g2 g3
  rw [jf g2] at g1
  simp only [yV, numD, yr, yg] at g1
  have hn := yZ (.mk ak an at_ aks ap)
  simp only [yg] at hn
  have hc := KS h31 (a := aks) (b := bks) (by omega)
  cases h1 : eqD ak bk with
  | false =>
   rw [h1] at g1; subst g1
   refine ze (k.eval (by simp (disch := first | exact dis | fail) only [go_sem, seval, -reduceOfNat, -reduceNegSucc, drow, zb, h1]; exact rfl) ?_)
   simp only [za]
   refine k.eval (by simp (disch := first | exact dis | fail) only [go_sem, seval, -reduceOfNat, -reduceNegSucc]; exact rfl) ?_
   try simp only [za, zg, Cut, if_true]
   apply zd (Or.inr rfl)
   iterate 5 (simp (disch := first | exact dis | fail) only [go_sem, seval, -reduceOfNat, -reduceNegSucc] <;> exact rfl)
  | true =>
   cases h2 : eqD an bn with
   | false =>
    rw [h1, h2] at g1; subst g1
    refine ze (k.eval (by simp (disch := first | exact dis | fail) only [go_sem, seval, -reduceOfNat, -reduceNegSucc, drow, zb, h1, h2]; exact rfl) ?_)
    simp only [za]
    refine k.eval (by simp (disch := first | exact dis | fail) only [go_sem, seval, -reduceOfNat, -reduceNegSucc]; exact rfl) ?_
    try simp only [za, zg, Cut, if_true]
    apply zd (Or.inr rfl)
    iterate 5 (simp (disch := first | exact dis | fail) only [go_sem, seval, -reduceOfNat, -reduceNegSucc] <;> exact rfl)
   | true =>
    cases h3 : eqS at_ bt with
    | true =>
     rw [h1, h2, h3] at g1; subst g1
     have h4 : at_ = bt := gX h3
     subst h4
     refine ze (k.eval (by simp (disch := first | exact dis | fail) only [go_sem, seval, -reduceOfNat, -reduceNegSucc, drow, zb, h1, h2, hc]; exact rfl) ?_)
     simp only [za]
     refine k.eval (by simp (disch := first | exact dis | fail) only [go_sem, seval, -reduceOfNat, -reduceNegSucc]; exact rfl) ?_
     try simp only [za, zg, Cut, if_true]
     apply zd (Or.inr rfl)
     iterate 5 (simp (disch := first | exact dis | fail) only [go_sem, seval, -reduceOfNat, -reduceNegSucc] <;> exact rfl)
    | false =>
     rw [h1, h2, h3] at g1; subst g1
     have h4 : ¬ at_ = bt := fun h => by rw [h, pe] at h3; cases h3
     refine ze (k.eval (by simp (disch := first | exact dis | fail) only [go_sem, seval, -reduceOfNat, -reduceNegSucc, drow, zb, h1, h2, h4]; exact rfl) ?_)
     simp only [za]
     refine k.eval (by simp (disch := first | exact dis | fail) only [go_sem, seval, -reduceOfNat, -reduceNegSucc]; exact rfl) ?_
     try simp only [za, zg, Cut, if_true]
     apply zd (Or.inr rfl)
     iterate 5 (simp (disch := first | exact dis | fail) only [go_sem, seval, -reduceOfNat, -reduceNegSucc] <;> exact rfl)
set_option maxRecDepth 100000
theorem lh {f : DT → DT → Bool} (l m : List DT) : zK f l m = (decide (l.length = m.length) && zK f l m) := by
 by_cases h : l.length = m.length
 ·rw [decide_eq_true h, Bool.true_and]
 ·rw [w5 h, Bool.and_false]
def pU (l m : List DT) (x y : DT) : Bool := decide (l.length = m.length) && (eqD (yV x) (yV y) && (eqD (numD x) (numD y) && (eqS (yr x) (yr y) && (decide ((yg x).length = (yg y).length) && (zK yd l m && zK yd (yg x) (yg y))))))
theorem gA : ∀ (k : Nat) (a b : DT), zu a < k → yd a b = pU (zm a).1 (zm b).1 (zm a).2 (zm b).2
 | 0, a, b, h => by omega
 | k + 1, a, b, h => by
  cases hka : zC a with
  | none =>
   rw [jf (.inl hka), yY hka]
   cases hkb : zC b with
   | none =>
    rw [yY hkb]
    simp only [pU, zK, List.length_nil, decide_true, Bool.true_and]
    rw [← lh]
   | some q =>
    rw [yq hkb]
    simp only [pU, List.length_nil, List.length_cons, show decide (0 = (zm q.2).1.length + 1) = false from decide_eq_false (by omega), Bool.false_and]
    obtain ⟨bk, bn, bt, bks, bp⟩ := b
    obtain ⟨ak, an, at_, aks, ap⟩ := a
    obtain ⟨rfl, rfl⟩ := yi hkb
    simp only [yV, numD, yr, yg]
    rcases kh hka with he | ⟨rfl, hl⟩
    ·rw [he, Bool.false_and]
    ·rw [w5 (by simpa using hl), Bool.and_false, Bool.and_false, Bool.and_false]
  | some p =>
   cases hkb : zC b with
   | none =>
    rw [jf (.inr hkb), yY hkb, yq hka]
    simp only [pU, List.length_nil, List.length_cons, show decide ((zm p.2).1.length + 1 = 0) = false from decide_eq_false (by omega), Bool.false_and]
    obtain ⟨bk, bn, bt, bks, bp⟩ := b
    obtain ⟨ak, an, at_, aks, ap⟩ := a
    obtain ⟨rfl, rfl⟩ := yi hka
    simp only [yV, numD, yr, yg]
    rcases kh hkb with he | ⟨rfl, hl⟩
    ·have : eqD (.ofNat 6) bk = false := ym (fun h => by rw [← h, zyB] at he; cases he)
     rw [this, Bool.false_and]
    ·rw [w5 (by simpa using fun h => hl h.symm), Bool.and_false, Bool.and_false, Bool.and_false]
   | some q =>
    have hn := yT (x := p.1) (y := p.2) hka
    have ih := gA k p.2 q.2 (by have := yc p.1; omega)
    rw [px hka hkb, yq hka, yq hkb, ih]
    have e : decide ((zm p.2).1.length + 1 = (zm q.2).1.length + 1) = decide ((zm p.2).1.length = (zm q.2).1.length) := decide_eq_decide.2 (by omega)
    simp only [pU, zK, List.length_cons, e]
    cases yd p.1 q.1
    ·simp only [Bool.false_and, Bool.and_false]
    ·simp only [Bool.true_and]
def qH (n : Nat) : DT → AObj
 | .mk k m t ks p => .row 24 [.int .i64 k, .int .i64 m, .str t, .lst n false (zl ks), .int .i64 p] false false
noncomputable def kC (N : Nat) : List AV → St → Option (AV × St) := orc0 kq (fun x => zu x.1 < N ∧ zu x.2 < 100000) (fun x => .bool (yd x.1 x.2))
theorem jl {O : Orc} {f N : Nat} (h : O f = some (kC N)) {a b : DT} (hn : zu a < N) (hb : zu b < 100000) (s : St) : (evW env O).call f [.agg (zF a), .agg (zF b)] s = some (.bool (yd a b), s) := by
 rw [zq h, kC, zT ZQ s (a, b) ⟨hn, hb⟩ (by simp only [kq, encD, wkL, wkV, x0])]
theorem Wi {P : Program} {w0 : World} (B : Bx P w0) {O : Orc} (hO : OrcOk P w0 O) (h27 : O 27 = some gItm) {N : Nat} (h14 : O 14 = some (kC N)) (hN2 : N ≤ 100000) (a0 b0 : DT) (hN : zu a0 < N + 1) (hb : zu b0 < 100000) :
  SC P w0 14 [encD a0, encD b0] (H [] 0 true) (.bool (yd a0 b0)) (H [] 0 true) := by
 refine Is.sc hO B.mixed B.glob B.env 0 (show env.funs.get 14 = some f14 from rfl) (Nat.le_of_ble_eq_true rfl) z8 fun C k => ?_
 rw [gA _ a0 b0 (Nat.lt_succ_self _)]
 have hni := w9 a0
 have hnb := w9 b0
 have hla := yL (zm a0).1
 have hlb := yL (zm b0).1
 have hca := vy (f := 27) h27 (d := a0) (by omega)
 have hcb := vy (f := 27) h27 (d := b0) (by omega)
 simp only [itR] at hca hcb
 have hx0 := jB a0
 revert hni hnb hla hlb hca hcb
 generalize (zm a0).1 = l
 generalize (zm a0).2 = x
 generalize (zm b0).1 = m
 generalize (zm b0).2 = y
 intro hni hnb hla hlb hca hcb
 have hkx := yZ x
 have hlx := yL (yg x)
 have hky := yZ y
 obtain ⟨xk, xn, xt, xks, xp⟩ := x
 obtain ⟨yk, yn, yt, yks, yp⟩ := y
 obtain ⟨ak, an, at_, aks, ap⟩ := a0
 obtain ⟨bk, bn, bt, bks, bp⟩ := b0
 simp only [encD, zb] at hca hcb
 have hpx : zo (zl xks) = true := yG xks
 simp only [yg] at hkx hlx hky
 unfold f14
 simp only [Ko, Kg, Kn, Kd, Ki]
 refine ze (k.eval (by simp (disch := first | exact dis | fail) only [go_sem, seval, -reduceOfNat, -reduceNegSucc, encD, zb]; exact rfl) ?_)
 simp only [za]
 refine ze (k.eval (by simp (disch := first | exact dis | fail) only [go_sem, seval, -reduceOfNat, -reduceNegSucc, hca]; exact rfl) ?_)
 simp only [za]
 refine ze (k.eval (by simp (disch := first | exact dis | fail) only [go_sem, seval, -reduceOfNat, -reduceNegSucc, hcb]; exact rfl) ?_)
 simp only [za]
 rw [show pU l m (.mk xk xn xt xks xp) (.mk yk yn yt yks yp) = (decide (l.length = m.length) && (eqD xk yk && (eqD xn yn && (eqS xt yt && (decide (xks.length = yks.length) && (zK yd l m && zK yd xks yks)))))) from rfl]
 by_cases h0 : l.length = m.length
 case neg =>
  rw [decide_eq_false h0, Bool.false_and]
  refine k.eval (by simp (disch := first | exact dis | fail) only [go_sem, seval, -reduceOfNat, -reduceNegSucc, h0]; exact rfl) ?_
  try simp only [za, zg, Cut, if_true]
  apply zd (Or.inr rfl)
  iterate 5 (simp (disch := first | exact dis | fail) only [go_sem, seval, -reduceOfNat, -reduceNegSucc] <;> exact rfl)
 rw [decide_eq_true h0, Bool.true_and]
 cases h1 : eqD xk yk with
 | false =>
  refine k.eval (by simp (disch := first | exact dis | fail) only [go_sem, seval, -reduceOfNat, -reduceNegSucc, h0, h1]; exact rfl) ?_
  try simp only [za, zg, Cut, if_true]
  apply zd (Or.inr rfl)
  iterate 5 (simp (disch := first | exact dis | fail) only [go_sem, seval, -reduceOfNat, -reduceNegSucc] <;> exact rfl)
 | true =>
 cases h2 : eqD xn yn with
 | false =>
  refine k.eval (by simp (disch := first | exact dis | fail) only [go_sem, seval, -reduceOfNat, -reduceNegSucc, h0, h1, h2]; exact rfl) ?_
  try simp only [za, zg, Cut, if_true]
  apply zd (Or.inr rfl)
  iterate 5 (simp (disch := first | exact dis | fail) only [go_sem, seval, -reduceOfNat, -reduceNegSucc] <;> exact rfl)
 | true =>
 cases h3 : eqS xt yt with
 | false =>
  have h4 : ¬ xt = yt := fun h => by rw [h, pe] at h3; cases h3
  refine k.eval (by simp (disch := first | exact dis | fail) only [go_sem, seval, -reduceOfNat, -reduceNegSucc, h0, h1, h2, h4]; exact rfl) ?_
  try simp only [za, zg, Cut, if_true]
  apply zd (Or.inr rfl)
  iterate 5 (simp (disch := first | exact dis | fail) only [go_sem, seval, -reduceOfNat, -reduceNegSucc] <;> exact rfl)
 | true =>
 have h4 : xt = yt := gX h3
 subst h4
 by_cases h5 : xks.length = yks.length
 case neg =>
  rw [decide_eq_false h5]
  refine k.eval (by simp (disch := first | exact dis | fail) only [go_sem, seval, -reduceOfNat, -reduceNegSucc, h0, h1, h2, h5]; exact rfl) ?_
  try simp only [za, zg, Cut, if_true]
  apply zd (Or.inr rfl)
  iterate 5 (simp (disch := first | exact dis | fail) only [go_sem, seval, -reduceOfNat, -reduceNegSucc] <;> exact rfl)
 rw [decide_eq_true h5]
 simp only [Bool.true_and]
 refine ze (k.eval (by simp (disch := first | exact dis | fail) only [go_sem, seval, -reduceOfNat, -reduceNegSucc, h0, h1, h2, h5]; exact rfl) ?_)
 simp only [za]
 refine wG (p := zK yd l m = true) ⟨tmL [(8, .ptr 1 0), (6, .ptr 0 0)], []⟩ (H [some (qH yks.length (.mk xk xn xt xks xp)), some (drow (.mk yk yn xt yks yp))] 0 true) ?_ ?_
 ·
  refine ze (k.eval (by simp (disch := first | exact dis | fail) only [go_sem, seval, -reduceOfNat, -reduceNegSucc]; exact rfl) ?_)
  simp only [za]
  refine zw (zI (k.gcL [2, 3] [9, 8, 7, 6, 5] true (fr1 := ⟨tmL [(9, .int .i64 (.ofNat 0)), (8, .ptr 1 0), (7, .lst m.length false (zl m)), (6, .ptr 0 0), (5, .lst m.length false (zl l))], []⟩) (s1 := H [some (qH yks.length (.mk xk xn xt xks xp)), some (drow (.mk yk yn xt yks yp))] 0 true) (by simp (disch := first | exact dis | fail) only [go_sem, seval, -reduceOfNat, -reduceNegSucc, drow, qH, zb]) ?_))
  refine zV (fun i : Nat => l.length - i) (fun i => ⟨tmL [(9, .int .i64 (.ofNat i)), (8, .ptr 1 0), (7, .lst m.length false (zl m)), (6, .ptr 0 0), (5, .lst m.length false (zl l))], []⟩) (fun _ => H [some (qH yks.length (.mk xk xn xt xks xp)), some (drow (.mk yk yn xt yks yp))] 0 true) (fun i => i ≤ l.length ∧ zK yd (l.drop i) (m.drop i) = zK yd l m) (fun i hi => ?_) 0 ⟨Nat.zero_le _, rfl⟩
  obtain ⟨g1, g2⟩ := hi
  rcases zS l i with ⟨hi, hd⟩ | ⟨u, hi, hd⟩
  ·have hlt : ¬ i < m.length := by omega
   have hd2 : m.drop i = [] := List.drop_eq_nil_of_le (by omega)
   rw [hd, hd2] at g2
   refine k.eval (by simp (disch := first | exact dis | fail) only [go_sem, seval, -reduceOfNat, -reduceNegSucc, hlt]; exact rfl) ?_
   try simp only [za, zg]
   simp only [CutP]
   refine ⟨g2.symm, ?_⟩
   refine k.gcs (keep := [0, 1]) (live := [8, 6]) (md := true) ?_
   simp (disch := first | exact dis | fail) only [go_sem, seval, -reduceOfNat, -reduceNegSucc, drow, qH, zb]
  ·rcases zS m i with ⟨hi2, _⟩ | ⟨v, hi2, hd2⟩
   ·omega
   have hnx : zu u < N := by
    have h1 : u ∈ l := List.mem_of_mem_drop (by rw [hd]; exact List.mem_cons_self)
    have := z6 h1; have := yc (.mk xk xn xt xks xp); omega
   have hnv : zu v < 100000 := by
    have h1 : v ∈ m := List.mem_of_mem_drop (by rw [hd2]; exact List.mem_cons_self)
    have := z6 h1; omega
   have hc := jl (f := 14) h14 (b := v) hnx hnv
   have hdr : z4 (i * 5) (zl l) = zF u ++ zl (l.drop (i + 1)) := by rw [yu, hd, zM]
   have hdr2 : z4 (i * 5) (zl m) = zF v ++ zl (m.drop (i + 1)) := by rw [yu, hd2, zM]
   rw [hd, hd2] at g2
   simp only [zK] at g2
   obtain ⟨uk, un, ut, uks, up⟩ := u
   obtain ⟨vk, vn, vt, vks, vp⟩ := v
   simp only [zb] at hc
   cases hsm : yd (.mk uk un ut uks up) (.mk vk vn vt vks vp) with
   | true =>
    rw [hsm] at hc g2
    refine k.eval (by simp (disch := first | exact dis | fail) only [go_sem, seval, -reduceOfNat, -reduceNegSucc, drow, qH, zb, hi2, hdr, hdr2, hc]; exact rfl) ?_
    try simp only [za]
    refine ⟨i + 1, ⟨by omega, by rw [← g2, Bool.true_and]⟩, by omega, ?_⟩
    refine k.gcs (keep := [0, 1]) (live := [9, 8, 7, 6, 5]) (md := true) ?_
    simp (disch := first | exact dis | fail) only [go_sem, seval, -reduceOfNat, -reduceNegSucc, drow, qH, zb]
   | false =>
    rw [hsm] at hc g2
    refine k.eval (by simp (disch := first | exact dis | fail) only [go_sem, seval, -reduceOfNat, -reduceNegSucc, drow, qH, zb, hi2, hdr, hdr2, hc]; exact rfl) ?_
    try simp only [za, zg]
    simp only [CutP]
    rw [← g2]
    apply zd (Or.inr rfl)
    iterate 5 (simp (disch := first | exact dis | fail) only [go_sem, seval, -reduceOfNat, -reduceNegSucc] <;> exact rfl)
 intro hp
 rw [hp, Bool.true_and]
 refine wG (p := zK yd xks yks = true) ⟨tmL [], []⟩ (H [] 0 true) ?_ ?_
 ·
  refine ze (k.eval (by simp (disch := first | exact dis | fail) only [go_sem, seval, -reduceOfNat, -reduceNegSucc]; exact rfl) ?_)
  simp only [za]
  refine zw (zI (k.gcL [0, 1] [10, 8, 6] true (fr1 := ⟨tmL [(10, .int .i64 (.ofNat 0)), (8, .ptr 1 0), (6, .ptr 0 0)], []⟩) (s1 := H [some (qH yks.length (.mk xk xn xt xks xp)), some (drow (.mk yk yn xt yks yp))] 0 true) (by simp (disch := first | exact dis | fail) only [go_sem, seval, -reduceOfNat, -reduceNegSucc, drow, qH, zb]) ?_))
  refine zV (fun i : Nat => xks.length - i) (fun i => ⟨tmL [(10, .int .i64 (.ofNat i)), (8, .ptr 1 0), (6, .ptr 0 0)], []⟩) (fun _ => H [some (qH yks.length (.mk xk xn xt xks xp)), some (drow (.mk yk yn xt yks yp))] 0 true) (fun i => i ≤ xks.length ∧ zK yd (xks.drop i) (yks.drop i) = zK yd xks yks) (fun i hi => ?_) 0 ⟨Nat.zero_le _, rfl⟩
  obtain ⟨g1, g2⟩ := hi
  rcases zS xks i with ⟨hi, hd⟩ | ⟨u, hi, hd⟩
  ·have hlt : ¬ i < yks.length := by omega
   have hd2 : yks.drop i = [] := List.drop_eq_nil_of_le (by omega)
   rw [hd, hd2] at g2
   refine k.eval (by simp (disch := first | exact dis | fail) only [go_sem, seval, -reduceOfNat, -reduceNegSucc, drow, qH, zb, hlt]; exact rfl) ?_
   try simp only [za, zg]
   simp only [CutP]
   refine ⟨g2.symm, ?_⟩
   refine k.gcs (keep := []) (live := []) (md := true) ?_
   simp (disch := first | exact dis | fail) only [go_sem, seval, -reduceOfNat, -reduceNegSucc]
  ·rcases zS yks i with ⟨hi2, _⟩ | ⟨v, hi2, hd2⟩
   ·omega
   have hnx : zu u < N := by
    have h1 : u ∈ xks := List.mem_of_mem_drop (by rw [hd]; exact List.mem_cons_self)
    have := z6 h1; omega
   have hnv : zu v < 100000 := by
    have h1 : v ∈ yks := List.mem_of_mem_drop (by rw [hd2]; exact List.mem_cons_self)
    have := z6 h1; omega
   have hc := jl (f := 14) h14 (b := v) hnx hnv
   have hdr : z4 (i * 5) (zl xks) = zF u ++ zl (xks.drop (i + 1)) := by rw [yu, hd, zM]
   have hdr2 : z4 (i * 5) (zl yks) = zF v ++ zl (yks.drop (i + 1)) := by rw [yu, hd2, zM]
   rw [hd, hd2] at g2
   simp only [zK] at g2
   obtain ⟨uk, un, ut, uks, up⟩ := u
   obtain ⟨vk, vn, vt, vks, vp⟩ := v
   simp only [zb] at hc
   cases hsm : yd (.mk uk un ut uks up) (.mk vk vn vt vks vp) with
   | true =>
    rw [hsm] at hc g2
    refine k.eval (by simp (disch := first | exact dis | fail) only [go_sem, seval, -reduceOfNat, -reduceNegSucc, drow, qH, zb, hi2, hdr, hdr2, hc]; exact rfl) ?_
    try simp only [za]
    refine ⟨i + 1, ⟨by omega, by rw [← g2, Bool.true_and]⟩, by omega, ?_⟩
    refine k.gcs (keep := [0, 1]) (live := [10, 8, 6]) (md := true) ?_
    simp (disch := first | exact dis | fail) only [go_sem, seval, -reduceOfNat, -reduceNegSucc, drow, qH, zb]
   | false =>
    rw [hsm] at hc g2
    refine k.eval (by simp (disch := first | exact dis | fail) only [go_sem, seval, -reduceOfNat, -reduceNegSucc, drow, qH, zb, hi2, hdr, hdr2, hc]; exact rfl) ?_
    try simp only [za, zg]
    simp only [CutP]
    rw [← g2]
    apply zd (Or.inr rfl)
    iterate 5 (simp (disch := first | exact dis | fail) only [go_sem, seval, -reduceOfNat, -reduceNegSucc] <;> exact rfl)
 ·intro hp
  rw [hp]
  refine ze (k.eval (by simp (disch := first | exact dis | fail) only [go_sem, seval, -reduceOfNat, -reduceNegSucc]; exact rfl) ?_)
  simp only [za]
  refine k.eval (by simp (disch := first | exact dis | fail) only [go_sem, seval, -reduceOfNat, -reduceNegSucc]; exact rfl) ?_
  try simp only [za, zg, Cut, if_true]
  apply zd (Or.inr rfl)
  iterate 5 (simp (disch := first | exact dis | fail) only [go_sem, seval, -reduceOfNat, -reduceNegSucc] <;> exact rfl)
set_option maxRecDepth 100000
def isCh (c : Int) : Bool := match c with
 | .ofNat n => zr n
 | .negSucc _ => false
theorem zf {n : Nat} : zr n = true ↔ n ≤ 1114111 ∧ (n < 55296 ∨ 57343 < n) := by
 unfold zr
 rw [wK]
 by_cases h : n < 55296
 ·rw [if_pos h]; simp; omega
 ·rw [if_neg h, Bool.and_eq_true, zE, zE]; omega
theorem QI {n : Nat} : isCh (.ofNat n) = decide (n ≤ 1114111 ∧ (n < 55296 ∨ 57343 < n)) := by
 show zr n = _
 by_cases h : n ≤ 1114111 ∧ (n < 55296 ∨ 57343 < n)
 ·rw [zf.2 h]; exact (decide_eq_true h).symm
 ·rw [decide_eq_false h]; cases hv : zr n with
  | false => rfl
  | true => exact absurd (zf.1 hv) h
def encI (c : Int) : List AV := [.int .i64 c]
theorem HN : ∀ x y, encI x = encI y → x = y := fun x y h => by
 simp only [encI, List.cons.injEq, AV.int.injEq, true_and, and_true] at h; exact h
noncomputable def gIs : List AV → St → Option (AV × St) := orc0 encI (fun _ => True) (fun c => .bool (isCh c))
theorem lf {O : Orc} {f : Nat} (h : O f = some gIs) (c : Int) (s : St) : (evW env O).call f [.int .i64 c] s = some (.bool (isCh c), s) := by
 rw [zq h, gIs, zT HN s c trivial rfl]
theorem zxj {P : Program} {w0 : World} (B : Bx P w0) {O : Orc} (hO : OrcOk P w0 O) (o82 : O 82 = none) (c : Int) :
  SC P w0 51 (encI c) (H [] 0 true) (.bool (isCh c)) (H [] 0 true) := by
 refine Is.sc hO B.mixed B.glob B.env 0 (show env.funs.get 51 = some f51 from rfl) (Nat.le_of_ble_eq_true rfl) z8 fun C k => ?_
 have cv := @z5 env O _ _ o82 (show env.funs.get 82 = some f82 from rfl) rfl
 unfold f51
 simp only [Ko, Kg, Ki]
 cases c with
 | negSucc m =>
  refine k.eval (by simp (disch := first | exact dis | fail) only [go_sem, seval, -reduceOfNat, -reduceNegSucc, encI]; exact rfl) ?_
  try simp only [za, zg, Cut, if_true]
  apply zd (Or.inr rfl)
  iterate 5 (simp (disch := first | exact dis | fail) only [go_sem, seval, -reduceOfNat, -reduceNegSucc, isCh] <;> exact rfl)
 | ofNat n =>
  rw [QI]
  by_cases h1 : n ≤ 1114111
  ·by_cases h2 : n < 55296
   ·rw [decide_eq_true ⟨h1, .inl h2⟩]
    refine k.eval (by simp (disch := first | exact dis | fail) only [go_sem, seval, -reduceOfNat, -reduceNegSucc, encI, h2, cv, f82]; exact rfl) ?_
    try simp only [za, zg, Cut, if_true]
    apply zd (Or.inr rfl)
    iterate 5 (simp (disch := first | exact dis | fail) only [go_sem, seval, -reduceOfNat, -reduceNegSucc] <;> exact rfl)
   ·by_cases h3 : 57343 < n
    ·rw [decide_eq_true ⟨h1, .inr h3⟩]
     refine k.eval (by simp (disch := first | exact dis | fail) only [go_sem, seval, -reduceOfNat, -reduceNegSucc, encI, h2, h3, cv, f82]; exact rfl) ?_
     try simp only [za, zg, Cut, if_true]
     apply zd (Or.inr rfl)
     iterate 5 (simp (disch := first | exact dis | fail) only [go_sem, seval, -reduceOfNat, -reduceNegSucc] <;> exact rfl)
    ·rw [decide_eq_false (by omega)]
     refine k.eval (by simp (disch := first | exact dis | fail) only [go_sem, seval, -reduceOfNat, -reduceNegSucc, encI, h2, h3, cv, f82]; exact rfl) ?_
     try simp only [za, zg, Cut, if_true]
     apply zd (Or.inr rfl)
     iterate 5 (simp (disch := first | exact dis | fail) only [go_sem, seval, -reduceOfNat, -reduceNegSucc] <;> exact rfl)
  ·rw [decide_eq_false (by omega)]
   refine k.eval (by simp (disch := first | exact dis | fail) only [go_sem, seval, -reduceOfNat, -reduceNegSucc, encI]; exact rfl) ?_
   try simp only [za, zg, Cut, if_true]
   apply zd (Or.inr rfl)
   iterate 5 (simp (disch := first | exact dis | fail) only [go_sem, seval, -reduceOfNat, -reduceNegSucc] <;> exact rfl)
theorem GG {P : Program} {w0 : World} (B : Bx P w0) {O : Orc} (hO : OrcOk P w0 O) (c : Int) :
  SC P w0 30 (encI c) (H [] 0 true) (.bool (isCh c)) (H [] 0 true) := by
 refine Is.sc hO B.mixed B.glob B.env 0 (show env.funs.get 30 = some f30 from rfl) (Nat.le_of_ble_eq_true rfl) z8 fun C k => ?_
 unfold f30
 simp only [Ko, Kg, Ki]
 cases c with
 | negSucc m =>
  refine k.eval (by simp (disch := first | exact dis | fail) only [go_sem, seval, -reduceOfNat, -reduceNegSucc, encI]; exact rfl) ?_
  try simp only [za, zg, Cut, if_true]
  apply zd (Or.inr rfl)
  iterate 5 (simp (disch := first | exact dis | fail) only [go_sem, seval, -reduceOfNat, -reduceNegSucc, isCh] <;> exact rfl)
 | ofNat n =>
  rw [QI]
  by_cases h1 : n ≤ 1114111
  ·by_cases h2 : n < 55296
   ·rw [decide_eq_true ⟨h1, .inl h2⟩]
    refine k.eval (by simp (disch := first | exact dis | fail) only [go_sem, seval, -reduceOfNat, -reduceNegSucc, encI, h2]; exact rfl) ?_
    try simp only [za, zg, Cut, if_true]
    apply zd (Or.inr rfl)
    iterate 5 (simp (disch := first | exact dis | fail) only [go_sem, seval, -reduceOfNat, -reduceNegSucc] <;> exact rfl)
   ·by_cases h3 : 57343 < n
    ·rw [decide_eq_true ⟨h1, .inr h3⟩]
     refine k.eval (by simp (disch := first | exact dis | fail) only [go_sem, seval, -reduceOfNat, -reduceNegSucc, encI, h2, h3]; exact rfl) ?_
     try simp only [za, zg, Cut, if_true]
     apply zd (Or.inr rfl)
     iterate 5 (simp (disch := first | exact dis | fail) only [go_sem, seval, -reduceOfNat, -reduceNegSucc] <;> exact rfl)
    ·rw [decide_eq_false (by omega)]
     refine k.eval (by simp (disch := first | exact dis | fail) only [go_sem, seval, -reduceOfNat, -reduceNegSucc, encI, h2, h3]; exact rfl) ?_
     try simp only [za, zg, Cut, if_true]
     apply zd (Or.inr rfl)
     iterate 5 (simp (disch := first | exact dis | fail) only [go_sem, seval, -reduceOfNat, -reduceNegSucc] <;> exact rfl)
  ·rw [decide_eq_false (by omega)]
   refine k.eval (by simp (disch := first | exact dis | fail) only [go_sem, seval, -reduceOfNat, -reduceNegSucc, encI]; exact rfl) ?_
   try simp only [za, zg, Cut, if_true]
   apply zd (Or.inr rfl)
   iterate 5 (simp (disch := first | exact dis | fail) only [go_sem, seval, -reduceOfNat, -reduceNegSucc] <;> exact rfl)
set_option maxRecDepth 100000
theorem KO (a : Nat) : binI .quo .i64 (.ofNat a) .i64 (.ofNat 64) = some (.int .i64 (xD .i64 (.ofNat (a / 64)))) := rfl
theorem Q3 (a : Nat) : binI .quo .i64 (.ofNat a) .i64 (.ofNat 4096) = some (.int .i64 (xD .i64 (.ofNat (a / 4096)))) := rfl
theorem Jv (a : Nat) : binI .quo .i64 (.ofNat a) .i64 (.ofNat 262144) = some (.int .i64 (xD .i64 (.ofNat (a / 262144)))) := rfl
theorem j3 (a : Nat) : binI .rem .i64 (.ofNat a) .i64 (.ofNat 64) = some (.int .i64 (.ofNat (a % 64))) := rfl
theorem zxf (a : Nat) : binI .rem .i64 (.ofNat a) .i64 (.ofNat 32) = some (.int .i64 (.ofNat (a % 32))) := rfl
theorem zy0 (a : Nat) : binI .rem .i64 (.ofNat a) .i64 (.ofNat 16) = some (.int .i64 (.ofNat (a % 16))) := rfl
theorem rem8 (a : Nat) : binI .rem .i64 (.ofNat a) .i64 (.ofNat 8) = some (.int .i64 (.ofNat (a % 8))) := rfl
def x6 (l : List Nat) : Nat := match l with
 | [] => 0
 | [b] => b
 | [b, _] => b % 32
 | [b, _, _] => b % 16
 | b :: _ => b % 8
def w7 : List Nat → Nat → Nat
 | [], n => n
 | b :: r, n => w7 r (64 * n + b % 64)
def told (l : List Nat) : Nat := w7 (l.drop 1) (x6 l)
def encB (l : List Nat) : List AV := [.lst l.length false (zh l)]
theorem uG : ∀ x y, encB x = encB y → x = y := fun x y h => by
 simp only [encB, List.cons.injEq, AV.lst.injEq, true_and, and_true] at h; exact vJ h.2
theorem vu (l : List Nat) : zo (encB l) = true := by simp only [encB, zD, yz, zJ, Bool.and_self]
theorem j6 (l : List Nat) (e : Bool) : wkL [AV.lst l.length e (zh l)] = encB l := by simp only [encB, wkL, wkV, uX]
noncomputable def X8 : List AV → St → Option (AV × St) := orc0 encB (fun l => 1 ≤ l.length ∧ l.length ≤ 4 ∧ Byt l) (fun l => .int .i64 (.ofNat (told l)))
theorem JY {O : Orc} (h : O 102 = some X8) {l : List Nat} (h1 : 1 ≤ l.length) (h2 : l.length ≤ 4) (h3 : Byt l) {n : Nat} (hn : n = l.length) (e : Bool) (s : St) : (evW env O).call 102 [.lst n e (zh l)] s = some (.int .i64 (.ofNat (told l)), s) := by
 subst hn
 rw [zq h, X8, zT uG s l ⟨h1, h2, h3⟩ (j6 l e)]
theorem LW {P : Program} {w0 : World} (B : Bx P w0) {O : Orc} (hO : OrcOk P w0 O) (l : List Nat) (h1 : 1 ≤ l.length) (h2 : l.length ≤ 4) (hb : Byt l) :
  SC P w0 102 (encB l) (H [] 0 true) (.int .i64 (.ofNat (told l))) (H [] 0 true) := by
 refine Is.sc hO B.mixed B.glob B.env 0 (show env.funs.get 102 = some f102 from rfl) (Nat.le_of_ble_eq_true rfl) z8 fun C k => ?_
 unfold f102
 simp only [Ko, Ki]
 match l, h1, h2, hb with
 | [b0], _, _, hb =>
  have h0 : b0 < 256 := hb b0 (by simp)
  refine ze (k.eval (by simp (disch := first | exact dis | fail) only [go_sem, seval, -reduceOfNat, -reduceNegSucc, encB]; exact rfl) ?_)
  simp only [za]
  refine ze (k.eval (by simp (disch := first | exact dis | fail) only [go_sem, seval, -reduceOfNat, -reduceNegSucc]; exact rfl) ?_)
  simp only [za]
  refine ze (k.eval (by simp (disch := first | exact dis | fail) only [go_sem, seval, -reduceOfNat, -reduceNegSucc]; exact rfl) ?_)
  simp only [za]
  refine ze (k.eval (by simp (disch := first | exact dis | fail) only [go_sem, seval, -reduceOfNat, -reduceNegSucc]; exact rfl) ?_)
  simp only [za]
  refine ze (k.eval (by simp (disch := first | exact dis | fail) only [go_sem, seval, -reduceOfNat, -reduceNegSucc]; exact rfl) ?_)
  simp only [za]
  refine ze (k.eval (by simp (disch := first | exact dis | fail) only [go_sem, seval, -reduceOfNat, -reduceNegSucc]; exact rfl) ?_)
  simp only [za]
  refine ze ?_
  refine ze (k.eval (by simp (disch := first | exact dis | fail) only [go_sem, seval, -reduceOfNat, -reduceNegSucc]; exact rfl) ?_)
  simp only [za]
  refine zw (zI ?_)
  refine yI (k.ev ?_)
  simp (disch := first | exact dis | fail) only [go_sem, seval, -reduceOfNat, -reduceNegSucc]
  refine ⟨_, rfl, ?_⟩
  simp only [za, zg]
  refine k.eval (by simp (disch := first | exact dis | fail) only [go_sem, seval, -reduceOfNat, -reduceNegSucc]; exact rfl) ?_
  try simp only [za, zg, Cut, if_true]
  apply zd (Or.inr rfl)
  iterate 5 (simp (disch := first | exact dis | fail) only [go_sem, seval, -reduceOfNat, -reduceNegSucc, told, x6, w7, List.drop_succ_cons, List.drop_zero] <;> exact rfl)
 | [b0, b1], _, _, hb =>
  have h0 : b0 < 256 := hb b0 (by simp)
  have h1 : b1 < 256 := hb b1 (by simp)
  refine ze (k.eval (by simp (disch := first | exact dis | fail) only [go_sem, seval, -reduceOfNat, -reduceNegSucc, encB]; exact rfl) ?_)
  simp only [za]
  refine ze (k.eval (by simp (disch := first | exact dis | fail) only [go_sem, seval, -reduceOfNat, -reduceNegSucc]; exact rfl) ?_)
  simp only [za]
  refine ze (k.eval (by simp (disch := first | exact dis | fail) only [go_sem, seval, -reduceOfNat, -reduceNegSucc]; exact rfl) ?_)
  simp only [za]
  refine ze (k.eval (by simp (disch := first | exact dis | fail) only [go_sem, seval, -reduceOfNat, -reduceNegSucc, zxf]; exact rfl) ?_)
  simp only [za]
  refine ze (k.eval (by simp (disch := first | exact dis | fail) only [go_sem, seval, -reduceOfNat, -reduceNegSucc]; exact rfl) ?_)
  simp only [za]
  refine ze (k.eval (by simp (disch := first | exact dis | fail) only [go_sem, seval, -reduceOfNat, -reduceNegSucc]; exact rfl) ?_)
  simp only [za]
  refine ze ?_
  refine ze (k.eval (by simp (disch := first | exact dis | fail) only [go_sem, seval, -reduceOfNat, -reduceNegSucc]; exact rfl) ?_)
  simp only [za]
  refine zw (zI ?_)
  refine yI (k.ev ?_)
  simp (disch := first | exact dis | fail) only [go_sem, seval, -reduceOfNat, -reduceNegSucc, j3, mulI]
  refine ⟨_, rfl, ?_⟩
  simp only [za]
  refine yI (k.ev ?_)
  simp (disch := first | exact dis | fail) only [go_sem, seval, -reduceOfNat, -reduceNegSucc]
  refine ⟨_, rfl, ?_⟩
  simp only [za, zg]
  refine k.eval (by simp (disch := first | exact dis | fail) only [go_sem, seval, -reduceOfNat, -reduceNegSucc]; exact rfl) ?_
  try simp only [za, zg, Cut, if_true]
  apply zd (Or.inr rfl)
  iterate 5 (simp (disch := first | exact dis | fail) only [go_sem, seval, -reduceOfNat, -reduceNegSucc, told, x6, w7, List.drop_succ_cons, List.drop_zero, Nat.mul_comm] <;> exact rfl)
 | [b0, b1, b2], _, _, hb =>
  have h0 : b0 < 256 := hb b0 (by simp)
  have h1 : b1 < 256 := hb b1 (by simp)
  have h2 : b2 < 256 := hb b2 (by simp)
  refine ze (k.eval (by simp (disch := first | exact dis | fail) only [go_sem, seval, -reduceOfNat, -reduceNegSucc, encB]; exact rfl) ?_)
  simp only [za]
  refine ze (k.eval (by simp (disch := first | exact dis | fail) only [go_sem, seval, -reduceOfNat, -reduceNegSucc]; exact rfl) ?_)
  simp only [za]
  refine ze (k.eval (by simp (disch := first | exact dis | fail) only [go_sem, seval, -reduceOfNat, -reduceNegSucc]; exact rfl) ?_)
  simp only [za]
  refine ze (k.eval (by simp (disch := first | exact dis | fail) only [go_sem, seval, -reduceOfNat, -reduceNegSucc]; exact rfl) ?_)
  simp only [za]
  refine ze (k.eval (by simp (disch := first | exact dis | fail) only [go_sem, seval, -reduceOfNat, -reduceNegSucc, zy0]; exact rfl) ?_)
  simp only [za]
  refine ze (k.eval (by simp (disch := first | exact dis | fail) only [go_sem, seval, -reduceOfNat, -reduceNegSucc]; exact rfl) ?_)
  simp only [za]
  refine ze ?_
  refine ze (k.eval (by simp (disch := first | exact dis | fail) only [go_sem, seval, -reduceOfNat, -reduceNegSucc]; exact rfl) ?_)
  simp only [za]
  refine zw (zI ?_)
  refine yI (k.ev ?_)
  simp (disch := first | exact dis | fail) only [go_sem, seval, -reduceOfNat, -reduceNegSucc, j3, mulI]
  refine ⟨_, rfl, ?_⟩
  simp only [za]
  refine yI (k.ev ?_)
  simp (disch := first | exact dis | fail) only [go_sem, seval, -reduceOfNat, -reduceNegSucc, j3, mulI]
  refine ⟨_, rfl, ?_⟩
  simp only [za]
  refine yI (k.ev ?_)
  simp (disch := first | exact dis | fail) only [go_sem, seval, -reduceOfNat, -reduceNegSucc]
  refine ⟨_, rfl, ?_⟩
  simp only [za, zg]
  refine k.eval (by simp (disch := first | exact dis | fail) only [go_sem, seval, -reduceOfNat, -reduceNegSucc]; exact rfl) ?_
  try simp only [za, zg, Cut, if_true]
  apply zd (Or.inr rfl)
  iterate 5 (simp (disch := first | exact dis | fail) only [go_sem, seval, -reduceOfNat, -reduceNegSucc, told, x6, w7, List.drop_succ_cons, List.drop_zero, Nat.mul_comm] <;> exact rfl)
 | [b0, b1, b2, b3], _, _, hb =>
  have h0 : b0 < 256 := hb b0 (by simp)
  have h1 : b1 < 256 := hb b1 (by simp)
  have h2 : b2 < 256 := hb b2 (by simp)
  have h3 : b3 < 256 := hb b3 (by simp)
  refine ze (k.eval (by simp (disch := first | exact dis | fail) only [go_sem, seval, -reduceOfNat, -reduceNegSucc, encB]; exact rfl) ?_)
  simp only [za]
  refine ze (k.eval (by simp (disch := first | exact dis | fail) only [go_sem, seval, -reduceOfNat, -reduceNegSucc]; exact rfl) ?_)
  simp only [za]
  refine ze (k.eval (by simp (disch := first | exact dis | fail) only [go_sem, seval, -reduceOfNat, -reduceNegSucc]; exact rfl) ?_)
  simp only [za]
  refine ze (k.eval (by simp (disch := first | exact dis | fail) only [go_sem, seval, -reduceOfNat, -reduceNegSucc]; exact rfl) ?_)
  simp only [za]
  refine ze (k.eval (by simp (disch := first | exact dis | fail) only [go_sem, seval, -reduceOfNat, -reduceNegSucc]; exact rfl) ?_)
  simp only [za]
  refine ze (k.eval (by simp (disch := first | exact dis | fail) only [go_sem, seval, -reduceOfNat, -reduceNegSucc, rem8]; exact rfl) ?_)
  simp only [za]
  refine ze ?_
  refine ze (k.eval (by simp (disch := first | exact dis | fail) only [go_sem, seval, -reduceOfNat, -reduceNegSucc]; exact rfl) ?_)
  simp only [za]
  refine zw (zI ?_)
  refine yI (k.ev ?_)
  simp (disch := first | exact dis | fail) only [go_sem, seval, -reduceOfNat, -reduceNegSucc, j3, mulI]
  refine ⟨_, rfl, ?_⟩
  simp only [za]
  refine yI (k.ev ?_)
  simp (disch := first | exact dis | fail) only [go_sem, seval, -reduceOfNat, -reduceNegSucc, j3, mulI]
  refine ⟨_, rfl, ?_⟩
  simp only [za]
  refine yI (k.ev ?_)
  simp (disch := first | exact dis | fail) only [go_sem, seval, -reduceOfNat, -reduceNegSucc, j3, mulI]
  refine ⟨_, rfl, ?_⟩
  simp only [za]
  refine yI (k.ev ?_)
  simp (disch := first | exact dis | fail) only [go_sem, seval, -reduceOfNat, -reduceNegSucc]
  refine ⟨_, rfl, ?_⟩
  simp only [za, zg]
  refine k.eval (by simp (disch := first | exact dis | fail) only [go_sem, seval, -reduceOfNat, -reduceNegSucc]; exact rfl) ?_
  try simp only [za, zg, Cut, if_true]
  apply zd (Or.inr rfl)
  iterate 5 (simp (disch := first | exact dis | fail) only [go_sem, seval, -reduceOfNat, -reduceNegSucc, told, x6, w7, List.drop_succ_cons, List.drop_zero, Nat.mul_comm] <;> exact rfl)
 | b0 :: b1 :: b2 :: b3 :: b4 :: r, _, h2, _ => simp only [List.length_cons] at h2; omega
set_option maxRecDepth 100000
theorem ql (c : Nat) : encC c = if c < 128 then [c] else if c < 2048 then [192 + c / 64, 128 + c % 64] else if c < 65536 then [224 + c / 4096, 128 + c / 64 % 64, 128 + c % 64] else [240 + c / 262144, 128 + c / 4096 % 64, 128 + c / 64 % 64, 128 + c % 64] := by
 unfold encC; rw [wK, wK, wK]; rfl
theorem uJ {c : Nat} (h : c ≤ 1114111) : Byt (encC c) := by
 rw [ql]
 intro x hx
 split at hx
 ·simp at hx; omega
 ·split at hx
  ·simp at hx; omega
  ·split at hx
   ·simp at hx; omega
   ·simp at hx; omega
theorem wD (c : Nat) : 1 ≤ (encC c).length ∧ (encC c).length ≤ 4 := by
 rw [ql]
 split
 ·simp
 ·split
  ·simp
  ·split <;> simp
def encN (c : Nat) : List AV := [.int .i64 (.ofNat c)]
theorem ur : ∀ x y, encN x = encN y → x = y := fun x y h => by
 simp only [encN, List.cons.injEq, AV.int.injEq, true_and, and_true] at h; cases h; rfl
def lstB (l : List Nat) : AV := .lst l.length false (zh l)
theorem Un (l : List Nat) : zy (lstB l) = true := by simp only [lstB, yz]
noncomputable def gByt : List AV → St → Option (AV × St) := orc0 encN (fun c => c ≤ 1114111) (fun c => lstB (encC c))
theorem XE {O : Orc} (h : O 77 = some gByt) {c : Nat} (hc : c ≤ 1114111) (s : St) : (evW env O).call 77 [.int .i64 (.ofNat c)] s = some (lstB (encC c), s) := by
 rw [zq h, gByt, zT ur s c hc rfl]
theorem zyt {P : Program} {w0 : World} (B : Bx P w0) {O : Orc} (hO : OrcOk P w0 O) (c : Nat) (hc : c ≤ 1114111) :
  SC P w0 77 (encN c) (H [] 0 true) (lstB (encC c)) (H [] 0 true) := by
 refine Is.sc hO B.mixed B.glob B.env 0 (show env.funs.get 77 = some f77 from rfl) (Nat.le_of_ble_eq_true rfl) z8 fun C k => ?_
 unfold f77
 simp only [Ko, Ki]
 rw [ql]
 by_cases h1 : c < 128
 ·rw [if_pos h1]
  refine k.eval (by simp (disch := first | exact dis | fail) only [go_sem, seval, -reduceOfNat, -reduceNegSucc, encN, h1]; exact rfl) ?_
  try simp only [za, zg, Cut, if_true]
  apply zd (Or.inr rfl)
  iterate 5 (simp (disch := first | exact dis | fail) only [go_sem, seval, -reduceOfNat, -reduceNegSucc, lstB] <;> exact rfl)
 rw [if_neg h1]
 by_cases h2 : c < 2048
 ·rw [if_pos h2]
  refine k.eval (by simp (disch := first | exact dis | fail) only [go_sem, seval, -reduceOfNat, -reduceNegSucc, encN, h1, h2, KO, j3]; exact rfl) ?_
  try simp only [za, zg, Cut, if_true]
  apply zd (Or.inr rfl)
  iterate 5 (simp (disch := first | exact dis | fail) only [go_sem, seval, -reduceOfNat, -reduceNegSucc, lstB] <;> exact rfl)
 rw [if_neg h2]
 by_cases h3 : c < 65536
 ·rw [if_pos h3]
  refine k.eval (by simp (disch := first | exact dis | fail) only [go_sem, seval, -reduceOfNat, -reduceNegSucc, encN, h1, h2, h3, KO, Q3, j3]; exact rfl) ?_
  try simp only [za, zg, Cut, if_true]
  apply zd (Or.inr rfl)
  iterate 5 (simp (disch := first | exact dis | fail) only [go_sem, seval, -reduceOfNat, -reduceNegSucc, lstB] <;> exact rfl)
 rw [if_neg h3]
 refine k.eval (by simp (disch := first | exact dis | fail) only [go_sem, seval, -reduceOfNat, -reduceNegSucc, encN, h1, h2, h3, KO, Q3, Jv, j3]; exact rfl) ?_
 try simp only [za, zg, Cut, if_true]
 apply zd (Or.inr rfl)
 iterate 5 (simp (disch := first | exact dis | fail) only [go_sem, seval, -reduceOfNat, -reduceNegSucc, lstB] <;> exact rfl)
noncomputable def gPut : List AV → St → Option (AV × St) := orc0 encN (fun c => zr c = true) (fun c => .tup [.str (encC c), .int .i64 (.ofNat 0)])
theorem pa {O : Orc} (h : O 44 = some gPut) {c : Nat} (hc : zr c = true) (s : St) : (evW env O).call 44 [.int .i64 (.ofNat c)] s = some (.tup [.str (encC c), .int .i64 (.ofNat 0)], s) := by
 rw [zq h, gPut, zT ur s c hc rfl]
theorem zyh {P : Program} {w0 : World} (B : Bx P w0) {O : Orc} (hO : OrcOk P w0 O) (h30 : O 30 = some gIs) (h77 : O 77 = some gByt) (c : Nat) (hv : zr c = true) :
  SC P w0 44 (encN c) (H [] 0 true) (.tup [.str (encC c), .int .i64 (.ofNat 0)]) (H [] 0 true) := by
 refine Is.sc hO B.mixed B.glob B.env 0 (show env.funs.get 44 = some f44 from rfl) (Nat.le_of_ble_eq_true rfl) z8 fun C k => ?_
 have hc := (zf.1 hv).1
 have h1 := lf h30 (.ofNat c)
 rw [show isCh (.ofNat c) = true from hv] at h1
 have h2 := XE h77 hc
 have h3 := uJ hc
 unfold f44
 simp only [Ko, Ki]
 refine k.eval (by simp (disch := first | exact dis | fail) only [go_sem, seval, -reduceOfNat, -reduceNegSucc, encN, h1, h2, lstB]; exact rfl) ?_
 try simp only [za, zg, Cut, if_true]
 apply zd (Or.inr rfl)
 iterate 5 (simp (disch := first | exact dis | fail) only [go_sem, seval, -reduceOfNat, -reduceNegSucc] <;> exact rfl)
def getF (l : List Nat) : Nat → Nat → Option (Nat × Nat)
 | 0, _ => none
 | k + 1, n => if n ≤ 4 ∧ n ≤ l.length then (if zr (told (l.take n)) = true ∧ encC (told (l.take n)) = l.take n then some (told (l.take n), n) else getF l k (n + 1)) else none
def getR (l : List Nat) : AV := match getF l 5 1 with
 | some p => .tup [.int .i64 (.ofNat p.1), .int .i64 (.ofNat p.2), .int .i64 (.ofNat 0)]
 | none => .tup [.int .i64 (.ofNat 0), .int .i64 (.ofNat 0), .int .i64 (.ofNat 4)]
theorem UQ (l : List Nat) : zy (getR l) = true := by
 unfold getR; cases getF l 5 1 <;> simp only [wz, zD, yJ, zJ, Bool.and_self]
def kn (x : List Nat × Nat) : List AV := [.lst x.1.length false (zh x.1), .int .i64 (.ofNat x.2)]
theorem JP : ∀ x y, kn x = kn y → x = y := fun ⟨a, b⟩ ⟨c, d⟩ h => by
 simp only [kn, List.cons.injEq, AV.lst.injEq, AV.int.injEq, true_and, and_true] at h
 rw [vJ h.1.2]; cases h.2; rfl
theorem WF (x : List Nat × Nat) : zo (kn x) = true := by simp only [kn, zD, yz, yJ, zJ, Bool.and_self]
def zyG (x : List Nat × Nat) : Prop := Byt x.1 ∧ x.2 < x.1.length ∧ x.1.length < 1000000
noncomputable def gGet : List AV → St → Option (AV × St) := orc0 kn zyG (fun x => getR (x.1.drop x.2))
theorem Lx {O : Orc} (h : O 84 = some gGet) {b : List Nat} {i : Nat} (h1 : Byt b) (h2 : i < b.length) (h3 : b.length < 1000000) (e : Bool) (s : St) : (evW env O).call 84 [.lst b.length e (zh b), .int .i64 (.ofNat i)] s = some (getR (b.drop i), s) := by
 rw [zq h, gGet, zT JP s (b, i) ⟨h1, h2, h3⟩ (by simp only [kn, wkL, wkV, uX])]
theorem Pc {l : List Nat} (h1 : l.length ≤ 4) (hb : Byt l) : told l < 4294967296 := by
 match l, h1, hb with
 | [], _, _ => simp [told, w7, x6]
 | [a], _, hb => have := hb a (by simp); simp [told, w7, x6]; omega
 | [a, b], _, hb => simp [told, w7, x6]; omega
 | [a, b, c], _, hb => simp [told, w7, x6]; omega
 | [a, b, c, d], _, hb => simp [told, w7, x6]; omega
 | a :: b :: c :: d :: e :: r, h, _ => simp only [List.length_cons] at h; omega
theorem zyg {P : Program} {w0 : World} (B : Bx P w0) {O : Orc} (hO : OrcOk P w0 O) (h30 : O 30 = some gIs) (h77 : O 77 = some gByt) (h102 : O 102 = some X8) (b : List Nat) (i : Nat) (hb : Byt b) (hi : i < b.length) (hlb : b.length < 1000000) :
  SC P w0 84 (kn (b, i)) (H [] 0 true) (getR (b.drop i)) (H [] 0 true) := by
 refine Is.sc hO B.mixed B.glob B.env 0 (show env.funs.get 84 = some f84 from rfl) (Nat.le_of_ble_eq_true rfl) z8 fun C k => ?_
 have hge : ¬ b.length ≤ i := by omega
 unfold f84
 simp only [Ko, Kg, Kd, Ke, Ki]
 refine ze (k.eval (by simp (disch := first | exact dis | fail) only [go_sem, seval, -reduceOfNat, -reduceNegSucc, kn]; exact rfl) ?_)
 simp only [za]
 refine ze (k.eval (by simp (disch := first | exact dis | fail) only [go_sem, seval, -reduceOfNat, -reduceNegSucc, hi]; exact rfl) ?_)
 simp only [za]
 refine wG (p := getF (b.drop i) 5 1 = none) ⟨tmL [], []⟩ (H [] 0 true) ?_ ?_
 ·
  refine ze (k.eval (by simp (disch := first | exact dis | fail) only [go_sem, seval, -reduceOfNat, -reduceNegSucc]; exact rfl) ?_)
  simp only [za]
  refine zw (zI (k.gcL [] [7, 1, 0] true (fr1 := ⟨tmL [(7, .int .i64 (.ofNat 1)), (1, .int .i64 (.ofNat i)), (0, .lst b.length false (zh b))], []⟩) (s1 := H [] 0 true) (by simp (disch := first | exact dis | fail) only [go_sem, seval, -reduceOfNat, -reduceNegSucc]) ?_))
  refine zV (fun x : Nat × Nat => x.1) (fun x => ⟨tmL [(7, .int .i64 (.ofNat x.2)), (1, .int .i64 (.ofNat i)), (0, .lst b.length false (zh b))], []⟩) (fun _ => H [] 0 true) (fun x => 1 ≤ x.2 ∧ x.2 + x.1 = 6 ∧ getF (b.drop i) x.1 x.2 = getF (b.drop i) 5 1) (fun x hx => ?_) (5, 1) ⟨by simp, rfl, rfl⟩
  obtain ⟨kk, n⟩ := x
  obtain ⟨g0, g1, g2⟩ := hx
  simp only at g0 g1 g2 ⊢
  cases kk with
  | zero =>
   have h4 : ¬ n ≤ 4 := by omega
   simp only [getF] at g2
   refine k.eval (by simp (disch := first | exact dis | fail) only [go_sem, seval, -reduceOfNat, -reduceNegSucc]; exact rfl) ?_
   try simp only [za, zg]
   simp only [CutP]
   refine ⟨g2.symm, ?_⟩
   refine k.gcs (keep := []) (live := []) (md := true) ?_
   simp (disch := first | exact dis | fail) only [go_sem, seval, -reduceOfNat, -reduceNegSucc]
  | succ kk =>
   have h4 : n ≤ 5 := by omega
   rw [getF, List.length_drop] at g2
   by_cases h5 : n ≤ 4
   case neg =>
    rw [if_neg (by omega)] at g2
    refine k.eval (by simp (disch := first | exact dis | fail) only [go_sem, seval, -reduceOfNat, -reduceNegSucc]; exact rfl) ?_
    try simp only [za, zg]
    simp only [CutP]
    refine ⟨g2.symm, ?_⟩
    refine k.gcs (keep := []) (live := []) (md := true) ?_
    simp (disch := first | exact dis | fail) only [go_sem, seval, -reduceOfNat, -reduceNegSucc]
   by_cases h6 : i + n ≤ b.length
   case neg =>
    rw [if_neg (by omega)] at g2
    refine k.eval (by simp (disch := first | exact dis | fail) only [go_sem, seval, -reduceOfNat, -reduceNegSucc]; exact rfl) ?_
    try simp only [za, zg]
    simp only [CutP]
    refine ⟨g2.symm, ?_⟩
    refine k.gcs (keep := []) (live := []) (md := true) ?_
    simp (disch := first | exact dis | fail) only [go_sem, seval, -reduceOfNat, -reduceNegSucc]
   rw [if_pos ⟨h5, by omega⟩] at g2
   have hsub : i + n - i = n := by omega
   have hl : ((b.drop i).take n).length = n := by rw [List.length_take, List.length_drop]; omega
   have hby : Byt ((b.drop i).take n) := (hb.drop i).take n
   have htl := Pc (l := (b.drop i).take n) (by omega) hby
   have ht := fun e s => JY h102 (l := (b.drop i).take n) (by omega) (by omega) hby (n := n) hl.symm e s
   have his := lf h30 (.ofNat (told ((b.drop i).take n)))
   revert g2 hl hby htl ht his
   generalize htk : (b.drop i).take n = tk
   intro g2 hl hby htl ht his
   cases hv : zr (told tk) with
   | false =>
    rw [if_neg (by rw [hv]; simp)] at g2
    rw [show isCh (.ofNat (told tk)) = false from hv] at his
    refine k.eval (by simp (disch := first | exact dis | fail) only [go_sem, seval, -reduceOfNat, -reduceNegSucc, hsub, htk, ht, his]; exact rfl) ?_
    try simp only [za]
    refine ⟨(kk, n + 1), ⟨by omega, by omega, g2⟩, Nat.lt_succ_self _, ?_⟩
    refine k.gcs (keep := []) (live := [7, 1, 0]) (md := true) ?_
    simp (disch := first | exact dis | fail) only [go_sem, seval, -reduceOfNat, -reduceNegSucc]
   | true =>
    rw [show isCh (.ofNat (told tk)) = true from hv] at his
    have hcc := (zf.1 hv).1
    have hbc := XE h77 hcc
    have hbb := uJ hcc
    by_cases he : encC (told tk) = tk
    ·rw [if_pos ⟨hv, he⟩] at g2
     refine k.eval (by simp (disch := first | exact dis | fail) only [go_sem, seval, -reduceOfNat, -reduceNegSucc, hsub, htk, ht, his, hbc, lstB, he]; exact rfl) ?_
     try simp only [za, zg]
     simp only [CutP, getR]
     rw [← g2]
     apply zd (Or.inr rfl)
     iterate 5 (simp (disch := first | exact dis | fail) only [go_sem, seval, -reduceOfNat, -reduceNegSucc] <;> exact rfl)
    ·rw [if_neg (fun h => he h.2)] at g2
     refine k.eval (by simp (disch := first | exact dis | fail) only [go_sem, seval, -reduceOfNat, -reduceNegSucc, hsub, htk, ht, his, hbc, lstB, he]; exact rfl) ?_
     try simp only [za]
     refine ⟨(kk, n + 1), ⟨by omega, by omega, g2⟩, Nat.lt_succ_self _, ?_⟩
     refine k.gcs (keep := []) (live := [7, 1, 0]) (md := true) ?_
     simp (disch := first | exact dis | fail) only [go_sem, seval, -reduceOfNat, -reduceNegSucc]
 ·intro hp
  simp only [getR, hp]
  refine ze (k.eval (by simp (disch := first | exact dis | fail) only [go_sem, seval, -reduceOfNat, -reduceNegSucc]; exact rfl) ?_)
  simp only [za]
  refine k.eval (by simp (disch := first | exact dis | fail) only [go_sem, seval, -reduceOfNat, -reduceNegSucc]; exact rfl) ?_
  try simp only [za, zg, Cut, if_true]
  apply zd (Or.inr rfl)
  iterate 5 (simp (disch := first | exact dis | fail) only [go_sem, seval, -reduceOfNat, -reduceNegSucc] <;> exact rfl)
set_option maxRecDepth 100000
def decR (l : List Nat) : Option (Nat × Nat) := if (decL l).1 = 65533 ∧ (decL l).2 ≤ 1 then none else some (decL l)
theorem ndiv (a b : Nat) : Nat.div a b = a / b := rfl
theorem bb (a b : Nat) : Nat.beq a b = decide (a = b) := by
 cases h : Nat.beq a b with
 | true => exact (decide_eq_true (zn.1 h)).symm
 | false => exact (decide_eq_false (fun h' => by rw [zn.2 h'] at h; cases h)).symm
theorem zi (a b : Nat) : dec2 a b = a % 32 * 64 + b % 64 := rfl
theorem zk (a b c : Nat) : dec3 a b c = a % 16 * 4096 + b % 64 * 64 + c % 64 := rfl
theorem zp (a b c d : Nat) : dec4 a b c d = a % 8 * 262144 + b % 64 * 4096 + c % 64 * 64 + d % 64 := rfl
theorem qf (a : Nat) : decL [a] = if a < 128 then (a, 1) else (65533, 1) := by
 simp only [decL, jN, Bool.cond_decide]
theorem wq (a b : Nat) : decL [a, b] = if a < 128 then (a, 1) else if a / 32 = 6 ∧ b / 64 = 2 ∧ 128 ≤ dec2 a b then (dec2 a b, 2) else (65533, 1) := by
 simp only [decL, jN, Bool.cond_decide, decC, bb, jF, ndiv]
 by_cases h0 : a < 128
 ·rw [if_pos h0, if_pos h0]
 rw [if_neg h0, if_neg h0]
 by_cases h1 : a / 32 = 6 <;> by_cases h2 : b / 64 = 2 <;> by_cases h3 : 128 ≤ dec2 a b <;> simp [h1, h2, h3]
theorem yx (a b c : Nat) : decL [a, b, c] = if a < 128 then (a, 1) else if a / 32 = 6 ∧ b / 64 = 2 ∧ 128 ≤ dec2 a b then (dec2 a b, 2) else if a / 16 = 14 ∧ b / 64 = 2 ∧ c / 64 = 2 ∧ 2048 ≤ dec3 a b c ∧ zr (dec3 a b c) = true then (dec3 a b c, 3) else (65533, 1) := by
 simp only [decL, jN, Bool.cond_decide, decC, bb, jF, ndiv]
 by_cases h0 : a < 128
 ·rw [if_pos h0, if_pos h0]
 rw [if_neg h0, if_neg h0]
 by_cases h1 : a / 32 = 6
 ·have h4 : ¬ a / 16 = 14 := by omega
  by_cases h2 : b / 64 = 2 <;> by_cases h3 : 128 ≤ dec2 a b <;> simp [h1, h2, h3, h4]
 ·by_cases h4 : a / 16 = 14 <;> by_cases h2 : b / 64 = 2 <;> by_cases h5 : c / 64 = 2 <;> by_cases h6 : 2048 ≤ dec3 a b c <;> cases h7 : zr (dec3 a b c) <;> simp [h1, h2, h4, h5, h6]
theorem zL (a b c d : Nat) (r : List Nat) : decL (a :: b :: c :: d :: r) = if a < 128 then (a, 1) else if a / 32 = 6 ∧ b / 64 = 2 ∧ 128 ≤ dec2 a b then (dec2 a b, 2) else if a / 16 = 14 ∧ b / 64 = 2 ∧ c / 64 = 2 ∧ 2048 ≤ dec3 a b c ∧ zr (dec3 a b c) = true then (dec3 a b c, 3)
  else if a / 8 = 30 ∧ b / 64 = 2 ∧ c / 64 = 2 ∧ d / 64 = 2 ∧ 65536 ≤ dec4 a b c d ∧ zr (dec4 a b c d) = true then (dec4 a b c d, 4) else (65533, 1) := by
 simp only [decL, jN, Bool.cond_decide, decC, bb, jF, ndiv]
 by_cases h0 : a < 128
 ·rw [if_pos h0, if_pos h0]
 rw [if_neg h0, if_neg h0]
 by_cases h1 : a / 32 = 6
 ·have h4 : ¬ a / 16 = 14 := by omega
  have h8 : ¬ a / 8 = 30 := by omega
  by_cases h2 : b / 64 = 2 <;> by_cases h3 : 128 ≤ dec2 a b <;> simp [h1, h2, h3, h4, h8]
 ·by_cases h4 : a / 16 = 14
  ·have h8 : ¬ a / 8 = 30 := by omega
   by_cases h2 : b / 64 = 2 <;> by_cases h5 : c / 64 = 2 <;> by_cases h6 : 2048 ≤ dec3 a b c <;> cases h7 : zr (dec3 a b c) <;> simp [h1, h2, h4, h5, h6, h8]
  ·by_cases h8 : a / 8 = 30 <;> by_cases h2 : b / 64 = 2 <;> by_cases h5 : c / 64 = 2 <;> by_cases h9 : d / 64 = 2 <;> by_cases h6 : 65536 ≤ dec4 a b c d <;> cases h7 : zr (dec4 a b c d) <;> simp [h1, h2, h4, h5, h6, h8, h9]
theorem gB {a : Nat} (ha : a < 256) : (zr (told [a]) = true ∧ encC (told [a]) = [a]) ↔ a < 128 := by
 have e : told [a] = a := rfl
 rw [e, zf, ql]
 constructor
 ·rintro ⟨_, h⟩
  by_cases h1 : a < 128
  ·exact h1
  ·rw [if_neg h1, if_pos (by omega)] at h; simp at h
 ·intro h; rw [if_pos h]; exact ⟨by omega, rfl⟩
theorem Ha (a b : Nat) : told [a, b] = dec2 a b := by rw [zi]; simp only [told, x6, w7, List.drop_succ_cons, List.drop_zero]; omega
theorem zzV (a b c : Nat) : told [a, b, c] = dec3 a b c := by rw [zk]; simp only [told, x6, w7, List.drop_succ_cons, List.drop_zero]; omega
theorem zxt (a b c d : Nat) : told [a, b, c, d] = dec4 a b c d := by rw [zp]; simp only [told, x6, w7, List.drop_succ_cons, List.drop_zero]; omega
theorem ZY {a b : Nat} (ha : a < 256) (hb : b < 256) : (zr (told [a, b]) = true ∧ encC (told [a, b]) = [a, b]) ↔ a / 32 = 6 ∧ b / 64 = 2 ∧ 128 ≤ dec2 a b := by
 have e : told [a, b] = a % 32 * 64 + b % 64 := by simp only [told, x6, w7, List.drop_succ_cons, List.drop_zero]; omega
 rw [e, zf, ql, zi]
 constructor
 ·rintro ⟨_, h⟩
  split at h
  ·simp at h
  ·rw [if_pos (by omega)] at h
   simp only [List.cons.injEq, and_true] at h; omega
 ·rintro ⟨h1, h2, h3⟩
  rw [if_neg (by omega), if_pos (by omega)]
  simp only [List.cons.injEq, and_true]; omega
theorem Vv {a b c : Nat} (ha : a < 256) (hb : b < 256) (hc : c < 256) : (zr (told [a, b, c]) = true ∧ encC (told [a, b, c]) = [a, b, c]) ↔ a / 16 = 14 ∧ b / 64 = 2 ∧ c / 64 = 2 ∧ 2048 ≤ dec3 a b c ∧ zr (dec3 a b c) = true := by
 have e : told [a, b, c] = dec3 a b c := by rw [zk]; simp only [told, x6, w7, List.drop_succ_cons, List.drop_zero]; omega
 rw [e, ql]
 constructor
 ·rintro ⟨hv, h⟩
  rw [zk] at h ⊢
  split at h
  ·simp at h
  ·split at h
   ·simp at h
   ·rw [if_pos (by omega)] at h
    simp only [List.cons.injEq, and_true] at h
    rw [zk] at hv
    exact ⟨by omega, by omega, by omega, by omega, hv⟩
 ·rintro ⟨h1, h2, h3, h4, hv⟩
  refine ⟨hv, ?_⟩
  rw [zk] at h4 ⊢
  rw [if_neg (by omega), if_neg (by omega), if_pos (by omega)]
  simp only [List.cons.injEq, and_true]; omega
theorem zz3 {a b c d : Nat} (ha : a < 256) (hb : b < 256) (hc : c < 256) (hd : d < 256) : (zr (told [a, b, c, d]) = true ∧ encC (told [a, b, c, d]) = [a, b, c, d]) ↔ a / 8 = 30 ∧ b / 64 = 2 ∧ c / 64 = 2 ∧ d / 64 = 2 ∧ 65536 ≤ dec4 a b c d ∧ zr (dec4 a b c d) = true := by
 have e : told [a, b, c, d] = dec4 a b c d := by rw [zp]; simp only [told, x6, w7, List.drop_succ_cons, List.drop_zero]; omega
 rw [e, ql]
 constructor
 ·rintro ⟨hv, h⟩
  rw [zp] at h ⊢
  split at h
  ·simp at h
  ·split at h
   ·simp at h
   ·split at h
    ·simp at h
    ·simp only [List.cons.injEq, and_true] at h
     rw [zp] at hv
     exact ⟨by omega, by omega, by omega, by omega, by omega, hv⟩
 ·rintro ⟨h1, h2, h3, h5, h4, hv⟩
  refine ⟨hv, ?_⟩
  rw [zp] at h4 ⊢
  rw [if_neg (by omega), if_neg (by omega), if_neg (by omega)]
  simp only [List.cons.injEq, and_true]; omega
theorem xJ {c n : Nat} {l : List Nat} (h : decL l = (c, n)) (h' : ¬ (c = 65533 ∧ n ≤ 1)) : decR l = some (c, n) := by
 unfold decR; rw [h, if_neg h']
theorem uQ {l : List Nat} (h : decL l = (65533, 1)) : decR l = none := by
 unfold decR; rw [h, if_pos ⟨rfl, Nat.le_refl _⟩]
theorem YF {l : List Nat} (k n : Nat) (h : ¬ (n ≤ 4 ∧ n ≤ l.length)) : getF l k n = none := by
 cases k with
 | zero => rfl
 | succ k => rw [getF, if_neg h]
theorem Hw {l : List Nat} (hb : Byt l) (hl : l ≠ []) : getF l 5 1 = decR l := by
 match l, hb, hl with
 | [a], hb, _ =>
  have ha := hb a (by simp)
  rw [getF, if_pos (by simp), List.take_of_length_le (by simp)]
  by_cases h : a < 128
  ·rw [if_pos ((gB ha).2 h), xJ (by rw [qf, if_pos h]) (by omega)]; rfl
  ·rw [if_neg (fun h' => h ((gB ha).1 h')), uQ (by rw [qf, if_neg h]), YF _ _ (by simp)]
 | [a, b], hb, _ =>
  have ha := hb a (by simp)
  have hb' := hb b (by simp)
  have t1 : [a, b].take 1 = [a] := rfl
  rw [getF, if_pos (by simp), t1]
  by_cases h : a < 128
  ·rw [if_pos ((gB ha).2 h), xJ (by rw [wq, if_pos h]) (by omega)]; rfl
  rw [if_neg (fun h' => h ((gB ha).1 h')), getF, if_pos (by simp), List.take_of_length_le (by simp)]
  by_cases h2 : a / 32 = 6 ∧ b / 64 = 2 ∧ 128 ≤ dec2 a b
  ·rw [if_pos ((ZY ha hb').2 h2), xJ (c := dec2 a b) (n := 2) (by rw [wq, if_neg h, if_pos h2]) (by omega)]
   rw [Ha]
  ·rw [if_neg (fun h' => h2 ((ZY ha hb').1 h')), uQ (by rw [wq, if_neg h, if_neg h2]), YF _ _ (by simp)]
 | [a, b, c], hb, _ =>
  have ha := hb a (by simp)
  have hb' := hb b (by simp)
  have hc := hb c (by simp)
  have t1 : [a, b, c].take 1 = [a] := rfl
  have t2 : [a, b, c].take (1 + 1) = [a, b] := rfl
  rw [getF, if_pos (by simp), t1]
  by_cases h : a < 128
  ·rw [if_pos ((gB ha).2 h), xJ (by rw [yx, if_pos h]) (by omega)]; rfl
  rw [if_neg (fun h' => h ((gB ha).1 h')), getF, if_pos (by simp), t2]
  by_cases h2 : a / 32 = 6 ∧ b / 64 = 2 ∧ 128 ≤ dec2 a b
  ·rw [if_pos ((ZY ha hb').2 h2), xJ (c := dec2 a b) (n := 2) (by rw [yx, if_neg h, if_pos h2]) (by omega)]
   rw [Ha]
  rw [if_neg (fun h' => h2 ((ZY ha hb').1 h')), getF, if_pos (by simp), List.take_of_length_le (by simp)]
  by_cases h3 : a / 16 = 14 ∧ b / 64 = 2 ∧ c / 64 = 2 ∧ 2048 ≤ dec3 a b c ∧ zr (dec3 a b c) = true
  ·rw [if_pos ((Vv ha hb' hc).2 h3), xJ (c := dec3 a b c) (n := 3) (by rw [yx, if_neg h, if_neg h2, if_pos h3]) (by omega)]
   rw [zzV]
  ·rw [if_neg (fun h' => h3 ((Vv ha hb' hc).1 h')), uQ (by rw [yx, if_neg h, if_neg h2, if_neg h3]), YF _ _ (by simp)]
 | a :: b :: c :: d :: r, hb, _ =>
  have ha := hb a (by simp)
  have hb' := hb b (by simp)
  have hc := hb c (by simp)
  have hd := hb d (by simp)
  have t1 : (a :: b :: c :: d :: r).take 1 = [a] := rfl
  have t2 : (a :: b :: c :: d :: r).take (1 + 1) = [a, b] := rfl
  have t3 : (a :: b :: c :: d :: r).take (1 + 1 + 1) = [a, b, c] := rfl
  have t4 : (a :: b :: c :: d :: r).take (1 + 1 + 1 + 1) = [a, b, c, d] := rfl
  rw [getF, if_pos (by simp), t1]
  by_cases h : a < 128
  ·rw [if_pos ((gB ha).2 h), xJ (by rw [zL, if_pos h]) (by omega)]; rfl
  rw [if_neg (fun h' => h ((gB ha).1 h')), getF, if_pos (by simp), t2]
  by_cases h2 : a / 32 = 6 ∧ b / 64 = 2 ∧ 128 ≤ dec2 a b
  ·rw [if_pos ((ZY ha hb').2 h2), xJ (c := dec2 a b) (n := 2) (by rw [zL, if_neg h, if_pos h2]) (by omega)]
   rw [Ha]
  rw [if_neg (fun h' => h2 ((ZY ha hb').1 h')), getF, if_pos (by simp), t3]
  by_cases h3 : a / 16 = 14 ∧ b / 64 = 2 ∧ c / 64 = 2 ∧ 2048 ≤ dec3 a b c ∧ zr (dec3 a b c) = true
  ·rw [if_pos ((Vv ha hb' hc).2 h3), xJ (c := dec3 a b c) (n := 3) (by rw [zL, if_neg h, if_neg h2, if_pos h3]) (by omega)]
   rw [zzV]
  rw [if_neg (fun h' => h3 ((Vv ha hb' hc).1 h')), getF, if_pos (by simp), t4]
  by_cases h4 : a / 8 = 30 ∧ b / 64 = 2 ∧ c / 64 = 2 ∧ d / 64 = 2 ∧ 65536 ≤ dec4 a b c d ∧ zr (dec4 a b c d) = true
  ·rw [if_pos ((zz3 ha hb' hc hd).2 h4), xJ (c := dec4 a b c d) (n := 4) (by rw [zL, if_neg h, if_neg h2, if_neg h3, if_pos h4]) (by omega)]
   rw [zxt]
  ·rw [if_neg (fun h' => h4 ((zz3 ha hb' hc hd).1 h')), uQ (by rw [zL, if_neg h, if_neg h2, if_neg h3, if_neg h4]), YF _ _ (by simp)]
end Go.Proofs.YthcmnajcjapjbaaGreatDoor.Ev

/- Contracts of functions that DatumTokens calls: what a call answers, for all data, by symbolic evaluation. No conditions of its own. -/
import Derived.Test.YthcmnajcjapjbaaGreatDoorWC
import Derived.Test.YthcmnajcjapjbaaGreatDoorEvG
import Derived.Test.YthcmnajcjapjbaaGreatDoorWA
import Derived.ChangeArms
import Derived.Lib.AtoiErrMem
set_option linter.unusedSimpArgs false
set_option linter.unusedVariables false
set_option linter.defProp false
namespace Go.Proofs.YthcmnajcjapjbaaGreatDoor.Ev
open Nat (reduceEqDiff reduceLeDiff reduceLT reduceAdd reduceMul reduceSub reduceMod reducePow reduceDiv reduceOr reduceShiftLeft reduceGT reduceSucc)
open List (length_cons length_nil length_take length_drop)
open Int (reduceOfNat reduceNegSucc)
open T
set_option maxRecDepth 100000
abbrev DX := List Tok × Nat × Nat × RS
def Wy (x : DX) : Nat × List AV × List AV := (66, rowD x.1 x.2.2.2, [.int .i64 (.ofNat x.2.1), .int .i64 (.ofNat x.2.2.1)])
theorem JU : ∀ x y, Wy x = Wy y → x = y := fun ⟨ts, dep, op, s⟩ ⟨ts', dep', op', s'⟩ h => by
 simp only [Wy, Prod.mk.injEq, List.cons.injEq, AV.int.injEq, true_and, and_true] at h
 obtain ⟨h1, h2, h3⟩ := h
 obtain ⟨rfl, rfl⟩ := pe h1
 cases h2; cases h3; rfl
def UJ (n : Nat) (x : DX) : Prop := TsOk x.1 ∧ x.2.1 + n = 200 ∧ x.2.2.2.err = 0 ∧ x.2.2.2.at_ ≤ x.1.length
def dtR (n : Nat) (x : DX) : AV × List AV := (encD (datF n x.1 x.2.2.1 x.2.2.2).1, rowD x.1 (datF n x.1 x.2.2.1 x.2.2.2).2)
noncomputable def gDt (n : Nat) : List AV → St → Option (AV × St) := orc1 Wy (UJ n) (dtR n)
theorem lB {O : Orc} {n : Nat} (h : O 32 = some (gDt n)) {ts : List Tok} {dep op : Nat} {s : RS} (hp : UJ n (ts, dep, op, s)) (l : List (Nat × Option AObj)) (nx m : Nat) (md : Bool) (id : Nat) (hg : getA l id = some (.row 66 (rowD ts s) false false)) :
  (evW env O).call 32 [.ptr id 0, .int .i64 (.ofNat dep), .int .i64 (.ofNat op)] (KL l nx m md [] none) = some (encD (datF n ts op s).1, KL ((id, some (.row 66 (rowD ts (datF n ts op s).2) false false)) :: l) nx (mark m id) md [] none) := by
 rw [zJ h, gDt, qB, xj, hg, v6 JU _ _ (ts, dep, op, s) hp (by simp only [Wy, Y0, wkL, wkV])]
 rfl
theorem Xs {P : Program} {w0 : World} {O : Orc} (hO : OrcOk P w0 O) (n : Nat) (h : ∀ (ts : List Tok) (dep op : Nat) (s : RS), UJ n (ts, dep, op, s) → SC P w0 32 [.ptr 0 0, .int .i64 (.ofNat dep), .int .i64 (.ofNat op)] (H [some (rdD ts s)] 0 true) (encD (datF n ts op s).1) (H [some (rdD ts (datF n ts op s).2)] 1 true)) : OrcOk P w0 (withG 32 (gDt n) O) :=
 hO.withG vT (gs true (fun x hx => ⟨qz _ _, rfl, wu _, qz _ _⟩) fun x hx => h x.1 x.2.1 x.2.2.1 x.2.2.2 hx)
def xD : AObj := .row 44 [.int .i64 (.ofNat 0), .int .i64 (.ofNat 0), .int .i64 (.ofNat 0), .int .i64 (.ofNat 0), .str [], .nils, .int .i64 (.ofNat 0)] false false
theorem VH {P : Program} {w0 : World} (B : Bx P w0) {O : Orc} (hO : OrcOk P w0 O) {n : Nat} (h32 : O 32 = some (gDt n)) (o54 : O 54 = none) (ts : List Tok) (hts : TsOk ts) (dep op : Nat) (hdep : dep + 1 + n = 200) (dots : Bool) (s : RS) (he : s.err = 0) (hs : s.at_ ≤ ts.length) :
  SC P w0 58 [.ptr 0 0, .int .i64 (.ofNat dep), .int .i64 (.ofNat op), .bool dots] (H [some (rdD ts s)] 0 true) (.tup [.lst (itF (datF n ts) ts op dots s).1.length false (zm (itF (datF n ts) ts op dots s).1), .agg (xc (itF (datF n ts) ts op dots s).2.1)]) (H [some (rdD ts (itF (datF n ts) ts op dots s).2.2)] 1 true) := by
 refine Is.sc hO B.mixed B.glob B.env 1 (show env.funs.get 58 = some f58 from rfl) (Nat.le_of_ble_eq_true rfl) (qI rfl) fun C k => ?_
 have cnext := @zQ env O _ _ o54 (show env.funs.get 54 = some f54 from rfl) rfl
 have hlen := hts.1
 unfold f58
 simp only [Ko, Kg, Kn, Kd, Kf, Ki]
 refine zd (k.eval (by simp (disch := first | exact dis | fail) only [go_sem, seval, -reduceOfNat, -reduceNegSucc, rdD, rowD]; exact rfl) ?_)
 simp only [za]
 refine zd (k.eval (by simp (disch := first | exact dis | fail) only [go_sem, seval, -reduceOfNat, -reduceNegSucc]; exact rfl) ?_)
 simp only [za]
 refine wI (fun x : List DT × RS => itF (datF n ts) ts op dots s = (x.1, t0, x.2)) (fun x => ⟨tmL [(10, accD x.1), (9, .ptr 1 0)], []⟩) (fun x => H ([some (rdD ts x.2), some xD] ++ zK x.1) 1 true) (zW (yb (k.gcL [1] [10, 9, 8, 3, 2, 1, 0] true (fr1 := ⟨tmL [(10, accD []), (9, .ptr 1 0), (8, .nils), (3, .bool dots), (2, .int .i64 (.ofNat op)), (1, .int .i64 (.ofNat dep)), (0, .ptr 0 0)], []⟩) (s1 := H ([some (rdD ts s), some xD] ++ zK []) 1 true) (by simp (disch := first | exact dis | fail) only [go_sem, seval, -reduceOfNat, -reduceNegSucc, rdD, rowD, accD, zK, xD]) ?_))) ?_
 ·refine yh (fun x : Nat × List DT × RS => x.1) (fun x => ⟨tmL [(10, accD x.2.1), (9, .ptr 1 0), (8, .nils), (3, .bool dots), (2, .int .i64 (.ofNat op)), (1, .int .i64 (.ofNat dep)), (0, .ptr 0 0)], []⟩) (fun x => H ([some (rdD ts x.2.2), some xD] ++ zK x.2.1) 1 true) (fun x => zV (datF n ts) ts op dots x.1 x.2.1 x.2.2 = itF (datF n ts) ts op dots s ∧ (ts.length + 1 < x.1 + x.2.2.at_ ∨ x.2.2.err ≠ 0 ∧ 1 ≤ x.1) ∧ x.2.2.at_ ≤ ts.length ∧ (x.2.2.err = 0 → x.2.1.length ≤ x.2.2.at_) ∧ x.2.1.length ≤ x.2.2.at_ + 1) (fun x hx => ?_) (ts.length + 3, [], s) ⟨rfl, .inl (by simp only; omega), hs, fun _ => Nat.zero_le _, Nat.zero_le _⟩
  obtain ⟨kk, acc, ⟨at_, err, fp⟩⟩ := x
  obtain ⟨g1, g2, g3, g4, g5⟩ := hx
  simp only at g1 g2 g3 g4 g5 ⊢
  cases kk with
  | zero => omega
  | succ kk =>
  rw [zV] at g1
  simp only at g1
  by_cases he : err = 0
  ·subst he
   have g4 := g4 rfl
   have g2 : ts.length < kk + at_ := by omega
   simp only [ne_eq, not_true, if_false] at g1
   have hpre : UJ n (ts, dep + 1, op, ⟨at_, 0, fp⟩) := ⟨hts, hdep, rfl, g3⟩
   have hcall := fun l nx m => lB h32 hpre l nx m true 0
   have hfine := qD ts n op ⟨at_, 0, fp⟩ g3
   cases hd : ts.drop at_ with
   | nil =>
    have h4 : at_ = ts.length := by have := vK hd; omega
    simp only [hd] at g1
    revert g1 hcall hfine
    generalize datF n ts op ⟨at_, 0, fp⟩ = R
    obtain ⟨⟨ek, en, et, eks, ep⟩, ⟨a1, e1, f1⟩⟩ := R
    intro hcall hfine g1
    obtain ⟨q1, q2, q3, q4, q5⟩ := hfine
    simp only at q1 q2 q3 q4 q5
    have he1 : e1 ≠ 0 := fun e => by have := q4 e; omega
    subst h4
    simp only [rowD, encD, zb] at hcall
    cases acc with
    | nil =>
     refine k.eval (by simp (disch := first | exact dis | fail) only [go_sem, seval, -reduceOfNat, -reduceNegSucc, accD, zK, xD, rdD, rowD, cnext, f54, hcall]; exact rfl) ?_
     try simp only [za]
     refine ⟨(kk, [] ++ [⟨ek, en, et, eks, ep⟩], ⟨a1, e1, f1⟩), ⟨g1, .inr ⟨he1, by omega⟩, q2, fun e => absurd e he1, by simp only [List.length_append, List.length_cons, List.length_nil] at g4 ⊢; omega⟩, Nat.lt_succ_self _, ?_⟩
     refine k.gcs (keep := [1, 3]) (live := [10, 9, 8, 3, 2, 1, 0]) (md := true) ?_
     simp only [List.cons_append, List.nil_append, accD, zK, zF, zg, zb, List.append_nil, List.length_cons, List.length_nil]
     simp (disch := first | exact dis | fail) only [go_sem, seval, -reduceOfNat, -reduceNegSucc, xD, rdD, rowD]
    | cons a0 ar =>
     have hp1 := zt (a0 :: ar)
     simp only [List.length_cons] at g4
     refine k.eval (by simp (disch := first | exact dis | fail) only [go_sem, seval, -reduceOfNat, -reduceNegSucc, accD, zK, xD, rdD, rowD, cnext, f54, hcall]; exact rfl) ?_
     try simp only [za]
     refine ⟨(kk, (a0 :: ar) ++ [⟨ek, en, et, eks, ep⟩], ⟨a1, e1, f1⟩), ⟨g1, .inr ⟨he1, by omega⟩, q2, fun e => absurd e he1, by simp only [List.length_append, List.length_cons, List.length_nil] at g4 ⊢; omega⟩, Nat.lt_succ_self _, ?_⟩
     refine k.gcs (keep := [1, 4]) (live := [10, 9, 8, 3, 2, 1, 0]) (md := true) ?_
     simp only [List.cons_append, List.nil_append, accD, zK, zF, yi, zg, zb, List.append_nil, List.append_assoc, List.length_append, List.length_cons, List.length_nil]
     simp (disch := first | exact dis | fail) only [go_sem, seval, -reduceOfNat, -reduceNegSucc, xD, rdD, rowD, zt, yr]
   | cons tk tr =>
    have hlt := xX hd
    have h4 : ¬ at_ = ts.length := by omega
    simp only [hd] at g1
    have hne : ts.drop at_ ≠ [] := by rw [hd]; simp
    obtain ⟨tk, tp, ⟨dk, dn, dt, dks, dp⟩⟩ := tk
    by_cases hk2 : tk = 2
    ·subst hk2
     rw [if_pos (.inl rfl)] at g1
     rw [← g1]
     cases acc with
     | nil =>
      refine k.eval (by simp (disch := first | exact dis | fail) only [go_sem, seval, -reduceOfNat, -reduceNegSucc, accD, zK, xD, rdD, rowD, cnext, f54, h4, hd, zn, zl, zi]; exact rfl) ?_
      try simp only [za, zj]
      apply ze (Or.inr rfl)
      iterate 5 (simp (disch := first | exact dis | fail) only [go_sem, seval, -reduceOfNat, -reduceNegSucc, rdD, rowD, zi, zg, z7, RS.nx, zy] <;> exact rfl)
     | cons a0 ar =>
      have hp1 := zt (a0 :: ar)
      refine k.eval (by simp (disch := first | exact dis | fail) only [go_sem, seval, -reduceOfNat, -reduceNegSucc, accD, zK, xD, rdD, rowD, cnext, f54, h4, hd, zn, zl, zi]; exact rfl) ?_
      try simp only [za, zj]
      apply ze (Or.inr rfl)
      iterate 5 (simp (disch := first | exact dis | fail) only [go_sem, seval, -reduceOfNat, -reduceNegSucc, rdD, rowD, zi, z7, RS.nx, zy] <;> exact rfl)
    by_cases hst : tk = 6 ∧ acc ≠ [] ∧ dots = true
    ·obtain ⟨rfl, hne2, rfl⟩ := hst
     rw [if_pos (.inr ⟨rfl, hne2, rfl⟩)] at g1
     rw [← g1]
     cases acc with
     | nil => exact absurd rfl hne2
     | cons a0 ar =>
      have hp1 := zt (a0 :: ar)
      refine k.eval (by simp (disch := first | exact dis | fail) only [go_sem, seval, -reduceOfNat, -reduceNegSucc, accD, zK, xD, rdD, rowD, cnext, f54, h4, hd, zn, zl, zi]; exact rfl) ?_
      try simp only [za, zj]
      apply ze (Or.inr rfl)
      iterate 5 (simp (disch := first | exact dis | fail) only [go_sem, seval, -reduceOfNat, -reduceNegSucc, rdD, rowD, zi, z7, RS.nx, zy] <;> exact rfl)
    rw [if_neg (fun h => h.elim hk2 hst)] at g1
    revert g1 hcall hfine
    generalize datF n ts op ⟨at_, 0, fp⟩ = R
    obtain ⟨⟨ek, en, et, eks, ep⟩, ⟨a1, e1, f1⟩⟩ := R
    intro hcall hfine g1
    obtain ⟨q1, q2, q3, q4, q5⟩ := hfine
    simp only at q1 q2 q3 q4 q5
    have q5 := q5 hne
    simp only [rowD, encD, zb] at hcall
    by_cases hk6 : tk = 6
    ·subst hk6
     cases acc with
     | nil =>
      refine k.eval (by simp (disch := first | exact dis | fail) only [go_sem, seval, -reduceOfNat, -reduceNegSucc, accD, zK, xD, rdD, rowD, cnext, f54, hcall, h4, hd, zn, zl, zi]; exact rfl) ?_
      try simp only [za]
      refine ⟨(kk, [] ++ [⟨ek, en, et, eks, ep⟩], ⟨a1, e1, f1⟩), ⟨g1, .inl (by simp only; omega), q2, fun e => by have := q4 e; simp only [List.length_append, List.length_cons, List.length_nil] at g4 ⊢; omega, by simp only [List.length_append, List.length_cons, List.length_nil] at g4 ⊢; omega⟩, Nat.lt_succ_self _, ?_⟩
      refine k.gcs (keep := [1, 3]) (live := [10, 9, 8, 3, 2, 1, 0]) (md := true) ?_
      simp only [List.cons_append, List.nil_append, accD, zK, zF, zg, zb, List.append_nil, List.length_cons, List.length_nil]
      simp (disch := first | exact dis | fail) only [go_sem, seval, -reduceOfNat, -reduceNegSucc, xD, rdD, rowD]
     | cons a0 ar =>
      have hdo : dots = false := by
       cases dots with
       | false => rfl
       | true => exact absurd ⟨rfl, by simp, rfl⟩ hst
      subst hdo
      have hp1 := zt (a0 :: ar)
      simp only [List.length_cons] at g4
      refine k.eval (by simp (disch := first | exact dis | fail) only [go_sem, seval, -reduceOfNat, -reduceNegSucc, accD, zK, xD, rdD, rowD, cnext, f54, hcall, h4, hd, zn, zl, zi]; exact rfl) ?_
      try simp only [za]
      refine ⟨(kk, (a0 :: ar) ++ [⟨ek, en, et, eks, ep⟩], ⟨a1, e1, f1⟩), ⟨g1, .inl (by simp only; omega), q2, fun e => by have := q4 e; simp only [List.length_append, List.length_cons, List.length_nil] at g4 ⊢; omega, by simp only [List.length_append, List.length_cons, List.length_nil] at g4 ⊢; omega⟩, Nat.lt_succ_self _, ?_⟩
      refine k.gcs (keep := [1, 4]) (live := [10, 9, 8, 3, 2, 1, 0]) (md := true) ?_
      simp only [List.cons_append, List.nil_append, accD, zK, zF, yi, zg, zb, List.append_nil, List.append_assoc, List.length_append, List.length_cons, List.length_nil]
      simp (disch := first | exact dis | fail) only [go_sem, seval, -reduceOfNat, -reduceNegSucc, xD, rdD, rowD, zt, yr]
    ·cases acc with
     | nil =>
      refine k.eval (by simp (disch := first | exact dis | fail) only [go_sem, seval, -reduceOfNat, -reduceNegSucc, accD, zK, xD, rdD, rowD, cnext, f54, hcall, h4, hd, zn, zl, zi, hk2, hk6]; exact rfl) ?_
      try simp only [za]
      refine ⟨(kk, [] ++ [⟨ek, en, et, eks, ep⟩], ⟨a1, e1, f1⟩), ⟨g1, .inl (by simp only; omega), q2, fun e => by have := q4 e; simp only [List.length_append, List.length_cons, List.length_nil] at g4 ⊢; omega, by simp only [List.length_append, List.length_cons, List.length_nil] at g4 ⊢; omega⟩, Nat.lt_succ_self _, ?_⟩
      refine k.gcs (keep := [1, 3]) (live := [10, 9, 8, 3, 2, 1, 0]) (md := true) ?_
      simp only [List.cons_append, List.nil_append, accD, zK, zF, zg, zb, List.append_nil, List.length_cons, List.length_nil]
      simp (disch := first | exact dis | fail) only [go_sem, seval, -reduceOfNat, -reduceNegSucc, xD, rdD, rowD]
     | cons a0 ar =>
      have hp1 := zt (a0 :: ar)
      simp only [List.length_cons] at g4
      refine k.eval (by simp (disch := first | exact dis | fail) only [go_sem, seval, -reduceOfNat, -reduceNegSucc, accD, zK, xD, rdD, rowD, cnext, f54, hcall, h4, hd, zn, zl, zi, hk2, hk6]; exact rfl) ?_
      try simp only [za]
      refine ⟨(kk, (a0 :: ar) ++ [⟨ek, en, et, eks, ep⟩], ⟨a1, e1, f1⟩), ⟨g1, .inl (by simp only; omega), q2, fun e => by have := q4 e; simp only [List.length_append, List.length_cons, List.length_nil] at g4 ⊢; omega, by simp only [List.length_append, List.length_cons, List.length_nil] at g4 ⊢; omega⟩, Nat.lt_succ_self _, ?_⟩
      refine k.gcs (keep := [1, 4]) (live := [10, 9, 8, 3, 2, 1, 0]) (md := true) ?_
      simp only [List.cons_append, List.nil_append, accD, zK, zF, yi, zg, zb, List.append_nil, List.append_assoc, List.length_append, List.length_cons, List.length_nil]
      simp (disch := first | exact dis | fail) only [go_sem, seval, -reduceOfNat, -reduceNegSucc, xD, rdD, rowD, zt, yr]
  ·simp only [ne_eq, he, not_false_eq_true, if_true] at g1
   cases acc with
   | nil =>
    refine k.eval (by simp (disch := first | exact dis | fail) only [go_sem, seval, -reduceOfNat, -reduceNegSucc, accD, zK, xD, rdD, rowD, he]; exact rfl) ?_
    try simp only [za, zj]
    simp only [Gcx]
    refine ⟨([], ⟨at_, err, fp⟩), g1.symm, ?_⟩
    refine k.gcs (keep := [1]) (live := [10, 9]) (md := true) ?_
    simp (disch := first | exact dis | fail) only [go_sem, seval, -reduceOfNat, -reduceNegSucc, accD, zK, xD, rdD, rowD]
   | cons a0 ar =>
    have hp1 := zt (a0 :: ar)
    refine k.eval (by simp (disch := first | exact dis | fail) only [go_sem, seval, -reduceOfNat, -reduceNegSucc, accD, zK, xD, rdD, rowD, he]; exact rfl) ?_
    try simp only [za, zj]
    simp only [Gcx]
    refine ⟨(a0 :: ar, ⟨at_, err, fp⟩), g1.symm, ?_⟩
    refine k.gcs (keep := [1, 2]) (live := [10, 9]) (md := true) ?_
    simp (disch := first | exact dis | fail) only [go_sem, seval, -reduceOfNat, -reduceNegSucc, accD, zK, xD, rdD, rowD, hp1]
 ·intro x hx
  obtain ⟨l, ⟨a1, e1, f1⟩⟩ := x
  simp only at hx ⊢
  rw [hx]
  cases l with
  | nil =>
   refine zd (k.eval (by simp (disch := first | exact dis | fail) only [go_sem, seval, -reduceOfNat, -reduceNegSucc, accD, zK, xD, rdD, rowD]; exact rfl) ?_)
   simp only [za]
   refine k.eval (by simp (disch := first | exact dis | fail) only [go_sem, seval, -reduceOfNat, -reduceNegSucc]; exact rfl) ?_
   try simp only [za, zj, Cut, if_true]
   apply ze (Or.inr rfl)
   iterate 5 (simp (disch := first | exact dis | fail) only [go_sem, seval, -reduceOfNat, -reduceNegSucc, rdD, rowD, t0, d0, zi, zg, zy] <;> exact rfl)
  | cons a0 ar =>
   have hp1 := zt (a0 :: ar)
   refine zd (k.eval (by simp (disch := first | exact dis | fail) only [go_sem, seval, -reduceOfNat, -reduceNegSucc, accD, zK, xD, rdD, rowD]; exact rfl) ?_)
   simp only [za]
   refine k.eval (by simp (disch := first | exact dis | fail) only [go_sem, seval, -reduceOfNat, -reduceNegSucc]; exact rfl) ?_
   try simp only [za, zj, Cut, if_true]
   apply ze (Or.inr rfl)
   iterate 5 (simp (disch := first | exact dis | fail) only [go_sem, seval, -reduceOfNat, -reduceNegSucc, rdD, rowD, t0, d0, zi, zg, z7, zy] <;> exact rfl)
set_option maxRecDepth 100000
abbrev IX := List Tok × Nat × Nat × Bool × RS
def YB (x : IX) : Nat × List AV × List AV := (66, rowD x.1 x.2.2.2.2, [.int .i64 (.ofNat x.2.1), .int .i64 (.ofNat x.2.2.1), .bool x.2.2.2.1])
theorem J0 : ∀ x y, YB x = YB y → x = y := fun ⟨ts, dep, op, b, s⟩ ⟨ts', dep', op', b', s'⟩ h => by
 simp only [YB, Prod.mk.injEq, List.cons.injEq, AV.int.injEq, AV.bool.injEq, true_and, and_true] at h
 obtain ⟨h1, h2, h3, h4⟩ := h
 obtain ⟨rfl, rfl⟩ := pe h1
 cases h2; cases h3; cases h4; rfl
def zwg (n : Nat) (x : IX) : Prop := TsOk x.1 ∧ x.2.1 + 1 + n = 200 ∧ x.2.2.2.2.err = 0 ∧ x.2.2.2.2.at_ ≤ x.1.length
def itV (x : List DT × Tok × RS) : AV := .tup [.lst x.1.length false (zm x.1), .agg (xc x.2.1)]
def zvw (n : Nat) (x : IX) : AV × List AV := (itV (itF (datF n x.1) x.1 x.2.2.1 x.2.2.2.1 x.2.2.2.2), rowD x.1 (itF (datF n x.1) x.1 x.2.2.1 x.2.2.2.1 x.2.2.2.2).2.2)
noncomputable def gIt (n : Nat) : List AV → St → Option (AV × St) := orc1 YB (zwg n) (zvw n)
theorem V3 {O : Orc} {n : Nat} (h : O 58 = some (gIt n)) {ts : List Tok} {dep op : Nat} {dots : Bool} {s : RS} (hp : zwg n (ts, dep, op, dots, s)) (l : List (Nat × Option AObj)) (nx m : Nat) (md : Bool) (id : Nat) (hg : getA l id = some (.row 66 (rowD ts s) false false)) :
  (evW env O).call 58 [.ptr id 0, .int .i64 (.ofNat dep), .int .i64 (.ofNat op), .bool dots] (KL l nx m md [] none) = some (itV (itF (datF n ts) ts op dots s), KL ((id, some (.row 66 (rowD ts (itF (datF n ts) ts op dots s).2.2) false false)) :: l) nx (mark m id) md [] none) := by
 rw [zJ h, gIt, qB, xj, hg, v6 J0 _ _ (ts, dep, op, dots, s) hp (by simp only [YB, Y0, wkL, wkV])]
 rfl
theorem LS (x : List DT × Tok × RS) : zD (itV x) = true := by simp only [itV, yF, zB, yy, wA, qf, zI, Bool.and_self]
theorem PB {P : Program} {w0 : World} (B : Bx P w0) {O : Orc} (hO : OrcOk P w0 O) {n : Nat} {O' : Orc} (hO' : OrcOk P w0 O') (h32 : O' 32 = some (gDt n)) (o54 : O' 54 = none) : OrcOk P w0 (withG 58 (gIt n) O) :=
 hO.withG vT (gs true (fun x hx => ⟨qz _ _, by simp only [YB, zB, yu, wX, zI, Bool.and_self], LS _, qz _ _⟩) fun x hx => VH B hO' h32 o54 x.1 hx.1 x.2.1 x.2.2.1 hx.2.1 x.2.2.2.1 x.2.2.2.2 hx.2.2.1 hx.2.2.2)
abbrev BX := List Tok × Nat × RS
def Wj (x : BX) : Nat × List AV × List AV := (66, rowD x.1 x.2.2, [.int .i64 (.ofNat x.2.1)])
theorem JY : ∀ x y, Wj x = Wj y → x = y := fun ⟨ts, op, s⟩ ⟨ts', op', s'⟩ h => by
 simp only [Wj, Prod.mk.injEq, List.cons.injEq, AV.int.injEq, true_and, and_true] at h
 obtain ⟨h1, h2⟩ := h
 obtain ⟨rfl, rfl⟩ := pe h1
 cases h2; rfl
def zwi (x : BX) : Prop := TsOk x.1 ∧ x.2.2.err = 0 ∧ x.2.2.at_ ≤ x.1.length
noncomputable def gBy : List AV → St → Option (AV × St) := orc1 Wj zwi (fun x => (encD (byF x.1 x.2.1 x.2.2).1, rowD x.1 (byF x.1 x.2.1 x.2.2).2))
theorem zya {O : Orc} (h : O 59 = some gBy) {ts : List Tok} {op : Nat} {s : RS} (hp : zwi (ts, op, s)) (l : List (Nat × Option AObj)) (nx m : Nat) (md : Bool) (id : Nat) (hg : getA l id = some (.row 66 (rowD ts s) false false)) :
  (evW env O).call 59 [.ptr id 0, .int .i64 (.ofNat op)] (KL l nx m md [] none) = some (encD (byF ts op s).1, KL ((id, some (.row 66 (rowD ts (byF ts op s).2) false false)) :: l) nx (mark m id) md [] none) := by
 rw [zJ h, gBy, qB, xj, hg, v6 JY _ _ (ts, op, s) hp (by simp only [Wj, Y0, wkL, wkV])]
 rfl
theorem P8 {P : Program} {w0 : World} (B : Bx P w0) {O : Orc} (hO : OrcOk P w0 O) (o54 : O 54 = none) (o55 : O 55 = none) (h86 : O 86 = some u9) : OrcOk P w0 (withG 59 gBy O) :=
 hO.withG vT (gs true (fun x hx => ⟨qz _ _, rfl, wu _, qz _ _⟩) fun x hx => LP B hO o54 o55 h86 x.1 hx.1 x.2.1 x.2.2 hx.2.1 hx.2.2)
def ky (x : List DT × DT) : List AV := [.lst x.1.length false (zm x.1), encD x.2]
noncomputable def gLs : List AV → St → Option (AV × St) := orc0 ky (fun x => x.1.length < 1000000) (fun x => encD (xg x.1 x.2))
theorem JS : ∀ x y, ky x = ky y → x = y := fun ⟨l, e⟩ ⟨l', e'⟩ h => by
 simp only [ky, List.cons.injEq, AV.lst.injEq, and_true, true_and] at h
 obtain ⟨⟨_, h1⟩, h2⟩ := h
 rw [qW h1, uG h2]
theorem Y3 {O : Orc} (h : O 56 = some gLs) (l : List DT) (e : DT) (hl : l.length < 1000000) (args : List AV) (ha : wkL args = ky (l, e)) (s : St) : (evW env O).call 56 args s = some (encD (xg l e), s) := by
 rw [zJ h, gLs, yM JS s (l, e) hl ha]
theorem Lc {P : Program} {w0 : World} (B : Bx P w0) {O : Orc} (hO : OrcOk P w0 O) : OrcOk P w0 (withG 56 gLs O) :=
 hO.withG yV (wP true (fun x => by simp only [ky, zB, yy, wu, zI, Bool.and_self]) (fun x => wu _) fun x hx => ⟨_, zxV B (xr P w0) rfl rfl x.1 x.2 hx⟩)
theorem gF {ts : List Tok} {dt : Rec} (hd : kr ts dt) (op : Nat) (dots : Bool) : ∀ (k : Nat) (acc : List DT) (s : RS), s.at_ ≤ ts.length → (s.err = 0 → acc.length ≤ s.at_) → acc.length ≤ s.at_ + 1 → (zV dt ts op dots k acc s).1.length ≤ ts.length + 1
 | 0, acc, s, h, _, h3 => by simp only [zV]; omega
 | k + 1, acc, s, h, h2, h3 => by
  have h1 := hd op s h
  simp only [zV]
  split
  ·first | omega | (simp only; omega)
  rename_i he
  have he : s.err = 0 := by simpa using he
  have h2 := h2 he
  have hs : (zV dt ts op dots k (acc ++ [(dt op s).1]) (dt op s).2).1.length ≤ ts.length + 1 := gF hd op dots k _ _ h1.2.1 (fun e => by have := h1.2.2.2.1 e; simp only [List.length_append, List.length_cons, List.length_nil]; omega) (by have := h1.1; simp only [List.length_append, List.length_cons, List.length_nil]; omega)
  split
  ·exact hs
  ·split
   ·first | omega | (simp only; omega)
   ·exact hs
theorem uW {ts : List Tok} {dt : Rec} (op : Nat) (dots : Bool) : ∀ (k : Nat) (acc : List DT) (s : RS), (zV dt ts op dots k acc s).2.1.kind = 6 → (zV dt ts op dots k acc s).2.2.err = 0
 | 0, acc, s, h => by simp [zV, t0] at h
 | k + 1, acc, s, h => by
  simp only [zV] at h ⊢
  split at h
  ·simp [t0] at h
  rename_i he
  rw [if_neg he]
  split at h
  ·rename_i hd; exact uW op dots k _ _ h
  ·rename_i hd
   split at h
   ·rename_i hst; rw [if_pos hst]; simpa [RS.nx] using he
   ·rename_i hst; rw [if_neg hst]; exact uW op dots k _ _ h
theorem Zc {P : Program} {w0 : World} (B : Bx P w0) {O : Orc} (hO : OrcOk P w0 O) (o54 : O 54 = none) (o55 : O 55 = none) (o57 : O 57 = none) (h56 : O 56 = some gLs) (h59 : O 59 = some gBy)
  (ts : List Tok) (hts : TsOk ts) (rec : Rec) (full : Bool) (dep op : Nat) (hfull : full = true → 200 ≤ dep) (hrec : full = false → dep < 200 ∧ ∃ n, rec = datF n ts ∧ dep + 1 + n = 200 ∧ O 32 = some (gDt n) ∧ O 58 = some (gIt n)) (s : RS) (he : s.err = 0) (hs : s.at_ ≤ ts.length) :
  SC P w0 32 [.ptr 0 0, .int .i64 (.ofNat dep), .int .i64 (.ofNat op)] (H [some (rdD ts s)] 0 true) (encD (datG rec full ts op s).1) (H [some (rdD ts (datG rec full ts op s).2)] 1 true) := by
 refine Is.sc hO B.mixed B.glob B.env 1 (show env.funs.get 32 = some f32 from rfl) (Nat.le_of_ble_eq_true rfl) (qI rfl) fun C k => ?_
 have cnext := @zQ env O _ _ o54 (show env.funs.get 54 = some f54 from rfl) rfl
 have cfell := @zQ env O _ _ o55 (show env.funs.get 55 = some f55 from rfl) rfl
 have clist := @zQ env O _ _ o57 (show env.funs.get 57 = some f57 from rfl) rfl
 have hlen := hts.1
 obtain ⟨at_, err, fp⟩ := s
 simp only at he hs
 subst he
 unfold f32
 simp only [Ko, Kn, Ki]
 cases hd : ts.drop at_ with
 | nil =>
  have h4 : at_ = ts.length := by have := vK hd; omega
  have hG : datG rec full ts op ⟨at_, 0, fp⟩ = (d0, ⟨at_, 7, op⟩) := by unfold datG; simp only [hd]; rfl
  rw [hG]
  subst h4
  refine k.eval (by simp (disch := first | exact dis | fail) only [go_sem, seval, -reduceOfNat, -reduceNegSucc, rdD, rowD, cnext, f54, cfell, f55]; exact rfl) ?_
  try simp only [za]
  apply ze (Or.inr rfl)
  iterate 5 (simp (disch := first | exact dis | fail) only [go_sem, seval, -reduceOfNat, -reduceNegSucc, rdD, rowD, encD, d0, zb, zg, zy] <;> exact rfl)
 | cons tk tr =>
  have hlt := xX hd
  have h4 : ¬ at_ = ts.length := by omega
  have hG : datG rec full ts op ⟨at_, 0, fp⟩ = yX rec full ts tk ⟨at_ + 1, 0, fp⟩ := by unfold datG; simp only [hd]; rfl
  rw [hG]
  obtain ⟨tk, tp, ⟨dk, dn, dt, dks, dp⟩⟩ := tk
  by_cases hk7 : tk = 7
  ·subst hk7
   have hB : yX rec full ts ⟨7, tp, .mk dk dn dt dks dp⟩ ⟨at_ + 1, 0, fp⟩ = (.mk dk dn dt dks dp, ⟨at_ + 1, 0, fp⟩) := if_pos rfl
   rw [hB]
   refine k.eval (by simp (disch := first | exact dis | fail) only [go_sem, seval, -reduceOfNat, -reduceNegSucc, rdD, rowD, cnext, f54, h4, hd, zn, zl, zi]; exact rfl) ?_
   try simp only [za]
   apply ze (Or.inr rfl)
   iterate 5 (simp (disch := first | exact dis | fail) only [go_sem, seval, -reduceOfNat, -reduceNegSucc, rdD, rowD, encD, zb, z7, zy] <;> exact rfl)
  by_cases hk2 : tk = 2 ∨ tk = 6
  ·have hB : yX rec full ts ⟨tk, tp, .mk dk dn dt dks dp⟩ ⟨at_ + 1, 0, fp⟩ = (d0, ⟨at_ + 1, 7, tp⟩) := by unfold yX; rw [if_neg hk7, if_pos hk2]; rfl
   rw [hB]
   rcases hk2 with rfl | rfl
   ·skip
    refine k.eval (by simp (disch := first | exact dis | fail) only [go_sem, seval, -reduceOfNat, -reduceNegSucc, rdD, rowD, cnext, f54, h4, hd, zn, zl, zi, cfell, f55]; exact rfl) ?_
    try simp only [za]
    apply ze (Or.inr rfl)
    iterate 5 (simp (disch := first | exact dis | fail) only [go_sem, seval, -reduceOfNat, -reduceNegSucc, rdD, rowD, encD, d0, zb, zg, zy] <;> exact rfl)
   ·skip
    refine k.eval (by simp (disch := first | exact dis | fail) only [go_sem, seval, -reduceOfNat, -reduceNegSucc, rdD, rowD, cnext, f54, h4, hd, zn, zl, zi, cfell, f55]; exact rfl) ?_
    try simp only [za]
    apply ze (Or.inr rfl)
    iterate 5 (simp (disch := first | exact dis | fail) only [go_sem, seval, -reduceOfNat, -reduceNegSucc, rdD, rowD, encD, d0, zb, zg, zy] <;> exact rfl)
  have k2 : ¬ tk = 2 := fun h => hk2 (.inl h)
  have k6 : ¬ tk = 6 := fun h => hk2 (.inr h)
  cases full with
  | true =>
   have hdp := hfull rfl
   have hB : yX rec true ts ⟨tk, tp, .mk dk dn dt dks dp⟩ ⟨at_ + 1, 0, fp⟩ = (d0, ⟨at_ + 1, 5, tp⟩) := by unfold yX; rw [if_neg hk7, if_neg hk2, if_pos rfl]; rfl
   rw [hB]
   refine k.eval (by simp (disch := first | exact dis | fail) only [go_sem, seval, -reduceOfNat, -reduceNegSucc, rdD, rowD, cnext, f54, h4, hd, zn, zl, zi, cfell, f55, hk7, k2, k6]; exact rfl) ?_
   try simp only [za]
   apply ze (Or.inr rfl)
   iterate 5 (simp (disch := first | exact dis | fail) only [go_sem, seval, -reduceOfNat, -reduceNegSucc, rdD, rowD, encD, d0, zb, zg, zy] <;> exact rfl)
  | false =>
  obtain ⟨hdlt, n, rfl, hdep, h32, h58⟩ := hrec rfl
  have hdp : ¬ 200 ≤ dep := by omega
  have hF := qD ts n
  by_cases hk3 : tk = 3
  ·subst hk3
   have hB : yX (datF n ts) false ts ⟨3, tp, .mk dk dn dt dks dp⟩ ⟨at_ + 1, 0, fp⟩ = quoF ⟨3, tp, .mk dk dn dt dks dp⟩ (datF n ts tp ⟨at_ + 1, 0, fp⟩) := rfl
   rw [hB]
   have hcall := fun l nx m => lB h32 (ts := ts) (dep := dep + 1) (op := tp) (s := ⟨at_ + 1, 0, fp⟩) ⟨hts, hdep, rfl, hlt⟩ l nx m true 0
   revert hcall
   generalize datF n ts tp ⟨at_ + 1, 0, fp⟩ = R
   obtain ⟨⟨ek, en, et, eks, ep⟩, ⟨a1, e1, f1⟩⟩ := R
   intro hcall
   simp only [rowD, encD, zb] at hcall
   have hlist := Y3 h56 [xz tp, .mk ek en et eks ep] (qP ep) (by simp) [.lst 2 true [.int .i64 (.ofNat 5), .int .i64 (.ofNat 0), .str [113, 117, 111, 116, 101], .nils, .int .i64 (.ofNat tp), .int .i64 ek, .int .i64 en, .str et, .lst eks.length false (zm eks), .int .i64 ep], .agg [.int .i64 (.ofNat 0), .int .i64 (.ofNat 0), .str [], .nils, .int .i64 ep]] (by simp only [wkL, wkV, ky, encD, qP, xz, zb, zF, zg, List.length_cons, List.length_nil, z7, List.cons_append, List.nil_append, List.append_nil])
   obtain ⟨gk, gn, gt, gks, gp, hg⟩ : ∃ gk gn gt gks gp, xg [xz tp, .mk ek en et eks ep] (qP ep) = .mk gk gn gt gks gp := by
    cases xg [xz tp, .mk ek en et eks ep] (qP ep) with
    | mk gk gn gt gks gp => exact ⟨gk, gn, gt, gks, gp, rfl⟩
   have hQ : quoF ⟨3, tp, .mk dk dn dt dks dp⟩ (.mk ek en et eks ep, ⟨a1, e1, f1⟩) = (.mk gk gn gt gks gp, ⟨a1, e1, f1⟩) := by
    show (xg [xz tp, .mk ek en et eks ep] (qP ep), _) = _
    rw [hg]
   rw [hQ]
   rw [hg] at hlist
   simp only [encD, zb] at hlist
   refine k.eval (by simp (disch := first | exact dis | fail) only [go_sem, seval, -reduceOfNat, -reduceNegSucc, rdD, rowD, cnext, f54, h4, hd, zn, zl, zi, hcall, hlist]; exact rfl) ?_
   try simp only [za]
   apply ze (Or.inr rfl)
   iterate 5 (simp (disch := first | exact dis | fail) only [go_sem, seval, -reduceOfNat, -reduceNegSucc, rdD, rowD, encD, zb, z7, zy] <;> exact rfl)
  by_cases hk1 : tk = 1
  ·subst hk1
   have hB : yX (datF n ts) false ts ⟨1, tp, .mk dk dn dt dks dp⟩ ⟨at_ + 1, 0, fp⟩ = pG (datF n ts) ts tp (itF (datF n ts) ts tp true ⟨at_ + 1, 0, fp⟩) := rfl
   rw [hB]
   have hcall := fun l nx m => V3 h58 (ts := ts) (dep := dep) (op := tp) (dots := true) (s := ⟨at_ + 1, 0, fp⟩) ⟨hts, hdep, rfl, hlt⟩ l nx m true 0
   have hil : (itF (datF n ts) ts tp true ⟨at_ + 1, 0, fp⟩).1.length ≤ ts.length + 1 := gF hF tp true _ [] ⟨at_ + 1, 0, fp⟩ hlt (fun _ => Nat.zero_le _) (Nat.zero_le _)
   have hid := uW (ts := ts) (dt := datF n ts) tp true (ts.length + 3) [] ⟨at_ + 1, 0, fp⟩
   have hif : (itF (datF n ts) ts tp true ⟨at_ + 1, 0, fp⟩).2.2.at_ ≤ ts.length := (xv hF tp true (ts.length + 3) [] ⟨at_ + 1, 0, fp⟩ hlt).2.1
   change (itF (datF n ts) ts tp true ⟨at_ + 1, 0, fp⟩).2.1.kind = 6 → (itF (datF n ts) ts tp true ⟨at_ + 1, 0, fp⟩).2.2.err = 0 at hid
   revert hcall hil hid hif
   generalize itF (datF n ts) ts tp true ⟨at_ + 1, 0, fp⟩ = I
   obtain ⟨ls, ⟨ck, cp, ⟨yk, yn, yt, yks, yp⟩⟩, ⟨a1, e1, f1⟩⟩ := I
   intro hcall hil hif hid
   simp only at hil hid hif
   simp only [rowD, itV, zi] at hcall
   have hls : ls.length < 1000000 := by omega
   by_cases hc6 : ck = 6
   ·subst hc6
    have he1 := hid rfl
    subst he1
    have hL : pG (datF n ts) ts tp (ls, ⟨6, cp, .mk yk yn yt yks yp⟩, ⟨a1, 0, f1⟩) = wR ts tp ls (datF n ts tp ⟨a1, 0, f1⟩).1 (datF n ts tp ⟨a1, 0, f1⟩).2 := rfl
    rw [hL]
    have hcall2 := fun l nx m => lB h32 (ts := ts) (dep := dep + 1) (op := tp) (s := ⟨a1, 0, f1⟩) ⟨hts, hdep, rfl, hif⟩ l nx m true 0
    have hf2 := (hF tp ⟨a1, 0, f1⟩ hif).2.1
    revert hcall2 hf2
    generalize datF n ts tp ⟨a1, 0, f1⟩ = R
    obtain ⟨⟨ek, en, et, eks, ep⟩, ⟨a2, e2, f2⟩⟩ := R
    intro hcall2 hf2
    simp only at hf2
    simp only [rowD, encD, zb] at hcall2
    cases hd2 : ts.drop a2 with
    | nil =>
     have h42 : a2 = ts.length := by have := vK hd2; omega
     have hL2 : wR ts tp ls (.mk ek en et eks ep) ⟨a2, e2, f2⟩ = (d0, RS.fell ⟨a2, e2, f2⟩ 7 tp) := by unfold wR; simp only [hd2]
     rw [hL2]
     subst h42
     by_cases he2 : e2 = 0
     ·subst he2
      refine k.eval (by simp (disch := first | exact dis | fail) only [go_sem, seval, -reduceOfNat, -reduceNegSucc, rdD, rowD, cnext, f54, h4, hd, zn, zl, zi, clist, f57, hcall, hcall2, cfell, f55]; exact rfl) ?_
      try simp only [za]
      apply ze (Or.inr rfl)
      iterate 5 (simp (disch := first | exact dis | fail) only [go_sem, seval, -reduceOfNat, -reduceNegSucc, rdD, rowD, RS.fell, encD, d0, zb, zg, zy] <;> exact rfl)
     ·skip
      refine k.eval (by simp (disch := first | exact dis | fail) only [go_sem, seval, -reduceOfNat, -reduceNegSucc, rdD, rowD, cnext, f54, h4, hd, zn, zl, zi, clist, f57, hcall, hcall2, cfell, f55, he2]; exact rfl) ?_
      try simp only [za]
      apply ze (Or.inr rfl)
      iterate 5 (simp (disch := first | exact dis | fail) only [go_sem, seval, -reduceOfNat, -reduceNegSucc, rdD, rowD, RS.fell, encD, d0, zb, zg, zy, he2] <;> exact rfl)
    | cons zk zr =>
     have hlt2 := xX hd2
     have h42 : ¬ a2 = ts.length := by omega
     obtain ⟨zk, zp, ⟨wk, wn, wt, wks, wp⟩⟩ := zk
     by_cases hz2 : zk = 2
     ·subst hz2
      have hL2 : wR ts tp ls (.mk ek en et eks ep) ⟨a2, e2, f2⟩ = (atD (xg ls (.mk ek en et eks ep)) (.ofNat tp), ⟨a2 + 1, e2, f2⟩) := by unfold wR; simp only [hd2]; rfl
      rw [hL2]
      have hlist := Y3 h56 ls (.mk ek en et eks ep) hls [.lst ls.length false (zm ls), .agg [.int .i64 ek, .int .i64 en, .str et, .lst eks.length false (zm eks), .int .i64 ep]] (by simp only [wkL, wkV, ky, encD, zb, z7])
      obtain ⟨gk, gn, gt, gks, gp, hg⟩ : ∃ gk gn gt gks gp, xg ls (.mk ek en et eks ep) = .mk gk gn gt gks gp := by
       cases xg ls (.mk ek en et eks ep) with
       | mk gk gn gt gks gp => exact ⟨gk, gn, gt, gks, gp, rfl⟩
      rw [hg] at hlist ⊢
      simp only [encD, zb] at hlist
      refine k.eval (by simp (disch := first | exact dis | fail) only [go_sem, seval, -reduceOfNat, -reduceNegSucc, rdD, rowD, cnext, f54, h4, hd, zn, zl, zi, clist, f57, hcall, hcall2, h42, hd2, hlist]; exact rfl) ?_
      try simp only [za]
      apply ze (Or.inr rfl)
      iterate 5 (simp (disch := first | exact dis | fail) only [go_sem, seval, -reduceOfNat, -reduceNegSucc, rdD, rowD, encD, atD, zb, z7, zy] <;> exact rfl)
     ·have hL2 : wR ts tp ls (.mk ek en et eks ep) ⟨a2, e2, f2⟩ = (d0, RS.fell ⟨a2, e2, f2⟩ 7 zp) := by unfold wR; simp only [hd2]; rw [if_neg hz2]
      rw [hL2]
      by_cases he2 : e2 = 0
      ·subst he2
       refine k.eval (by simp (disch := first | exact dis | fail) only [go_sem, seval, -reduceOfNat, -reduceNegSucc, rdD, rowD, cnext, f54, h4, hd, zn, zl, zi, clist, f57, hcall, hcall2, h42, hd2, hz2, cfell, f55]; exact rfl) ?_
       try simp only [za]
       apply ze (Or.inr rfl)
       iterate 5 (simp (disch := first | exact dis | fail) only [go_sem, seval, -reduceOfNat, -reduceNegSucc, rdD, rowD, RS.fell, encD, d0, zb, zg, zy] <;> exact rfl)
      ·skip
       refine k.eval (by simp (disch := first | exact dis | fail) only [go_sem, seval, -reduceOfNat, -reduceNegSucc, rdD, rowD, cnext, f54, h4, hd, zn, zl, zi, clist, f57, hcall, hcall2, h42, hd2, hz2, cfell, f55, he2]; exact rfl) ?_
       try simp only [za]
       apply ze (Or.inr rfl)
       iterate 5 (simp (disch := first | exact dis | fail) only [go_sem, seval, -reduceOfNat, -reduceNegSucc, rdD, rowD, RS.fell, encD, d0, zb, zg, zy, he2] <;> exact rfl)
   ·have hL : pG (datF n ts) ts tp (ls, ⟨ck, cp, .mk yk yn yt yks yp⟩, ⟨a1, e1, f1⟩) = (atD (xg ls (qP (.ofNat cp))) (.ofNat tp), ⟨a1, e1, f1⟩) := if_neg hc6
    rw [hL]
    have hlist := Y3 h56 ls (qP (.ofNat cp)) hls [.lst ls.length false (zm ls), .agg [.int .i64 (.ofNat 0), .int .i64 (.ofNat 0), .str [], .nils, .int .i64 (.ofNat cp)]] (by simp only [wkL, wkV, ky, encD, qP, zb, zg, List.length_nil, z7])
    obtain ⟨gk, gn, gt, gks, gp, hg⟩ : ∃ gk gn gt gks gp, xg ls (qP (.ofNat cp)) = .mk gk gn gt gks gp := by
     cases xg ls (qP (.ofNat cp)) with
     | mk gk gn gt gks gp => exact ⟨gk, gn, gt, gks, gp, rfl⟩
    rw [hg] at hlist ⊢
    simp only [encD, zb] at hlist
    refine k.eval (by simp (disch := first | exact dis | fail) only [go_sem, seval, -reduceOfNat, -reduceNegSucc, rdD, rowD, cnext, f54, h4, hd, zn, zl, zi, clist, f57, hcall, hc6, hlist]; exact rfl) ?_
    try simp only [za]
    apply ze (Or.inr rfl)
    iterate 5 (simp (disch := first | exact dis | fail) only [go_sem, seval, -reduceOfNat, -reduceNegSucc, rdD, rowD, encD, atD, zb, z7, zy] <;> exact rfl)
  by_cases hk4 : tk = 4
  ·subst hk4
   have hB : yX (datF n ts) false ts ⟨4, tp, .mk dk dn dt dks dp⟩ ⟨at_ + 1, 0, fp⟩ = vecF ⟨4, tp, .mk dk dn dt dks dp⟩ (itF (datF n ts) ts tp false ⟨at_ + 1, 0, fp⟩) := rfl
   rw [hB]
   have hcall := fun l nx m => V3 h58 (ts := ts) (dep := dep) (op := tp) (dots := false) (s := ⟨at_ + 1, 0, fp⟩) ⟨hts, hdep, rfl, hlt⟩ l nx m true 0
   revert hcall
   generalize itF (datF n ts) ts tp false ⟨at_ + 1, 0, fp⟩ = I
   obtain ⟨ls, ⟨ck, cp, ⟨yk, yn, yt, yks, yp⟩⟩, ⟨a1, e1, f1⟩⟩ := I
   intro hcall
   simp only [rowD, itV, zi] at hcall
   refine k.eval (by simp (disch := first | exact dis | fail) only [go_sem, seval, -reduceOfNat, -reduceNegSucc, rdD, rowD, cnext, f54, h4, hd, zn, zl, zi, hcall]; exact rfl) ?_
   try simp only [za, zj, Cut, if_true]
   apply ze (Or.inr rfl)
   iterate 5 (simp (disch := first | exact dis | fail) only [go_sem, seval, -reduceOfNat, -reduceNegSucc, rdD, rowD, encD, vecF, zb, z7, zy] <;> exact rfl)
  have hB : yX (datF n ts) false ts ⟨tk, tp, .mk dk dn dt dks dp⟩ ⟨at_ + 1, 0, fp⟩ = byF ts tp ⟨at_ + 1, 0, fp⟩ := by
   unfold yX
   rw [if_neg hk7, if_neg hk2, if_neg (by simp), if_neg hk3, if_neg hk1, if_neg hk4]
  rw [hB]
  have hcall := fun l nx m => zya h59 (ts := ts) (op := tp) (s := ⟨at_ + 1, 0, fp⟩) ⟨hts, rfl, hlt⟩ l nx m true 0
  revert hcall
  generalize byF ts tp ⟨at_ + 1, 0, fp⟩ = R
  obtain ⟨⟨ek, en, et, eks, ep⟩, ⟨a1, e1, f1⟩⟩ := R
  intro hcall
  simp only [rowD, encD, zb] at hcall
  refine k.eval (by simp (disch := first | exact dis | fail) only [go_sem, seval, -reduceOfNat, -reduceNegSucc, rdD, rowD, cnext, f54, h4, hd, zn, zl, zi, hcall, hk7, k2, k6, hk3, hk1, hk4]; exact rfl) ?_
  try simp only [za]
  apply ze (Or.inr rfl)
  iterate 5 (simp (disch := first | exact dis | fail) only [go_sem, seval, -reduceOfNat, -reduceNegSucc, rdD, rowD, encD, zb, z7, zy] <;> exact rfl)
set_option maxRecDepth 100000
noncomputable def OL : Orc := withG 59 gBy (withG 56 gLs (withG 86 u9 noO))
theorem zzr {P : Program} {w0 : World} (B : Bx P w0) (A : AtoiOk P w0) : OrcOk P w0 OL := by
 have h1 := VO A (xr P w0)
 have h2 := Lc B h1
 exact P8 B h2 rfl rfl rfl
theorem ZJ {P : Program} {w0 : World} (B : Bx P w0) (A : AtoiOk P w0) : ∀ n, OrcOk P w0 (withG 32 (gDt n) OL)
 | 0 => Xs (zzr B A) 0 fun ts dep op s hp => Zc B (zzr B A) rfl rfl rfl rfl rfl ts hp.1 _ true dep op (fun _ => by have h := hp.2.1; simp only at h; omega) (fun h => by cases h) s hp.2.2.1 hp.2.2.2
 | n + 1 => by
  have ih := ZJ B A n
  have hI : OrcOk P w0 (withG 58 (gIt n) (withG 32 (gDt n) OL)) := PB B ih ih rfl rfl
  exact Xs (zzr B A) (n + 1) fun ts dep op s hp => Zc B hI rfl rfl rfl rfl rfl ts hp.1 _ false dep op (fun h => by cases h) (fun _ => ⟨by have h := hp.2.1; simp only at h; omega, n, rfl, by have h := hp.2.1; simp only at h; omega, rfl, rfl⟩) s hp.2.2.1 hp.2.2.2
def vd (ts : List Tok) : Nat → List DT → RS → List DT × (Nat × Nat)
 | 0, acc, _ => (acc, (0, 0))
 | k + 1, acc, s => if s.at_ < ts.length then (if (datF 200 ts 0 s).2.err = 0 then vd ts k (acc ++ [(datF 200 ts 0 s).1]) (datF 200 ts 0 s).2 else ([], ((datF 200 ts 0 s).2.err, (datF 200 ts 0 s).2.fp))) else (acc, (0, 0))
def uZ (ts : List Tok) : List DT × (Nat × Nat) := vd ts (ts.length + 1) [] ⟨0, 0, 0⟩
def qJ (b : List Nat) : List DT × (Nat × Nat) := if (lexS b).2.1 = 0 then uZ (lexS b).1 else ([], (lexS b).2)
def u0 (x : List DT × (Nat × Nat)) : AV := .tup [.lst x.1.length false (zm x.1), flt x.2]
theorem Vl (x : List DT × (Nat × Nat)) : zD (u0 x) = true := by simp only [u0, yF, zB, yy, wL, zI, Bool.and_self]
def X6 (acc : List DT) : AV := match acc with
 | [] => .nils
 | t :: r => .gr 1 5 (t :: r).length (zm (t :: r))
theorem zyT {P : Program} {w0 : World} (B : Bx P w0) {O : Orc} (hO : OrcOk P w0 O) (h17 : O 17 = some gLex) (h32 : O 32 = some (gDt 200)) (b : List Nat) (hb : PreS b) (hts : TsOk (lexS b).1) :
  SC P w0 15 [.lst b.length false (zh b)] (H [] 0 true) (u0 (qJ b)) (H [] 0 true) := by
 refine Is.sc hO B.mixed B.glob B.env 0 (show env.funs.get 15 = some f15 from rfl) (Nat.le_of_ble_eq_true rfl) xf fun C k => ?_
 have clex := fun e s => Wc h17 hb e s
 unfold qJ
 revert clex hts
 generalize lexS b = L
 obtain ⟨ts, ⟨e, ep⟩⟩ := L
 intro hts clex
 simp only at hts
 simp only [lexV, flt] at clex
 unfold f15
 simp only [Ko, Kn, Kd, Kf, Ki]
 refine zd (k.eval (by simp (disch := first | exact dis | fail) only [go_sem, seval, -reduceOfNat, -reduceNegSucc]; exact rfl) ?_)
 simp only [za]
 refine zd (k.eval (by simp (disch := first | exact dis | fail) only [go_sem, seval, -reduceOfNat, -reduceNegSucc, clex]; exact rfl) ?_)
 simp only [za]
 by_cases he : e = 0
 ·subst he
  have hx : (if ((ts, (0, ep)) : List Tok × (Nat × Nat)).2.1 = 0 then uZ (ts, (0, ep)).1 else ([], (ts, (0, ep)).2)) = uZ ts := if_pos rfl
  rw [hx]
  refine zd (k.eval (by simp (disch := first | exact dis | fail) only [go_sem, seval, -reduceOfNat, -reduceNegSucc]; exact rfl) ?_)
  simp only [za]
  refine zd (k.eval (by simp (disch := first | exact dis | fail) only [go_sem, seval, -reduceOfNat, -reduceNegSucc]; exact rfl) ?_)
  simp only [za]
  refine zd (k.eval (by simp (disch := first | exact dis | fail) only [go_sem, seval, -reduceOfNat, -reduceNegSucc]; exact rfl) ?_)
  simp only [za]
  refine wI (fun x : List DT × RS => uZ ts = (x.1, (0, 0))) (fun x => ⟨tmL [(7, X6 x.1), (3, .ptr 0 0)], []⟩) (fun x => H ([some frow] ++ zK x.1) 0 true) (zW (yb (k.gcL [0, 2] [7, 6, 4, 3, 2] true (fr1 := ⟨tmL [(7, accD []), (6, .ptr 1 0), (4, .lst ts.length false (yf ts)), (3, .ptr 0 0), (2, .nils)], []⟩) (s1 := H ([some frow, some (rdD ts ⟨0, 0, 0⟩)] ++ zK []) 0 true) (by simp (disch := first | exact dis | fail) only [go_sem, seval, -reduceOfNat, -reduceNegSucc, rdD, rowD, accD, zK, frow]) ?_))) ?_
  ·refine yh (fun x : Nat × List DT × RS => x.1) (fun x => ⟨tmL [(7, accD x.2.1), (6, .ptr 1 0), (4, .lst ts.length false (yf ts)), (3, .ptr 0 0), (2, .nils)], []⟩) (fun x => H ([some frow, some (rdD ts x.2.2)] ++ zK x.2.1) 0 true) (fun x => vd ts x.1 x.2.1 x.2.2 = uZ ts ∧ ts.length < x.1 + x.2.2.at_ ∧ x.2.2.at_ ≤ ts.length ∧ x.2.1.length ≤ x.2.2.at_ ∧ x.2.2.err = 0) (fun x hx => ?_) (ts.length + 1, [], ⟨0, 0, 0⟩) ⟨rfl, by simp only; omega, Nat.zero_le _, Nat.zero_le _, rfl⟩
   obtain ⟨kk, acc, ⟨at_, err, fp0⟩⟩ := x
   obtain ⟨g1, g2, g3, g4, g5⟩ := hx
   simp only at g1 g2 g3 g4 g5 ⊢
   subst g5
   have hlen := hts.1
   cases kk with
   | zero => omega
   | succ kk =>
   rw [vd] at g1
   simp only at g1
   by_cases hlt : at_ < ts.length
   ·rw [if_pos hlt] at g1
    have hcall := fun l nx m => lB h32 (ts := ts) (dep := 0) (op := 0) (s := ⟨at_, 0, fp0⟩) ⟨hts, rfl, rfl, g3⟩ l nx m true 1
    have hf := qD ts 200 0 ⟨at_, 0, fp0⟩ g3
    revert hcall hf g1
    generalize datF 200 ts 0 ⟨at_, 0, fp0⟩ = R
    obtain ⟨⟨ek, en, et, eks, ep⟩, ⟨a1, e1, f1⟩⟩ := R
    intro g1 hcall hf
    obtain ⟨q1, q2, q3, q4, q5⟩ := hf
    simp only at q1 q2 q3 q4 q5 g1
    simp only [rowD, encD, zb] at hcall
    by_cases he1 : e1 = 0
    ·subst he1
     have q4 := q4 rfl
     rw [if_pos rfl] at g1
     cases acc with
     | nil =>
      refine k.eval (by simp (disch := first | exact dis | fail) only [go_sem, seval, -reduceOfNat, -reduceNegSucc, accD, zK, frow, rdD, rowD, hlt, hcall]; exact rfl) ?_
      try simp only [za]
      refine ⟨(kk, [] ++ [⟨ek, en, et, eks, ep⟩], ⟨a1, 0, f1⟩), ⟨g1, by simp only; omega, q2, by simp only [List.length_append, List.length_cons, List.length_nil] at g4 ⊢; omega, rfl⟩, Nat.lt_succ_self _, ?_⟩
      refine k.gcs (keep := [0, 1, 3]) (live := [7, 6, 4, 3, 2]) (md := true) ?_
      simp only [List.cons_append, List.nil_append, accD, zK, zF, zg, zb, List.append_nil, List.length_cons, List.length_nil]
      simp (disch := first | exact dis | fail) only [go_sem, seval, -reduceOfNat, -reduceNegSucc, frow, rdD, rowD]
     | cons a0 ar =>
      have hp1 := zt (a0 :: ar)
      simp only [List.length_cons] at g4
      refine k.eval (by simp (disch := first | exact dis | fail) only [go_sem, seval, -reduceOfNat, -reduceNegSucc, accD, zK, frow, rdD, rowD, hlt, hcall]; exact rfl) ?_
      try simp only [za]
      refine ⟨(kk, (a0 :: ar) ++ [⟨ek, en, et, eks, ep⟩], ⟨a1, 0, f1⟩), ⟨g1, by simp only; omega, q2, by simp only [List.length_append, List.length_cons, List.length_nil] at g4 ⊢; omega, rfl⟩, Nat.lt_succ_self _, ?_⟩
      refine k.gcs (keep := [0, 1, 4]) (live := [7, 6, 4, 3, 2]) (md := true) ?_
      simp only [List.cons_append, List.nil_append, accD, zK, zF, yi, zg, zb, List.append_nil, List.append_assoc, List.length_append, List.length_cons, List.length_nil]
      simp (disch := first | exact dis | fail) only [go_sem, seval, -reduceOfNat, -reduceNegSucc, frow, rdD, rowD, zt, yr]
    ·rw [if_neg he1] at g1
     rw [← g1]
     cases acc with
     | nil =>
      refine k.eval (by simp (disch := first | exact dis | fail) only [go_sem, seval, -reduceOfNat, -reduceNegSucc, accD, zK, frow, rdD, rowD, hlt, hcall, he1]; exact rfl) ?_
      try simp only [za, zj]
      apply ze (Or.inr rfl)
      iterate 5 (simp (disch := first | exact dis | fail) only [go_sem, seval, -reduceOfNat, -reduceNegSucc, u0, flt, zg] <;> exact rfl)
     | cons a0 ar =>
      have hp1 := zt (a0 :: ar)
      refine k.eval (by simp (disch := first | exact dis | fail) only [go_sem, seval, -reduceOfNat, -reduceNegSucc, accD, zK, frow, rdD, rowD, hlt, hcall, he1]; exact rfl) ?_
      try simp only [za, zj]
      apply ze (Or.inr rfl)
      iterate 5 (simp (disch := first | exact dis | fail) only [go_sem, seval, -reduceOfNat, -reduceNegSucc, u0, flt, zg] <;> exact rfl)
   ·rw [if_neg hlt] at g1
    cases acc with
    | nil =>
     refine k.eval (by simp (disch := first | exact dis | fail) only [go_sem, seval, -reduceOfNat, -reduceNegSucc, accD, zK, frow, rdD, rowD, hlt]; exact rfl) ?_
     try simp only [za, zj]
     simp only [Gcx]
     refine ⟨([], ⟨at_, 0, fp0⟩), g1.symm, ?_⟩
     refine k.gcs (keep := [0]) (live := [7, 3]) (md := true) ?_
     simp (disch := first | exact dis | fail) only [go_sem, seval, -reduceOfNat, -reduceNegSucc, X6, zK, frow]
    | cons a0 ar =>
     have hp1 := zt (a0 :: ar)
     refine k.eval (by simp (disch := first | exact dis | fail) only [go_sem, seval, -reduceOfNat, -reduceNegSucc, accD, zK, frow, rdD, rowD, hlt]; exact rfl) ?_
     try simp only [za, zj]
     simp only [Gcx]
     refine ⟨(a0 :: ar, ⟨at_, 0, fp0⟩), g1.symm, ?_⟩
     refine k.gcs (keep := [0, 2]) (live := [7, 3]) (md := true) ?_
     simp (disch := first | exact dis | fail) only [go_sem, seval, -reduceOfNat, -reduceNegSucc, X6, zK, frow, hp1]
  ·intro x hx
   rw [hx]
   obtain ⟨acc, s⟩ := x
   simp only
   cases acc with
   | nil =>
    refine zd (k.eval (by simp (disch := first | exact dis | fail) only [go_sem, seval, -reduceOfNat, -reduceNegSucc, X6, zK, frow]; exact rfl) ?_)
    simp only [za]
    refine k.eval (by simp (disch := first | exact dis | fail) only [go_sem, seval, -reduceOfNat, -reduceNegSucc]; exact rfl) ?_
    try simp only [za, zj, Cut, if_true]
    apply ze (Or.inr rfl)
    iterate 5 (simp (disch := first | exact dis | fail) only [go_sem, seval, -reduceOfNat, -reduceNegSucc, u0, flt, zg] <;> exact rfl)
   | cons a0 ar =>
    have hp1 := zt (a0 :: ar)
    refine zd (k.eval (by simp (disch := first | exact dis | fail) only [go_sem, seval, -reduceOfNat, -reduceNegSucc, X6, zK, frow]; exact rfl) ?_)
    simp only [za]
    refine k.eval (by simp (disch := first | exact dis | fail) only [go_sem, seval, -reduceOfNat, -reduceNegSucc]; exact rfl) ?_
    try simp only [za, zj, Cut, if_true]
    apply ze (Or.inr rfl)
    iterate 5 (simp (disch := first | exact dis | fail) only [go_sem, seval, -reduceOfNat, -reduceNegSucc, u0, flt, z7] <;> exact rfl)
 ·have hx : (if ((ts, (e, ep)) : List Tok × (Nat × Nat)).2.1 = 0 then uZ (ts, (e, ep)).1 else ([], (ts, (e, ep)).2)) = ([], (e, ep)) := if_neg he
  rw [hx]
  refine k.eval (by simp (disch := first | exact dis | fail) only [go_sem, seval, -reduceOfNat, -reduceNegSucc, he]; exact rfl) ?_
  try simp only [za, zj, Cut, if_true]
  apply ze (Or.inr rfl)
  iterate 5 (simp (disch := first | exact dis | fail) only [go_sem, seval, -reduceOfNat, -reduceNegSucc, u0, flt, zg] <;> exact rfl)
set_option maxRecDepth 100000
theorem kT (b : List Nat) (f : Nat) : ∀ (k p : Nat) (out s : List Nat), (wd b f k p out).1 = .inl s → s.length ≤ out.length + 4 * k
 | 0, p, out, s, h => by simp [wd] at h
 | k + 1, p, out, s, h => by
  simp only [wd] at h
  split at h
  ·cases h
  split at h
  ·cases h
  rename_i q hq
  split at h
  ·simp only [Sum.inl.injEq] at h; subst h; omega
  split at h
  ·split at h
   ·cases h
   ·split at h
    ·rename_i c hc
     have := kT b f k _ _ _ h
     have := (qk c).2
     rw [List.length_append] at *; omega
    ·cases h
  ·have := kT b f k _ _ _ h
   have := (qk q.1).2
   rw [List.length_append] at *; omega
def TQ (p : Nat) (t : Tok) : Prop := t.pos = p ∧ (y8 t.d).length < 1000000
theorem P6 (w : List Nat) : (digR w).length ≤ w.length := by
 cases w with
 | nil => exact Nat.le_refl _
 | cons c r =>
  simp only [digR]
  split
  ·simp
  ·exact Nat.le_refl _
theorem HO {w s : List Nat} (h : intR w = some s) : s.length ≤ w.length + 1 := by
 unfold intR at h
 split at h
 ·cases h
 ·simp only [Option.some.injEq] at h
  have h1 := UR (fun x => x == 48) (digR w)
  have h2 := P6 w
  subst h
  unfold intS
  split
  ·simp
  ·split
   ·simp only [List.length_cons]; unfold wc; omega
   ·unfold wc; omega
theorem zyG {w : List Nat} {p : Nat} (h : w.length < 500000) : TQ p (va w p) := by
 unfold va
 split
 ·exact ⟨rfl, by simp [d0, y8]⟩
 ·split
  ·rename_i s hs
   have := HO hs
   exact ⟨rfl, by simp only [y8]; omega⟩
  ·exact ⟨rfl, by simp only [y8]; omega⟩
theorem zyo (b : List Nat) (p : Nat) : TQ p (x5 b p).t := by
 unfold x5
 split
 ·exact ⟨rfl, by simp [d0, y8]⟩
 split
 ·unfold lU
  split <;> exact ⟨rfl, by simp [cTok, y8]⟩
 ·unfold wB
  split
  ·exact ⟨rfl, by simp [bTok, y8]⟩
  split
  ·exact ⟨rfl, by simp [d0, y8]⟩
  split <;> exact ⟨rfl, by simp [bTok, y8]⟩
theorem zvh {b : List Nat} {p c : Nat} {r : List Nat} (hl : b.length < 100000) (hd : b.drop p = c :: r) (hk : (tokB b p c).t.kind ≠ 0) : TQ p (tokB b p c).t := by
 obtain ⟨h1, _⟩ := qw hd
 revert hk
 unfold tokB
 split
 ·intro h; exact absurd rfl h
 split
 ·unfold uK
  split
  ·intro h; exact absurd rfl h
  ·intro h; exact absurd rfl h
 split
 ·intro h; exact absurd rfl h
 split
 ·exact fun _ => ⟨rfl, by simp [d0, y8]⟩
 split
 ·have h2 := kT b p (b.length + 1) (p + 1) []
  intro _
  unfold uP
  split
  ·rename_i s hs
   have := h2 s hs
   exact ⟨rfl, by simp only [y8, List.length_nil] at this ⊢; omega⟩
  ·exact ⟨rfl, by simp [y8]⟩
 split
 ·exact fun _ => zyo b p
 split
 ·have := YV b p (by omega)
  exact fun _ => zyG (by omega)
 ·intro h; exact absurd rfl h
theorem HL {b : List Nat} {p : Nat} (hl : b.length < 100000) (hp : p < b.length) (hk : (tokR b p).t.kind ≠ 0) : TQ p (tokR b p).t := by
 cases hd : b.drop p with
 | nil => have := wb hd (Nat.le_of_lt hp); omega
 | cons c r =>
  have h2 := Y8 b (tokB b p c) (tokL b p c)
  unfold tokR at hk ⊢
  rw [qK hd, h2.2.1] at hk
  rw [qK hd, h2.2.1]
  exact zvh hl hd hk
theorem pN {b : List Nat} (hb : Byt b) (hl : b.length < 100000) (Q : Tok → Prop) (hQ : ∀ p, p < b.length → (tokR b p).f.1 = 0 → (tokR b p).t.kind ≠ 0 → Q (tokR b p).t) : ∀ (k p : Nat) (acc : List Tok), p ≤ b.length → acc.length ≤ p → (∀ t ∈ acc, Q t) → (lexR b k p acc).1.length ≤ b.length ∧ ∀ t ∈ (lexR b k p acc).1, Q t
 | 0, p, acc, h, h1, h2 => ⟨by simp only [lexR]; omega, h2⟩
 | k + 1, p, acc, h, h1, h2 => by
  simp only [lexR]
  split
  ·rename_i hp
   have hle := VU hb hp
   split
   ·rename_i hf
    have hq := hle.2.2 hf
    split
    ·exact pN hb hl Q hQ k _ acc hle.2.1 (by omega) h2
    ·rename_i hk
     refine pN hb hl Q hQ k _ _ hle.2.1 (by simp only [List.length_append, List.length_cons, List.length_nil]; omega) fun t ht => ?_
     rcases List.mem_append.1 ht with ht | ht
     ·exact h2 t ht
     ·rw [List.mem_singleton.1 ht]; exact hQ p hp hf hk
   ·exact ⟨Nat.zero_le _, fun t ht => by cases ht⟩
  ·exact ⟨by simp only; omega, h2⟩
theorem uO {b : List Nat} (hb : Byt b) (hl : b.length < 100000) (Q : Tok → Prop) (hQ : ∀ p, p < b.length → (tokR b p).f.1 = 0 → (tokR b p).t.kind ≠ 0 → Q (tokR b p).t) : (lexS b).1.length ≤ b.length ∧ ∀ t ∈ (lexS b).1, Q t :=
 pN hb hl Q hQ (b.length + 1) 0 [] (Nat.zero_le _) (Nat.zero_le _) (fun t ht => by cases ht)
theorem Uq {b : List Nat} (hb : PreS b) : TsOk (lexS b).1 := by
 have := uO hb.1 hb.2 (fun t => (y8 t.d).length < 1000000) (fun p hp _ hk => (HL hb.2 hp hk).2)
 exact ⟨by have := this.1; have := hb.2; omega, this.2⟩
theorem Xr {b : List Nat} (hb : PreS b) : ∀ t ∈ (lexS b).1, t.pos < b.length :=
 (uO hb.1 hb.2 (fun t => t.pos < b.length) (fun p hp _ hk => by rw [(HL hb.2 hp hk).1]; exact hp)).2
noncomputable def UE : List AV → St → Option (AV × St) := orc0 ue PreS (fun b => u0 (qJ b))
theorem QF {P : Program} {w0 : World} (B : Bx P w0) (A : AtoiOk P w0) {O : Orc} (hO : OrcOk P w0 O) : OrcOk P w0 (withG 15 UE O) :=
 addL hO li (fun _ => Vl _) fun b hb => zyT B (Yu B (ZJ B A 200)) rfl rfl b hb (Uq hb)
theorem J3 {O : Orc} (h : O 15 = some UE) {b : List Nat} (hb : PreS b) (e : Bool) (s : St) : (evW env O).call 15 [.lst b.length e (zh b)] s = some (u0 (qJ b), s) := by
 rw [zJ h, UE, yM Za s b hb (by simp only [ue, wkL, wkV, x3])]
set_option maxRecDepth 100000
def HE (d : DT) : Prop := ∃ k n t p, d = .mk (.ofNat k) n t [] p ∧ 1 ≤ k ∧ k ≤ 5
def TD (t : Tok) : Prop := t.kind = 7 → HE t.d ∧ posD t.d = .ofNat t.pos
theorem zzp (w : List Nat) (p : Nat) : TD (va w p) := by
 unfold va
 split
 ·intro h; cases h
 ·split
  ·exact fun _ => ⟨⟨2, _, _, _, rfl, by decide, by decide⟩, rfl⟩
  ·exact fun _ => ⟨⟨5, _, _, _, rfl, by decide, by decide⟩, rfl⟩
theorem HU (b : List Nat) (p : Nat) : TD (x5 b p).t := by
 unfold x5
 split
 ·intro h; cases h
 split
 ·unfold lU
  split <;> exact fun _ => ⟨⟨3, _, _, _, rfl, by decide, by decide⟩, rfl⟩
 ·unfold wB
  split
  ·exact fun _ => ⟨⟨1, _, _, _, rfl, by decide, by decide⟩, rfl⟩
  split
  ·intro h; cases h
  split <;> exact fun _ => ⟨⟨1, _, _, _, rfl, by decide, by decide⟩, rfl⟩
theorem zz5 (c : Nat) : parK c ≠ 7 := by
 unfold parK
 split
 ·decide
 split <;> decide
theorem zzK (b : List Nat) (p c : Nat) : TD (tokB b p c).t := by
 unfold tokB
 split
 ·intro h; cases h
 split
 ·unfold uK
  split <;> (intro h; cases h)
 split
 ·intro h; cases h
 split
 ·exact fun h => absurd h (zz5 c)
 split
 ·unfold uP
  split <;> exact fun _ => ⟨⟨4, _, _, _, rfl, by decide, by decide⟩, rfl⟩
 split
 ·exact HU b p
 split
 ·exact zzp _ _
 ·intro h; cases h
theorem zzO (b : List Nat) (p : Nat) : TD (tokR b p).t := by
 unfold tokR
 rw [(Y8 b (tokB b p (yo b p)) (tokL b p (yo b p))).2.1]
 exact zzK b p _
mutual
def zC : DT → List DT
 | .mk k n t ks p => if k = .ofNat 6 ∧ ks.length = 2 ∨ k = .ofNat 7 then zA ks else if .ofNat 1 ≤ k ∧ k ≤ .ofNat 5 then [.mk k n t ks p] else []
def zA : List DT → List DT
 | [] => []
 | d :: r => zC d ++ zA r
end
theorem u2 : ∀ a b : List DT, zA (a ++ b) = zA a ++ zA b
 | [], b => by simp only [List.nil_append, zA]
 | d :: a, b => by simp only [List.cons_append, zA, u2 a b, List.append_assoc]
theorem kb {d x y : DT} (h : yx d = some (x, y)) : zC d = zC x ++ zC y := by
 obtain ⟨k, n, t, ks, p⟩ := d
 obtain ⟨rfl, rfl⟩ := xw h
 simp only [zC, zA]
 rw [if_pos (.inl ⟨trivial, rfl⟩), List.append_nil]
def xB : DT → List DT
 | .mk k n t ks p => if k = .ofNat 7 then zA ks else if .ofNat 1 ≤ k ∧ k ≤ .ofNat 5 then [.mk k n t ks p] else []
theorem YT {d : DT} (h : yx d = none) : zC d = xB d := by
 obtain ⟨k, n, t, ks, p⟩ := d
 simp only [zC, xB]
 by_cases h7 : k = .ofNat 7
 ·rw [if_pos (.inr h7), if_pos h7]
 ·have h6 : ¬ (k = .ofNat 6 ∧ ks.length = 2 ∨ k = .ofNat 7) := fun e => e.elim (fun e => vl h e.1 e.2) h7
  rw [if_neg h6, if_neg h7]
theorem vJ : ∀ (k : Nat) (d : DT), zR d < k → zC d = zA (z9 d).1 ++ xB (z9 d).2
 | 0, d, h => by omega
 | k + 1, d, h => by
  cases hk : yx d with
  | none => rw [vw hk, YT hk]; simp only [zA, List.nil_append]
  | some q =>
   obtain ⟨x, y⟩ := q
   have := qZ hk
   have := w6 x
   rw [vv hk, kb hk, vJ k y (by omega)]
   simp only [zA, List.append_assoc]
mutual
theorem ww : ∀ d : DT, (zC d).length ≤ zR d
 | .mk k n t ks p => by
  have := qh ks
  simp only [zC, zR]
  split
  ·omega
  split
  ·simp only [List.length_cons, List.length_nil]; omega
  ·simp
theorem qh : ∀ l : List DT, (zA l).length ≤ zO l
 | [] => Nat.le_refl _
 | d :: r => by
  have := ww d
  have := qh r
  simp only [zA, zO, List.length_append]; omega
end
theorem jv : ∀ a b : List DT, zO (a ++ b) = zO a + zO b
 | [], b => by simp only [List.nil_append, zO]; omega
 | d :: a, b => by simp only [List.cons_append, zO, jv a b]; omega
theorem hU {d : DT} (h : HE d) : zC d = [d] := by
 obtain ⟨k, n, t, p, rfl, h1, h2⟩ := h
 simp only [zC]
 rw [if_neg, if_pos]
 ·exact ⟨Int.ofNat_le.2 h1, Int.ofNat_le.2 h2⟩
 ·rintro (⟨_, h⟩ | h)
  ·simp at h
  ·cases h; omega
theorem Q9 {d : DT} (h : HE d) : zR d = 1 := by
 obtain ⟨k, n, t, p, rfl, h1, h2⟩ := h
 rfl
theorem Z5 (e : DT) : xg [] e = e := rfl
theorem jK (x : DT) (l : List DT) (e : DT) : xg (x :: l) e = ll x (xg l e) := rfl
theorem vB (e : DT) : ∀ l : List DT, zC (xg l e) = zA l ++ zC e
 | [] => by simp only [Z5, zA, List.nil_append]
 | x :: l => by
  rw [jK, kb (x := x) (y := xg l e) (by simp only [ll, yx, if_true]), vB e l]
  simp only [zA, List.append_assoc]
theorem vb (e : DT) : ∀ l : List DT, zR (xg l e) = zO l + l.length + zR e
 | [] => by simp only [Z5, zO, List.length_nil]; omega
 | x :: l => by
  rw [jK, ll]
  simp only [zR, zO, List.length_cons]
  rw [vb e l]; omega
theorem Yp (d : DT) (p : Int) : zR (atD d p) = zR d := by cases d; rfl
theorem jQ (p : Int) : zC (qP p) = [] := rfl
theorem pl {l : List DT} (e : DT) (p : Int) (h : l ≠ [] ∨ zC e = [] ∧ jB e = .ofNat 0) : zC (atD (xg l e) p) = zA l ++ zC e := by
 cases l with
 | nil =>
  rcases h with h | ⟨h, h2⟩
  ·exact absurd rfl h
  ·obtain ⟨k, n, t, ks, q⟩ := e
   simp only [jB] at h2
   subst h2
   rw [h]
   rfl
 | cons x l =>
  rw [← vB, jK, ll]
  simp only [atD, zC]
  rw [if_pos (.inl ⟨trivial, rfl⟩), if_pos (.inl ⟨trivial, rfl⟩)]
def uC (t : Tok) : List DT := if t.kind = 7 then [t.d] else if t.kind = 3 then [xz t.pos] else []
def stM (m : Nat) (t : Tok) : Nat := if t.kind = 5 then m + 1 else if t.kind = 2 then 0 else m
def tkvL : Nat → List Tok → List DT
 | _, [] => []
 | m, t :: r => (if stM m t = 0 then uC t else []) ++ tkvL (stM m t) r
theorem je {t : Tok} {r : List Tok} (h : t.kind ≠ 7) (h3 : t.kind ≠ 3) (h5 : t.kind ≠ 5) : tkvL 0 (t :: r) = tkvL 0 r := by
 have e : stM 0 t = 0 := by unfold stM; rw [if_neg h5]; split <;> rfl
 rw [tkvL, e, uC, if_neg h, if_neg h3]; rfl
def LvR (ts : List Tok) (rec : Rec) : Prop := ∀ op s, s.at_ ≤ ts.length → (rec op s).2.err = 0 → tkvL 0 (ts.drop s.at_) = zC (rec op s).1 ++ tkvL 0 (ts.drop (rec op s).2.at_) ∧ zR (rec op s).1 + 5 * s.at_ + 1 ≤ 5 * (rec op s).2.at_
theorem jq {α : Type} {l : List α} {i : Nat} {x : α} {r : List α} (h : l.drop i = x :: r) : l.drop (i + 1) = r := by
 rw [← List.drop_drop, h]; rfl
theorem qL {ts : List Tok} {dt : Rec} (hd : kr ts dt) (hl : LvR ts dt) (op : Nat) (dots : Bool) : ∀ (k : Nat) (acc : List DT) (s : RS), s.at_ ≤ ts.length → (ts.length + 1 < k + s.at_ ∨ s.err ≠ 0 ∧ 1 ≤ k) → (zV dt ts op dots k acc s).2.2.err = 0 →
  ∃ l, (zV dt ts op dots k acc s).1 = acc ++ l ∧ tkvL 0 (ts.drop s.at_) = zA l ++ tkvL 0 (ts.drop (zV dt ts op dots k acc s).2.2.at_) ∧ zO l + l.length + 5 * s.at_ + 5 ≤ 5 * (zV dt ts op dots k acc s).2.2.at_ ∧
   ((zV dt ts op dots k acc s).2.1.kind = 2 ∨ (zV dt ts op dots k acc s).2.1.kind = 6 ∧ acc ++ l ≠ [])
 | 0, acc, s, h, hf, he => by omega
 | k + 1, acc, s, h, hf, he => by
  have h1 := hd op s h
  simp only [zV] at he ⊢
  by_cases he0 : s.err ≠ 0
  ·rw [if_pos he0] at he; exact absurd he he0
  rw [if_neg he0] at he ⊢
  have he0 : s.err = 0 := by omega
  cases hdr : ts.drop s.at_ with
  | nil =>
   rw [hdr] at he
   simp only at he ⊢
   have h4 := vK hdr
   exfalso
   have h5 : (dt op s).2.err ≠ 0 := fun e => by have := h1.2.2.2.1 e; have := h1.2.1; omega
   have := (xv hd op dots k (acc ++ [(dt op s).1]) (dt op s).2 h1.2.1).2.2 h5
   omega
  | cons t r =>
   rw [hdr] at he
   simp only at he ⊢
   have hlt := xX hdr
   split at he
   ·rename_i hc
    rw [if_pos hc]
    have hk : tkvL 0 (t :: r) = tkvL 0 (ts.drop s.nx.at_) := by
     rw [show ts.drop s.nx.at_ = r from jq hdr]
     exact je (by omega) (by omega) (by omega)
    refine ⟨[], by simp, by rw [hk]; rfl, ?_, ?_⟩
    ·simp only [zO, List.length_nil, RS.nx]; omega
    ·rcases hc with hc | ⟨h6, hn, _⟩
     ·exact .inl hc
     ·exact .inr ⟨h6, by simpa using hn⟩
   ·rename_i hc
    rw [if_neg hc]
    have h5 : (dt op s).2.err = 0 := by
     by_cases e : (dt op s).2.err = 0
     ·exact e
     ·have := (xv hd op dots k (acc ++ [(dt op s).1]) (dt op s).2 h1.2.1).2.2 e
      omega
    obtain ⟨l, g1, g2, g3, g4⟩ := qL hd hl op dots k (acc ++ [(dt op s).1]) (dt op s).2 h1.2.1 (.inl (by have := h1.2.2.2.1 h5; omega)) he
    obtain ⟨q1, q2⟩ := hl op s h h5
    refine ⟨(dt op s).1 :: l, by rw [g1]; simp, ?_, ?_, ?_⟩
    ·rw [← hdr, q1, g2]; simp only [zA, List.append_assoc]
    ·simp only [zO, List.length_cons]; omega
    ·rcases g4 with g4 | ⟨g4, _⟩
     ·exact .inl g4
     ·exact .inr ⟨g4, by simp⟩
theorem Vj {t : Tok} {r : List Tok} (m : Nat) (h : t.kind = 7) : tkvL (m + 1) (t :: r) = tkvL (m + 1) r := by
 have e : stM (m + 1) t = m + 1 := by unfold stM; rw [h]; rfl
 rw [tkvL, e]; rfl
theorem js {ts : List Tok} (op : Nat) : ∀ (k : Nat) (out : List Nat) (s : RS), ts.length < k + s.at_ → s.at_ ≤ ts.length → s.err = 0 → (ws ts op k out s).2.err = 0 →
  tkvL 1 (ts.drop s.at_) = tkvL 0 (ts.drop (ws ts op k out s).2.at_) ∧ s.at_ < (ws ts op k out s).2.at_ ∧ zC (ws ts op k out s).1 = [] ∧ zR (ws ts op k out s).1 = 1
 | 0, _, s, h, h', _, _ => by omega
 | k + 1, out, s, h, h', h0, he => by
  simp only [ws] at he ⊢
  cases hdr : ts.drop s.at_ with
  | nil =>
   rw [hdr] at he
   exact absurd he (vu s op (by decide))
  | cons t r =>
   rw [hdr] at he
   simp only at he ⊢
   have hlt := xX hdr
   have hr : ts.drop (s.at_ + 1) = r := jq hdr
   by_cases h2 : t.kind = 2
   ·rw [if_pos h2]
    have e : stM 1 t = 0 := by unfold stM; rw [h2]; rfl
    have e2 : uC t = [] := by unfold uC; rw [h2]; rfl
    refine ⟨by rw [tkvL, e, e2]; simp only [RS.nx, hr]; rfl, Nat.lt_succ_self _, rfl, rfl⟩
   ·rw [if_neg h2] at he ⊢
    by_cases hc : t.kind = 7 ∧ pM t.d
    ·rw [if_pos hc] at he ⊢
     obtain ⟨g1, g2, g3, g4⟩ := js op k (out ++ [(xx (y8 t.d)).1.toNat]) s.nx (by simp only [RS.nx]; omega) hlt h0 he
     refine ⟨by rw [Vj 0 hc.1, ← hr]; exact g1, ?_, g3, g4⟩
     have e : s.nx.at_ = s.at_ + 1 := rfl
     rw [e] at g2
     exact Nat.lt_of_succ_lt g2
    ·rw [if_neg hc] at he
     exact absurd he (vu s t.pos (by decide))
theorem YH {ts : List Tok} (op : Nat) (l : List DT) (e : DT) (s : RS) (h : s.at_ ≤ ts.length) (he : (wR ts op l e s).2.err = 0) (hl : l ≠ []) :
  tkvL 0 (ts.drop s.at_) = tkvL 0 (ts.drop (wR ts op l e s).2.at_) ∧ zC (wR ts op l e s).1 = zA l ++ zC e ∧ zR (wR ts op l e s).1 = zO l + l.length + zR e ∧ (wR ts op l e s).2.at_ = s.at_ + 1 ∧ s.err = 0 := by
 unfold wR at he ⊢
 cases hdr : ts.drop s.at_ with
 | nil => rw [hdr] at he; exact absurd he (vu s op (by decide))
 | cons t r =>
  rw [hdr] at he
  simp only at he ⊢
  by_cases h2 : t.kind = 2
  ·rw [if_pos h2] at he ⊢
   refine ⟨?_, pl e _ (.inl hl), by rw [Yp, vb], rfl, he⟩
   simp only [RS.nx]
   rw [jq hdr]
   exact je (by omega) (by omega) (by omega)
  ·rw [if_neg h2] at he; exact absurd he (vu s t.pos (by decide))
theorem Zp {ts : List Tok} {rec : Rec} {full : Bool} (hk : ∀ t ∈ ts, t.kind ≤ 7 ∧ TD t) (hd : full = false → kr ts rec ∧ LvR ts rec) {t : Tok} {r : List Tok} (s : RS) (hdr : ts.drop s.at_ = t :: r) (ht : t.kind ≠ 0) (he : (yX rec full ts t s.nx).2.err = 0) (h0 : s.err = 0) :
  tkvL 0 (t :: r) = zC (yX rec full ts t s.nx).1 ++ tkvL 0 (ts.drop (yX rec full ts t s.nx).2.at_) ∧ zR (yX rec full ts t s.nx).1 + 5 * s.at_ + 1 ≤ 5 * (yX rec full ts t s.nx).2.at_ := by
 have hlt := xX hdr
 have hr : ts.drop s.nx.at_ = r := jq hdr
 have hn : s.nx.at_ = s.at_ + 1 := rfl
 have hmem : t ∈ ts := List.mem_of_mem_drop (by rw [hdr]; exact List.mem_cons_self)
 obtain ⟨hk7, htd⟩ := hk t hmem
 unfold yX at he ⊢
 by_cases h7 : t.kind = 7
 ·rw [if_pos h7]
  obtain ⟨hlf, _⟩ := htd h7
  have e : stM 0 t = 0 := by unfold stM; rw [h7]; rfl
  simp only [hU hlf, Q9 hlf]
  refine ⟨by rw [tkvL, e, hr]; unfold uC; rw [if_pos h7]; rfl, by omega⟩
 rw [if_neg h7] at he ⊢
 by_cases h26 : t.kind = 2 ∨ t.kind = 6
 ·rw [if_pos h26] at he; exact absurd he (vu s.nx t.pos (by decide))
 rw [if_neg h26] at he ⊢
 by_cases hf : full = true
 ·rw [if_pos hf] at he; exact absurd he (vu s.nx t.pos (by decide))
 rw [if_neg hf] at he ⊢
 obtain ⟨hfin, hlv⟩ := hd (by simpa using hf)
 by_cases h3 : t.kind = 3
 ·rw [if_pos h3] at he ⊢
  simp only [quoF] at he ⊢
  obtain ⟨q1, q2⟩ := hlv t.pos s.nx hlt he
  rw [hr] at q1
  have e : stM 0 t = 0 := by unfold stM; rw [h3]; rfl
  refine ⟨?_, ?_⟩
  ·rw [vB, tkvL, e, q1, jQ]
   have e2 : uC t = [xz t.pos] := by unfold uC; rw [h3]; rfl
   have e3 : zC (xz t.pos) = [xz t.pos] := hU ⟨5, _, _, _, rfl, by decide, by decide⟩
   rw [e2]
   simp only [zA, e3, List.append_nil, if_true, List.append_assoc]
  ·rw [vb]
   have e3 : zR (xz t.pos) = 1 := rfl
   have e4 : zR (qP (posD (rec t.pos s.nx).1)) = 1 := rfl
   simp only [zO, e3, e4, List.length_cons, List.length_nil]; omega
 rw [if_neg h3] at he ⊢
 have hfu : ts.length + 1 < (ts.length + 3) + s.nx.at_ := by omega
 by_cases h1 : t.kind = 1
 ·rw [if_pos h1] at he ⊢
  have hit := xv hfin t.pos true (ts.length + 3) [] s.nx hlt
  have hlv2 := qL hfin hlv t.pos true (ts.length + 3) [] s.nx hlt (.inl hfu)
  have e0 : tkvL 0 (t :: r) = tkvL 0 r := je h7 h3 (by omega)
  rw [e0]
  unfold pG itF at he ⊢
  by_cases h6 : (zV rec ts t.pos true (ts.length + 3) [] s.nx).2.1.kind = 6
  ·rw [if_pos h6] at he ⊢
   have hft := hfin t.pos (zV rec ts t.pos true (ts.length + 3) [] s.nx).2.2 hit.2.1
   have hlv3 := hlv t.pos (zV rec ts t.pos true (ts.length + 3) [] s.nx).2.2 hit.2.1
   have hla := YH t.pos (zV rec ts t.pos true (ts.length + 3) [] s.nx).1 (rec t.pos (zV rec ts t.pos true (ts.length + 3) [] s.nx).2.2).1 (rec t.pos (zV rec ts t.pos true (ts.length + 3) [] s.nx).2.2).2 hft.2.1 he
   have herr : (rec t.pos (zV rec ts t.pos true (ts.length + 3) [] s.nx).2.2).2.err = 0 := by
    have hx := ZX t.pos (zV rec ts t.pos true (ts.length + 3) [] s.nx).1 (rec t.pos (zV rec ts t.pos true (ts.length + 3) [] s.nx).2.2).1 (rec t.pos (zV rec ts t.pos true (ts.length + 3) [] s.nx).2.2).2 hft.2.1
    by_cases e : (rec t.pos (zV rec ts t.pos true (ts.length + 3) [] s.nx).2.2).2.err = 0
    ·exact e
    ·have := hx.2.2 e; omega
   have herr2 : (zV rec ts t.pos true (ts.length + 3) [] s.nx).2.2.err = 0 := by
    by_cases e : (zV rec ts t.pos true (ts.length + 3) [] s.nx).2.2.err = 0
    ·exact e
    ·have := hft.2.2.1 e; omega
   obtain ⟨l, g1, g2, g3, g4⟩ := hlv2 herr2
   obtain ⟨q1, q2⟩ := hlv3 herr
   have hne : (zV rec ts t.pos true (ts.length + 3) [] s.nx).1 ≠ [] := by
    rcases g4 with g4 | ⟨_, g4⟩
    ·omega
    ·rw [g1]; exact g4
   obtain ⟨p1, p2, p3, p4, _⟩ := hla hne
   rw [List.nil_append] at g1
   rw [hr] at g2
   refine ⟨?_, ?_⟩
   ·rw [g2, q1, p1, p2, g1, List.append_assoc]
   ·rw [p3, p4, g1]; omega
  ·rw [if_neg h6] at he ⊢
   simp only at he ⊢
   obtain ⟨l, g1, g2, g3, g4⟩ := hlv2 he
   rw [List.nil_append] at g1
   rw [hr] at g2
   rw [g1]
   refine ⟨?_, ?_⟩
   ·rw [pl _ _ (.inr ⟨jQ _, rfl⟩), jQ, List.append_nil, g2]
   ·rw [Yp, vb]
    have e4 : ∀ p, zR (qP p) = 1 := fun _ => rfl
    rw [e4]; omega
 rw [if_neg h1] at he ⊢
 by_cases h4 : t.kind = 4
 ·rw [if_pos h4] at he ⊢
  have hlv2 := qL hfin hlv t.pos false (ts.length + 3) [] s.nx hlt (.inl hfu)
  have e0 : tkvL 0 (t :: r) = tkvL 0 r := je h7 h3 (by omega)
  rw [e0]
  unfold vecF itF at he ⊢
  simp only at he ⊢
  obtain ⟨l, g1, g2, g3, g4⟩ := hlv2 he
  rw [List.nil_append] at g1
  rw [hr] at g2
  rw [g1]
  refine ⟨?_, ?_⟩
  ·simp only [zC]; rw [if_pos (.inr trivial), g2]
  ·simp only [zR]; omega
 rw [if_neg h4] at he ⊢
 have h5 : t.kind = 5 := by omega
 unfold byF at he ⊢
 obtain ⟨g1, g2, g3, g4⟩ := js t.pos (ts.length + 1) [] s.nx (by omega) hlt h0 he
 rw [hr] at g1
 have e : stM 0 t = 1 := by unfold stM; rw [h5]; rfl
 refine ⟨?_, by omega⟩
 rw [tkvL, e, g1, g3]; rfl
theorem hZ {ts : List Tok} {rec : Rec} {full : Bool} (hk : ∀ t ∈ ts, t.kind ≤ 7 ∧ TD t) (hz : ∀ t ∈ ts, t.kind ≠ 0) (hd : full = false → kr ts rec ∧ LvR ts rec) : LvR ts (datG rec full ts) := fun op s h he => by
 have hs : s.err = 0 := by
  by_cases e : s.err = 0
  ·exact e
  ·have := (kS (rec := rec) (full := full) (fun e => (hd e).1) op s h).2.2.1 e
   omega
 unfold datG at he ⊢
 cases hdr : ts.drop s.at_ with
 | nil => rw [hdr] at he; exact absurd he (vu s op (by decide))
 | cons t r =>
  rw [hdr] at he
  simp only at he ⊢
  exact Zp hk hd s hdr (hz t (List.mem_of_mem_drop (by rw [hdr]; exact List.mem_cons_self))) he hs
theorem gP {ts : List Tok} (hk : ∀ t ∈ ts, t.kind ≤ 7 ∧ TD t) (hz : ∀ t ∈ ts, t.kind ≠ 0) : ∀ n, LvR ts (datF n ts)
 | 0 => hZ hk hz (fun e => by cases e)
 | n + 1 => hZ hk hz (fun _ => ⟨qD ts n, gP hk hz n⟩)
theorem kq {ts : List Tok} (hk : ∀ t ∈ ts, t.kind ≤ 7 ∧ TD t) (hz : ∀ t ∈ ts, t.kind ≠ 0) : ∀ (k : Nat) (acc : List DT) (s : RS), s.at_ ≤ ts.length → ts.length < k + s.at_ → (vd ts k acc s).2.1 = 0 →
  zA (vd ts k acc s).1 = zA acc ++ tkvL 0 (ts.drop s.at_) ∧ zO (vd ts k acc s).1 ≤ zO acc + 5 * (ts.length - s.at_)
 | 0, acc, s, h, hf, _ => by omega
 | k + 1, acc, s, h, hf, he => by
  simp only [vd] at he ⊢
  by_cases hlt : s.at_ < ts.length
  ·rw [if_pos hlt] at he ⊢
   by_cases h0 : (datF 200 ts 0 s).2.err = 0
   ·rw [if_pos h0] at he ⊢
    have h1 := qD ts 200 0 s h
    have h3 := h1.2.2.2.1 h0
    obtain ⟨q1, q2⟩ := gP hk hz 200 0 s h h0
    obtain ⟨g1, g2⟩ := kq hk hz k (acc ++ [(datF 200 ts 0 s).1]) (datF 200 ts 0 s).2 h1.2.1 (by omega) he
    refine ⟨?_, ?_⟩
    ·rw [g1, q1, u2]; simp only [zA, List.append_nil, List.append_assoc]
    ·have e : zO (acc ++ [(datF 200 ts 0 s).1]) = zO acc + zR (datF 200 ts 0 s).1 := by
      rw [jv]; simp only [zO]; omega
     have := h1.2.1
     omega
   ·rw [if_neg h0] at he; exact absurd he h0
  ·rw [if_neg hlt]
   have e : ts.drop s.at_ = [] := List.drop_eq_nil_of_le (by omega)
   rw [e]
   exact ⟨by simp [tkvL], by simp⟩
theorem zxW (w : List Nat) (p : Nat) : (va w p).kind ≤ 7 := by
 unfold va
 split
 ·exact Nat.le_of_ble_eq_true rfl
 ·split <;> exact Nat.le_of_ble_eq_true rfl
theorem zyE (b : List Nat) (p : Nat) : (x5 b p).t.kind ≤ 7 := by
 unfold x5
 split
 ·exact Nat.le_of_ble_eq_true rfl
 split
 ·unfold lU
  split <;> exact Nat.le_of_ble_eq_true rfl
 ·unfold wB
  split
  ·exact Nat.le_of_ble_eq_true rfl
  split
  ·exact Nat.le_of_ble_eq_true rfl
  split <;> exact Nat.le_of_ble_eq_true rfl
theorem zxi (c : Nat) : parK c ≤ 7 := by
 unfold parK
 split
 ·decide
 split <;> decide
theorem zw5 (b : List Nat) (p c : Nat) : (tokB b p c).t.kind ≤ 7 := by
 unfold tokB
 split
 ·exact Nat.le_of_ble_eq_true rfl
 split
 ·unfold uK
  split <;> exact Nat.le_of_ble_eq_true rfl
 split
 ·exact Nat.le_of_ble_eq_true rfl
 split
 ·exact zxi c
 split
 ·unfold uP
  split <;> exact Nat.le_of_ble_eq_true rfl
 split
 ·exact zyE b p
 split
 ·exact zxW _ _
 ·exact Nat.le_of_ble_eq_true rfl
theorem zwN (b : List Nat) (p : Nat) : (tokR b p).t.kind ≤ 7 := by
 unfold tokR
 rw [(Y8 b (tokB b p (yo b p)) (tokL b p (yo b p))).2.1]
 exact zw5 b p _
theorem Pi {b : List Nat} (hb : PreS b) : ∀ t ∈ (lexS b).1, t.kind ≤ 7 ∧ TD t :=
 (uO hb.1 hb.2 (fun t => t.kind ≤ 7 ∧ TD t) (fun p _ _ _ => ⟨zwN b p, zzO b p⟩)).2
theorem zzE {b : List Nat} (hb : PreS b) : ∀ t ∈ (lexS b).1, t.kind ≠ 0 :=
 (uO hb.1 hb.2 (fun t => t.kind ≠ 0) (fun _ _ _ hk => hk)).2
def ErrOk (L : Nat) (s : RS) : Prop := s.err ≠ 0 → (s.err = 5 ∨ s.err = 7) ∧ s.fp < L
theorem ErrOk.fell {L : Nat} {s : RS} (h : ErrOk L s) {e p : Nat} (he : e = 5 ∨ e = 7) (hp : p < L) : ErrOk L (s.fell e p) := by
 unfold RS.fell
 split
 ·exact fun _ => ⟨he, hp⟩
 ·exact h
theorem ErrOk.nx {L : Nat} {s : RS} (h : ErrOk L s) : ErrOk L s.nx := h
def ErrR (L : Nat) (rec : Rec) : Prop := ∀ op s, op < L → ErrOk L s → ErrOk L (rec op s).2
theorem ve {ts : List Tok} {dt : Rec} {L : Nat} (hd : ErrR L dt) {op : Nat} (ho : op < L) (dots : Bool) : ∀ (k : Nat) (acc : List DT) (s : RS), ErrOk L s → ErrOk L (zV dt ts op dots k acc s).2.2
 | 0, _, _, h => h
 | k + 1, acc, s, h => by
  have h1 := hd op s ho h
  simp only [zV]
  split
  ·exact h
  split
  ·exact ve hd ho dots k _ _ h1
  ·split
   ·exact h.nx
   ·exact ve hd ho dots k _ _ h1
theorem pX {ts : List Tok} {L : Nat} (hp : ∀ t ∈ ts, t.pos < L) {op : Nat} (ho : op < L) : ∀ (k : Nat) (out : List Nat) (s : RS), ErrOk L s → ErrOk L (ws ts op k out s).2
 | 0, _, _, h => h
 | k + 1, out, s, h => by
  simp only [ws]
  split
  ·exact h.fell (.inr rfl) ho
  ·rename_i t r hdr
   have hm := hp t (List.mem_of_mem_drop (by rw [hdr]; exact List.mem_cons_self))
   split
   ·exact h.nx
   split
   ·exact pX hp ho k _ _ h.nx
   ·exact h.fell (.inr rfl) hm
theorem Js {ts : List Tok} {L : Nat} (hp : ∀ t ∈ ts, t.pos < L) {op : Nat} (ho : op < L) (l : List DT) (e : DT) (s : RS) (h : ErrOk L s) : ErrOk L (wR ts op l e s).2 := by
 unfold wR
 split
 ·exact h.fell (.inr rfl) ho
 ·rename_i t r hdr
  have hm := hp t (List.mem_of_mem_drop (by rw [hdr]; exact List.mem_cons_self))
  split
  ·exact h.nx
  ·exact h.fell (.inr rfl) hm
theorem Q8 {ts : List Tok} {rec : Rec} {full : Bool} {L : Nat} (hp : ∀ t ∈ ts, t.pos < L) (hd : full = false → ErrR L rec) (t : Tok) (ht : t.pos < L) (s : RS) (h : ErrOk L s) : ErrOk L (yX rec full ts t s).2 := by
 unfold yX
 split
 ·exact h
 split
 ·exact h.fell (.inr rfl) ht
 split
 ·exact h.fell (.inl rfl) ht
 rename_i hf
 have hd := hd (by simpa using hf)
 split
 ·exact hd t.pos s ht h
 split
 ·have h1 := ve (ts := ts) hd ht true (ts.length + 3) [] s h
  unfold pG
  split
  ·exact Js hp ht _ _ _ (hd t.pos _ ht h1)
  ·exact h1
 split
 ·exact ve (ts := ts) hd ht false (ts.length + 3) [] s h
 ·exact pX hp ht _ [] s h
theorem X0 {ts : List Tok} {rec : Rec} {full : Bool} {L : Nat} (hp : ∀ t ∈ ts, t.pos < L) (hd : full = false → ErrR L rec) : ErrR L (datG rec full ts) := fun op s ho h => by
 unfold datG
 split
 ·exact h.fell (.inr rfl) ho
 ·rename_i t r hdr
  exact Q8 hp hd t (hp t (List.mem_of_mem_drop (by rw [hdr]; exact List.mem_cons_self))) s.nx h.nx
theorem Xp {ts : List Tok} {L : Nat} (hp : ∀ t ∈ ts, t.pos < L) : ∀ n, ErrR L (datF n ts)
 | 0 => X0 hp (fun e => by cases e)
 | n + 1 => X0 hp (fun _ => Xp hp n)
theorem Zz {ts : List Tok} {L : Nat} (hp : ∀ t ∈ ts, t.pos < L) : ∀ (k : Nat) (acc : List DT) (s : RS), ErrOk L s → (vd ts k acc s).2.1 ≠ 0 → ((vd ts k acc s).2.1 = 5 ∨ (vd ts k acc s).2.1 = 7) ∧ (vd ts k acc s).2.2 < L
 | 0, acc, s, _, he => by simp [vd] at he
 | k + 1, acc, s, h, he => by
  simp only [vd] at he ⊢
  by_cases hlt : s.at_ < ts.length
  ·rw [if_pos hlt] at he ⊢
   have h0 : 0 < L := Nat.lt_of_le_of_lt (Nat.zero_le _) (hp _ (List.getElem_mem hlt))
   have h1 := Xp hp 200 0 s h0 h
   by_cases e : (datF 200 ts 0 s).2.err = 0
   ·rw [if_pos e] at he ⊢
    exact Zz hp k _ _ h1 he
   ·rw [if_neg e] at he ⊢
    exact h1 e
  ·rw [if_neg hlt] at he; simp at he
theorem G4 {b : List Nat} (hb : PreS b) (hl : (lexS b).2.1 = 0) (he : (qJ b).2.1 ≠ 0) : ((qJ b).2.1 = 5 ∨ (qJ b).2.1 = 7) ∧ (qJ b).2.2 < b.length := by
 unfold qJ at he ⊢
 rw [if_pos hl] at he ⊢
 exact Zz (Xr hb) _ [] ⟨0, 0, 0⟩ (fun e => absurd rfl e) he
theorem XL {b : List Nat} (hb : PreS b) (hl : (lexS b).2.1 = 0) (he : (qJ b).2.1 = 0) : zA (qJ b).1 = tkvL 0 (lexS b).1 ∧ zO (qJ b).1 ≤ 5 * b.length := by
 unfold qJ at he ⊢
 rw [if_pos hl] at he ⊢
 obtain ⟨g1, g2⟩ := kq (Pi hb) (zzE hb) ((lexS b).1.length + 1) [] ⟨0, 0, 0⟩ (Nat.zero_le _) (by simp only; omega) he
 have h3 : (lexS b).1.length ≤ b.length := (uO hb.1 hb.2 (fun _ => True) (fun _ _ _ _ => trivial)).1
 refine ⟨by unfold uZ; rw [g1]; simp [zA], ?_⟩
 unfold uZ
 simp only [zO] at g2
 omega
set_option maxRecDepth 100000
def gG (d : DT) : List AV := [encD d]
def zvV (N : Nat) (d : DT) (k : Nat) (cs : List AV) : Prop := zR d < N ∧ k + zR d < 100000 ∧ zu cs = true
def lvF (d : DT) : Nat × List AV := ((zC d).length, zm (zC d))
noncomputable def gLv (N : Nat) : List AV → St → Option (AV × St) := orcG 24 5 gG (zvV N) lvF
theorem YD : ∀ x y, gG x = gG y → x = y := fun d e h => by
 simp only [gG, List.cons.injEq, and_true] at h
 exact uG h
theorem WA (d : DT) : gG d = wkL [.agg (zT d)] := by simp only [gG, encD, wkL, wkV, wY]
theorem pq {O : Orc} {N : Nat} (h : O 18 = some (gLv N)) {d : DT} (h1 : zR d < N) (h2 : zR d < 100000) (l : List (Nat × Option AObj)) (n m : Nat) (md : Bool) :
  (evW env O).call 18 [.agg (zT d), .nils] (KL l n m md [] none) = some (gV n 5 (zC d).length (zm (zC d)), if (zC d).length = 0 then KL l n m md [] none else KL ((n, some (.app 24 (zm (zC d)))) :: l) (n + 1) m md [] none) :=
 zvm h YD d ⟨h1, by omega, rfl⟩ rfl l n m md [.agg (zT d)] (WA d)
theorem kh {O : Orc} {N : Nat} (h : O 18 = some (gLv N)) {d : DT} {q : Nat} {old : List AV} (h1 : zR d < N) (h2 : q + 1 + zR d < 100000) (hp : zu old = true) (l : List (Nat × Option AObj)) (n m : Nat) (md : Bool) (id : Nat) (hi : id < n) (hb : getA l id = some (.app 24 old)) :
  (evW env O).call 18 [.agg (zT d), .gr id 5 (q + 1) old] (KL l n m md [] none) = some (.gr n 5 (q + 1 + (zC d).length) (old ++ zm (zC d)), KL ((n, some (.app 24 (old ++ zm (zC d)))) :: (id, none) :: l) (n + 1) (mark m id) md [] none) :=
 zvp h YD d ⟨h1, h2, hp⟩ rfl l n m md id hi hb [.agg (zT d)] (WA d)
def lvV (i : Nat) (acc : List DT) : AV := gV i 5 acc.length (zm acc)
def lvO (acc : List DT) : List (Option AObj) := gOs 24 acc.length (zm acc)
theorem gV_z (i e : Nat) (cs : List AV) : gV i e 0 cs = .nils := rfl
theorem gV_s (i e k : Nat) (cs : List AV) : gV i e (k + 1) cs = .gr i e (k + 1) cs := rfl
theorem gO_z (t : Nat) (cs : List AV) : gOs t 0 cs = [] := rfl
theorem gO_s (t k : Nat) (cs : List AV) : gOs t (k + 1) cs = [some (.app t cs)] := rfl
theorem QY {P : Program} {w0 : World} (B : Bx P w0) {O : Orc} (hO : OrcOk P w0 O) {N : Nat} (h18 : O 18 = some (gLv N)) (h19 : O 19 = some gItm) (d0 : DT) (hN : zR d0 < N + 1) (hb : zR d0 < 100000) :
  SC P w0 18 [encD d0, .nils] (H [] 0 true) (gV 0 5 (zC d0).length (zm (zC d0))) (H (gOs 24 (zC d0).length (zm (zC d0))) 0 true) := by
 refine Is.scG hO B.mixed B.glob B.env 0 (show env.funs.get 18 = some f18 from rfl) (Nat.le_of_ble_eq_true rfl) (Nat.le_of_ble_eq_true rfl) xf fun C k => ?_
 rw [vJ _ d0 (Nat.lt_succ_self _)]
 have hni := gI d0
 have hla := wo (z9 d0).1
 have hca := WX (f := 19) h19 (d := d0) (by omega)
 simp only [itR] at hca
 revert hni hla hca
 generalize (z9 d0).1 = l
 generalize (z9 d0).2 = e
 intro hni hla hca
 have hke := qm e
 have hle := wo (wa e)
 obtain ⟨ek, en, et, eks, ep⟩ := e
 obtain ⟨ak, an, at_, aks, ap⟩ := d0
 simp only [encD, zb] at hca
 simp only [wa] at hke hle
 unfold f18
 simp only [Ko, Kg, Kn, Ki]
 refine zd (k.eval (by simp (disch := first | exact dis | fail) only [go_sem, seval, -reduceOfNat, -reduceNegSucc, encD, zb]; exact rfl) ?_)
 simp only [za]
 refine zd (k.eval (by simp (disch := first | exact dis | fail) only [go_sem, seval, -reduceOfNat, -reduceNegSucc, hca]; exact rfl) ?_)
 simp only [za]
 refine xO ⟨tmL [(6, .ptr 0 0), (1, lvV 1 (zA l))], []⟩ (H ([some (drow (.mk ek en et eks ep))] ++ lvO (zA l)) 0 true) ?_ ?_
 ·
  refine zd (k.eval (by simp (disch := first | exact dis | fail) only [go_sem, seval, -reduceOfNat, -reduceNegSucc]; exact rfl) ?_)
  simp only [za]
  refine zW (yb (k.gcL [1] [7, 6, 5, 1] true (fr1 := ⟨tmL [(7, .int .i64 (.ofNat 0)), (6, .ptr 0 0), (5, .lst l.length false (zm l)), (1, lvV 1 [])], []⟩) (s1 := H ([some (drow (.mk ek en et eks ep))] ++ lvO []) 0 true) (by simp (disch := first | exact dis | fail) only [go_sem, seval, -reduceOfNat, -reduceNegSucc, drow, lvV, lvO, gV_z, gO_z, zb, zg]) ?_))
  refine yh (fun x : Nat × List DT => l.length - x.1) (fun x => ⟨tmL [(7, .int .i64 (.ofNat x.1)), (6, .ptr 0 0), (5, .lst l.length false (zm l)), (1, lvV 1 x.2)], []⟩) (fun x => H ([some (drow (.mk ek en et eks ep))] ++ lvO x.2) 0 true) (fun x => x.1 ≤ l.length ∧ x.2 ++ zA (l.drop x.1) = zA l ∧ x.2.length + zO (l.drop x.1) ≤ zO l) (fun x hx => ?_) (0, []) ⟨Nat.zero_le _, rfl, by simp⟩
  obtain ⟨i, acc⟩ := x
  obtain ⟨g1, g2, g3⟩ := hx
  simp only at g1 g2 g3 ⊢
  rcases xb l i with ⟨hi, hd⟩ | ⟨u, hi, hd⟩
  ·have hlt : ¬ i < l.length := by omega
   rw [hd] at g2; simp only [zA, List.append_nil] at g2
   rw [← g2]
   cases acc with
   | nil =>
    refine k.eval (by simp (disch := first | exact dis | fail) only [go_sem, seval, -reduceOfNat, -reduceNegSucc, hlt, drow, lvV, lvO, gV_z, gO_z, zb]; exact rfl) ?_
    try simp only [za, zj, Cut]
    refine k.gcs (keep := [0]) (live := [6, 1]) (md := true) ?_
    simp (disch := first | exact dis | fail) only [go_sem, seval, -reduceOfNat, -reduceNegSucc, drow, lvV, lvO, gV_z, gO_z, zb]
   | cons a0 ar =>
    have hp1 := zt (a0 :: ar)
    refine k.eval (by simp (disch := first | exact dis | fail) only [go_sem, seval, -reduceOfNat, -reduceNegSucc, hlt, drow, lvV, lvO, gV_s, gO_s, zb]; exact rfl) ?_
    try simp only [za, zj, Cut]
    refine k.gcs (keep := [0, 1]) (live := [6, 1]) (md := true) ?_
    simp (disch := first | exact dis | fail) only [go_sem, seval, -reduceOfNat, -reduceNegSucc, drow, lvV, lvO, gV_s, gO_s, zb, hp1]
  ·rw [hd] at g2 g3
   simp only [zA, zO] at g2 g3
   have hnu : zR u < N := by
    have h1 : u ∈ l := List.mem_of_mem_drop (by rw [hd]; exact List.mem_cons_self)
    have := xS h1; have := w6 (.mk ek en et eks ep); omega
   have hlu := ww u
   have hpu := zt (zC u)
   have hdr : yw (i * 5) (zm l) = zT u ++ zm (l.drop (i + 1)) := by rw [yR, hd, zF]
   cases acc with
   | nil =>
    have hc := pq h18 (d := u) hnu (by omega)
    generalize zC u = lu at g2 hlu hpu hc
    obtain ⟨uk, un, ut, uks, up⟩ := u
    simp only [zb] at hc
    cases lu with
    | nil =>
     simp only [List.length_nil, gV_z, if_true] at hc
     refine k.eval (by simp (disch := first | exact dis | fail) only [go_sem, seval, -reduceOfNat, -reduceNegSucc, hi, drow, lvV, lvO, gV_z, gO_z, zb, hdr, hc]; exact rfl) ?_
     try simp only [za]
     refine ⟨(i + 1, []), ⟨by simp only; omega, g2, by simp only [List.length_nil] at g3 ⊢; omega⟩, by simp only; omega, ?_⟩
     refine k.gcs (keep := [0]) (live := [7, 6, 5, 1]) (md := true) ?_
     simp (disch := first | exact dis | fail) only [go_sem, seval, -reduceOfNat, -reduceNegSucc, drow, lvV, lvO, gV_z, gO_z, zb]
    | cons b0 br =>
     simp only [List.length_cons, gV_s, Nat.succ_ne_zero, if_false] at hc
     refine k.eval (by simp (disch := first | exact dis | fail) only [go_sem, seval, -reduceOfNat, -reduceNegSucc, hi, drow, lvV, lvO, gV_z, gO_z, zb, hdr, hc]; exact rfl) ?_
     try simp only [za]
     refine ⟨(i + 1, b0 :: br), ⟨by simp only; omega, g2, by simp only [List.length_cons, List.length_nil] at g3 hlu ⊢; omega⟩, by simp only; omega, ?_⟩
     refine k.gcs (keep := [0, 1]) (live := [7, 6, 5, 1]) (md := true) ?_
     simp (disch := first | exact dis | fail) only [go_sem, seval, -reduceOfNat, -reduceNegSucc, drow, lvV, lvO, gV_s, gO_s, zb, hpu]
   | cons a0 ar =>
    have hp1 := zt (a0 :: ar)
    have hp2 : zu (zm (a0 :: ar) ++ zm (zC u)) = true := by rw [yB, hp1, hpu]; rfl
    simp only [List.length_cons] at g3
    have hc := fun st n m md id hi hb => kh h18 (d := u) (q := ar.length) hnu (by omega) hp1 st n m md id hi hb
    generalize zC u = lu at g2 hlu hpu hc hp2
    obtain ⟨uk, un, ut, uks, up⟩ := u
    simp only [zb] at hc
    refine k.eval (by simp (disch := first | exact dis | fail) only [go_sem, seval, -reduceOfNat, -reduceNegSucc, hi, drow, lvV, lvO, gV_s, gO_s, zb, hdr, hc]; exact rfl) ?_
    try simp only [za]
    refine ⟨(i + 1, (a0 :: ar) ++ lu), ⟨by simp only; omega, by rw [List.append_assoc]; exact g2, by simp only [List.length_append, List.length_cons] at g3 hlu ⊢; omega⟩, by simp only; omega, ?_⟩
    refine k.gcs (keep := [0, 2]) (live := [7, 6, 5, 1]) (md := true) ?_
    have e1 : ((a0 :: ar) ++ lu).length = ar.length + lu.length + 1 := by simp only [List.length_append, List.length_cons]; omega
    have e2 : ar.length + 1 + lu.length = ar.length + lu.length + 1 := by omega
    simp only [lvV, lvO, e1, gV_s, gO_s, yi]
    simp (disch := first | exact dis | fail) only [go_sem, seval, -reduceOfNat, -reduceNegSucc, drow, zb, hp2, e2]
 ·have hal := qh l
  generalize zA l = acc0 at hal
  by_cases h7 : ek = .ofNat 7
  ·subst h7
   have hE : xB (.mk (.ofNat 7) en et eks ep) = zA eks := by simp only [xB, if_true]
   rw [hE]
   refine xO ⟨tmL [(6, .ptr 0 0), (1, lvV 1 (acc0 ++ zA eks))], []⟩ (H ([some (drow (.mk (.ofNat 7) en et eks ep))] ++ lvO (acc0 ++ zA eks)) 0 true) ?_ ?_
   ·
    refine zd (k.eval (by simp (disch := first | exact dis | fail) only [go_sem, seval, -reduceOfNat, -reduceNegSucc, drow, zb, lvV, lvO]; exact rfl) ?_)
    simp only [za]
    refine vS (b := true) (by simp (disch := first | exact dis | fail) only [go_sem, seval, -reduceOfNat, -reduceNegSucc]) ?_
    simp only [cond_true]
    refine zd (k.eval (by simp (disch := first | exact dis | fail) only [go_sem, seval, -reduceOfNat, -reduceNegSucc]; exact rfl) ?_)
    simp only [za]
    refine zW (yb (lF (?_ : Gc C _ _ ⟨tmL [(8, .int .i64 (.ofNat 0)), (6, .ptr 0 0), (1, lvV 1 acc0)], []⟩ (H ([some (drow (.mk (.ofNat 7) en et eks ep))] ++ lvO acc0) 0 true)) ?_))
    ·cases acc0 with
     | nil =>
      refine k.gcs (keep := [0]) (live := [8, 6, 1]) (md := true) ?_
      simp (disch := first | exact dis | fail) only [go_sem, seval, -reduceOfNat, -reduceNegSucc, drow, lvV, lvO, gV_z, gO_z, zb, List.length_nil]
     | cons a0 ar =>
      have hp1 := zt (a0 :: ar)
      refine k.gcs (keep := [0, 1]) (live := [8, 6, 1]) (md := true) ?_
      simp (disch := first | exact dis | fail) only [go_sem, seval, -reduceOfNat, -reduceNegSucc, drow, lvV, lvO, gV_s, gO_s, zb, hp1, List.length_cons]
    refine yh (fun x : Nat × List DT => eks.length - x.1) (fun x => ⟨tmL [(8, .int .i64 (.ofNat x.1)), (6, .ptr 0 0), (1, lvV 1 x.2)], []⟩) (fun x => H ([some (drow (.mk (.ofNat 7) en et eks ep))] ++ lvO x.2) 0 true) (fun x => x.1 ≤ eks.length ∧ x.2 ++ zA (eks.drop x.1) = acc0 ++ zA eks ∧ x.2.length + zO (eks.drop x.1) ≤ acc0.length + zO eks) (fun x hx => ?_) (0, acc0) ⟨Nat.zero_le _, rfl, by simp⟩
    obtain ⟨i, acc⟩ := x
    obtain ⟨g1, g2, g3⟩ := hx
    simp only at g1 g2 g3 ⊢
    rcases xb eks i with ⟨hi, hd⟩ | ⟨u, hi, hd⟩
    ·have hlt : ¬ i < eks.length := by omega
     rw [hd] at g2; simp only [zA, List.append_nil] at g2
     rw [← g2]
     cases acc with
     | nil =>
      refine k.eval (by simp (disch := first | exact dis | fail) only [go_sem, seval, -reduceOfNat, -reduceNegSucc, hlt, drow, lvV, lvO, gV_z, gO_z, zb]; exact rfl) ?_
      try simp only [za, zj, Cut]
      refine k.gcs (keep := [0]) (live := [6, 1]) (md := true) ?_
      simp (disch := first | exact dis | fail) only [go_sem, seval, -reduceOfNat, -reduceNegSucc, drow, lvV, lvO, gV_z, gO_z, zb]
     | cons a0 ar =>
      have hp1 := zt (a0 :: ar)
      refine k.eval (by simp (disch := first | exact dis | fail) only [go_sem, seval, -reduceOfNat, -reduceNegSucc, hlt, drow, lvV, lvO, gV_s, gO_s, zb]; exact rfl) ?_
      try simp only [za, zj, Cut]
      refine k.gcs (keep := [0, 1]) (live := [6, 1]) (md := true) ?_
      simp (disch := first | exact dis | fail) only [go_sem, seval, -reduceOfNat, -reduceNegSucc, drow, lvV, lvO, gV_s, gO_s, zb, hp1]
    ·rw [hd] at g2 g3
     simp only [zA, zO] at g2 g3
     have hnu : zR u < N := by
      have h1 : u ∈ eks := List.mem_of_mem_drop (by rw [hd]; exact List.mem_cons_self)
      have := xS h1; omega
     have hlu := ww u
     have hpu := zt (zC u)
     have hdr : yw (i * 5) (zm eks) = zT u ++ zm (eks.drop (i + 1)) := by rw [yR, hd, zF]
     cases acc with
     | nil =>
      have hc := pq h18 (d := u) hnu (by omega)
      generalize zC u = lu at g2 hlu hpu hc
      obtain ⟨uk, un, ut, uks, up⟩ := u
      simp only [zb] at hc
      cases lu with
      | nil =>
       simp only [List.length_nil, gV_z, if_true] at hc
       refine k.eval (by simp (disch := first | exact dis | fail) only [go_sem, seval, -reduceOfNat, -reduceNegSucc, hi, drow, lvV, lvO, gV_z, gO_z, zb, hdr, hc]; exact rfl) ?_
       try simp only [za]
       refine ⟨(i + 1, []), ⟨by simp only; omega, g2, by simp only [List.length_nil] at g3 ⊢; omega⟩, by simp only; omega, ?_⟩
       refine k.gcs (keep := [0]) (live := [8, 6, 1]) (md := true) ?_
       simp (disch := first | exact dis | fail) only [go_sem, seval, -reduceOfNat, -reduceNegSucc, drow, lvV, lvO, gV_z, gO_z, zb]
      | cons b0 br =>
       simp only [List.length_cons, gV_s, Nat.succ_ne_zero, if_false] at hc
       refine k.eval (by simp (disch := first | exact dis | fail) only [go_sem, seval, -reduceOfNat, -reduceNegSucc, hi, drow, lvV, lvO, gV_z, gO_z, zb, hdr, hc]; exact rfl) ?_
       try simp only [za]
       refine ⟨(i + 1, b0 :: br), ⟨by simp only; omega, g2, by simp only [List.length_cons, List.length_nil] at g3 hlu ⊢; omega⟩, by simp only; omega, ?_⟩
       refine k.gcs (keep := [0, 1]) (live := [8, 6, 1]) (md := true) ?_
       simp (disch := first | exact dis | fail) only [go_sem, seval, -reduceOfNat, -reduceNegSucc, drow, lvV, lvO, gV_s, gO_s, zb, hpu]
     | cons a0 ar =>
      have hp1 := zt (a0 :: ar)
      have hp2 : zu (zm (a0 :: ar) ++ zm (zC u)) = true := by rw [yB, hp1, hpu]; rfl
      simp only [List.length_cons] at g3
      have hc := fun st n m md id hi hb => kh h18 (d := u) (q := ar.length) hnu (by omega) hp1 st n m md id hi hb
      generalize zC u = lu at g2 hlu hpu hc hp2
      obtain ⟨uk, un, ut, uks, up⟩ := u
      simp only [zb] at hc
      refine k.eval (by simp (disch := first | exact dis | fail) only [go_sem, seval, -reduceOfNat, -reduceNegSucc, hi, drow, lvV, lvO, gV_s, gO_s, zb, hdr, hc]; exact rfl) ?_
      try simp only [za]
      refine ⟨(i + 1, (a0 :: ar) ++ lu), ⟨by simp only; omega, by rw [List.append_assoc]; exact g2, by simp only [List.length_append, List.length_cons] at g3 hlu ⊢; omega⟩, by simp only; omega, ?_⟩
      refine k.gcs (keep := [0, 2]) (live := [8, 6, 1]) (md := true) ?_
      have e1 : ((a0 :: ar) ++ lu).length = ar.length + lu.length + 1 := by simp only [List.length_append, List.length_cons]; omega
      have e2 : ar.length + 1 + lu.length = ar.length + lu.length + 1 := by omega
      simp only [lvV, lvO, e1, gV_s, gO_s, yi]
      simp (disch := first | exact dis | fail) only [go_sem, seval, -reduceOfNat, -reduceNegSucc, drow, zb, hp2, e2]
   ·generalize acc0 ++ zA eks = acc
    cases acc with
    | nil =>
     refine zd (k.eval (by simp (disch := first | exact dis | fail) only [go_sem, seval, -reduceOfNat, -reduceNegSucc, drow, lvV, lvO, gV_z, gO_z, zb]; exact rfl) ?_)
     simp only [za]
     refine zd (k.eval (by simp (disch := first | exact dis | fail) only [go_sem, seval, -reduceOfNat, -reduceNegSucc]; exact rfl) ?_)
     simp only [za]
     refine k.eval (by simp (disch := first | exact dis | fail) only [go_sem, seval, -reduceOfNat, -reduceNegSucc]; exact rfl) ?_
     try simp only [za, zj, Cut, if_true]
     apply wh [] (Or.inr rfl)
     iterate 3 (simp (disch := first | exact dis | fail) only [go_sem, seval, -reduceOfNat, -reduceNegSucc, gV_z, gO_z] <;> exact rfl)
    | cons a0 ar =>
     have hp1 := zt (a0 :: ar)
     refine zd (k.eval (by simp (disch := first | exact dis | fail) only [go_sem, seval, -reduceOfNat, -reduceNegSucc, drow, lvV, lvO, gV_s, gO_s, zb]; exact rfl) ?_)
     simp only [za]
     refine zd (k.eval (by simp (disch := first | exact dis | fail) only [go_sem, seval, -reduceOfNat, -reduceNegSucc]; exact rfl) ?_)
     simp only [za]
     refine k.eval (by simp (disch := first | exact dis | fail) only [go_sem, seval, -reduceOfNat, -reduceNegSucc]; exact rfl) ?_
     try simp only [za, zj, Cut, if_true]
     apply wh [1] (Or.inr rfl)
     iterate 3 (simp (disch := first | exact dis | fail) only [go_sem, seval, -reduceOfNat, -reduceNegSucc, gV_s, gO_s, hp1] <;> exact rfl)
  ·have h7' : eqD ek (.ofNat 7) = false := jN h7
   by_cases hlf : .ofNat 1 ≤ ek ∧ ek ≤ .ofNat 5
   ·have hE : xB (.mk ek en et eks ep) = [.mk ek en et eks ep] := by simp only [xB]; rw [if_neg h7, if_pos hlf]
    have l1 : ltD ek (.ofNat 1) = false := ZA hlf.1
    have l2 : ltD (.ofNat 5) ek = false := ZA hlf.2
    rw [hE]
    cases acc0 with
    | nil =>
     refine zd (k.eval (by simp (disch := first | exact dis | fail) only [go_sem, seval, -reduceOfNat, -reduceNegSucc, drow, lvV, lvO, gV_z, gO_z, zb, h7']; exact rfl) ?_)
     simp only [za]
     refine zd (k.eval (by simp (disch := first | exact dis | fail) only [go_sem, seval, -reduceOfNat, -reduceNegSucc, l1, l2]; exact rfl) ?_)
     simp only [za]
     refine k.eval (by simp (disch := first | exact dis | fail) only [go_sem, seval, -reduceOfNat, -reduceNegSucc]; exact rfl) ?_
     try simp only [za, zj, Cut, if_true]
     apply wh [1] (Or.inr rfl)
     iterate 3 (simp (disch := first | exact dis | fail) only [go_sem, seval, -reduceOfNat, -reduceNegSucc, gV_s, gO_s, zF, zg, zb, List.nil_append, List.append_nil] <;> exact rfl)
    | cons a0 ar =>
     have hp1 := zt (a0 :: ar)
     simp only [List.length_cons] at hal
     refine zd (k.eval (by simp (disch := first | exact dis | fail) only [go_sem, seval, -reduceOfNat, -reduceNegSucc, drow, lvV, lvO, gV_s, gO_s, zb, h7']; exact rfl) ?_)
     simp only [za]
     refine zd (k.eval (by simp (disch := first | exact dis | fail) only [go_sem, seval, -reduceOfNat, -reduceNegSucc, l1, l2]; exact rfl) ?_)
     simp only [za]
     refine k.eval (by simp (disch := first | exact dis | fail) only [go_sem, seval, -reduceOfNat, -reduceNegSucc]; exact rfl) ?_
     try simp only [za, zj, Cut, if_true]
     apply wh [2] (Or.inr rfl)
     iterate 3 (simp (disch := first | exact dis | fail) only [go_sem, seval, -reduceOfNat, -reduceNegSucc, gV_s, gO_s, yi, zF, zg, zb, List.length_append, List.append_nil, List.append_assoc, yr, zt] <;> exact rfl)
   ·have hE : xB (.mk ek en et eks ep) = [] := by simp only [xB]; rw [if_neg h7, if_neg hlf]
    have l3 : ltD ek (.ofNat 1) = true ∨ ltD ek (.ofNat 1) = false ∧ ltD (.ofNat 5) ek = true := by
     by_cases q : .ofNat 1 ≤ ek
     ·exact .inr ⟨ZA q, UO (Int.lt_of_not_ge fun h => hlf ⟨q, h⟩)⟩
     ·exact .inl (UO (Int.lt_of_not_ge q))
    rw [hE]
    simp only [List.append_nil]
    cases acc0 with
    | nil =>
     refine zd (k.eval (by simp (disch := first | exact dis | fail) only [go_sem, seval, -reduceOfNat, -reduceNegSucc, drow, lvV, lvO, gV_z, gO_z, zb, h7']; exact rfl) ?_)
     simp only [za]
     rcases l3 with l1 | ⟨l1, l2⟩
     ·
      refine zd (k.eval (by simp (disch := first | exact dis | fail) only [go_sem, seval, -reduceOfNat, -reduceNegSucc, l1]; exact rfl) ?_)
      simp only [za]
      refine k.eval (by simp (disch := first | exact dis | fail) only [go_sem, seval, -reduceOfNat, -reduceNegSucc]; exact rfl) ?_
      try simp only [za, zj, Cut, if_true]
      apply wh [] (Or.inr rfl)
      iterate 3 (simp (disch := first | exact dis | fail) only [go_sem, seval, -reduceOfNat, -reduceNegSucc, gV_z, gO_z] <;> exact rfl)
     ·
      refine zd (k.eval (by simp (disch := first | exact dis | fail) only [go_sem, seval, -reduceOfNat, -reduceNegSucc, l1, l2]; exact rfl) ?_)
      simp only [za]
      refine k.eval (by simp (disch := first | exact dis | fail) only [go_sem, seval, -reduceOfNat, -reduceNegSucc]; exact rfl) ?_
      try simp only [za, zj, Cut, if_true]
      apply wh [] (Or.inr rfl)
      iterate 3 (simp (disch := first | exact dis | fail) only [go_sem, seval, -reduceOfNat, -reduceNegSucc, gV_z, gO_z] <;> exact rfl)
    | cons a0 ar =>
     have hp1 := zt (a0 :: ar)
     refine zd (k.eval (by simp (disch := first | exact dis | fail) only [go_sem, seval, -reduceOfNat, -reduceNegSucc, drow, lvV, lvO, gV_s, gO_s, zb, h7']; exact rfl) ?_)
     simp only [za]
     rcases l3 with l1 | ⟨l1, l2⟩
     ·
      refine zd (k.eval (by simp (disch := first | exact dis | fail) only [go_sem, seval, -reduceOfNat, -reduceNegSucc, l1]; exact rfl) ?_)
      simp only [za]
      refine k.eval (by simp (disch := first | exact dis | fail) only [go_sem, seval, -reduceOfNat, -reduceNegSucc]; exact rfl) ?_
      try simp only [za, zj, Cut, if_true]
      apply wh [1] (Or.inr rfl)
      iterate 3 (simp (disch := first | exact dis | fail) only [go_sem, seval, -reduceOfNat, -reduceNegSucc, gV_s, gO_s, hp1] <;> exact rfl)
     ·
      refine zd (k.eval (by simp (disch := first | exact dis | fail) only [go_sem, seval, -reduceOfNat, -reduceNegSucc, l1, l2]; exact rfl) ?_)
      simp only [za]
      refine k.eval (by simp (disch := first | exact dis | fail) only [go_sem, seval, -reduceOfNat, -reduceNegSucc]; exact rfl) ?_
      try simp only [za, zj, Cut, if_true]
      apply wh [1] (Or.inr rfl)
      iterate 3 (simp (disch := first | exact dis | fail) only [go_sem, seval, -reduceOfNat, -reduceNegSucc, gV_s, gO_s, hp1] <;> exact rfl)
def lvW (q : Nat) (cs : List AV) (acc : List DT) : AV := .gr 2 5 (q + 1 + acc.length) (cs ++ zm acc)
def lvA (cs : List AV) (acc : List DT) : AObj := .app 24 (cs ++ zm acc)
theorem Qt {P : Program} {w0 : World} (B : Bx P w0) {O : Orc} (hO : OrcOk P w0 O) {N : Nat} (h18 : O 18 = some (gLv N)) (h19 : O 19 = some gItm) (d0 : DT) (q : Nat) (cs : List AV) (hN : zR d0 < N + 1) (hb : q + 1 + zR d0 < 100000) (hcs : zu cs = true) :
  SC P w0 18 [encD d0, .gr 0 5 (q + 1) cs] (H [some (.app 24 cs)] 0 true) (.gr 1 5 (q + 1 + (zC d0).length) (cs ++ zm (zC d0))) (H [none, some (.app 24 (cs ++ zm (zC d0)))] 1 true) := by
 refine Is.scG hO B.mixed B.glob B.env 1 (show env.funs.get 18 = some f18 from rfl) (Nat.le_of_ble_eq_true rfl) (Nat.le_of_ble_eq_true rfl) (qI rfl) fun C k => ?_
 rw [vJ _ d0 (Nat.lt_succ_self _)]
 have hni := gI d0
 have hla := wo (z9 d0).1
 have hca := WX (f := 19) h19 (d := d0) (by omega)
 simp only [itR] at hca
 revert hni hla hca
 generalize (z9 d0).1 = l
 generalize (z9 d0).2 = e
 intro hni hla hca
 have hke := qm e
 have hle := wo (wa e)
 obtain ⟨ek, en, et, eks, ep⟩ := e
 obtain ⟨ak, an, at_, aks, ap⟩ := d0
 simp only [encD, zb] at hca
 simp only [wa] at hke hle
 have hpa : ∀ acc : List DT, zu (cs ++ zm acc) = true := fun acc => by rw [yB, hcs, zt]; rfl
 have eA : ∀ (a b : List DT), (cs ++ zm a) ++ zm b = cs ++ zm (a ++ b) := fun a b => by rw [yi, List.append_assoc]
 have eN : ∀ (a b : List DT), q + 1 + a.length + b.length = q + 1 + (a ++ b).length := fun a b => by rw [List.length_append]; omega
 have step : ∀ {u : DT} {acc : List DT}, zR u < N → q + 1 + acc.length + zR u < 100000 → ∀ (st : List (Nat × Option AObj)) (n m : Nat) (md : Bool) (id : Nat), id < n → getA st id = some (lvA cs acc) →
   (evW env O).call 18 [.agg (zT u), .gr id 5 (q + 1 + acc.length) (cs ++ zm acc)] (KL st n m md [] none) = some (.gr n 5 (q + 1 + (acc ++ zC u).length) (cs ++ zm (acc ++ zC u)), KL ((n, some (lvA cs (acc ++ zC u))) :: (id, none) :: st) (n + 1) (mark m id) md [] none) := fun {u acc} g1 g2 st n m md id hi hg => by
  have e : q + 1 + acc.length = (q + acc.length) + 1 := by omega
  rw [← eN, ← eA, e, kh h18 g1 (by omega) (hpa acc) st n m md id hi hg]
  simp only [lvA, eA]
 unfold f18
 simp only [Ko, Kg, Kn, Ki]
 refine zd (k.eval (by simp (disch := first | exact dis | fail) only [go_sem, seval, -reduceOfNat, -reduceNegSucc, encD, zb]; exact rfl) ?_)
 simp only [za]
 refine zd (k.eval (by simp (disch := first | exact dis | fail) only [go_sem, seval, -reduceOfNat, -reduceNegSucc, hca]; exact rfl) ?_)
 simp only [za]
 refine xO ⟨tmL [(6, .ptr 1 0), (1, lvW q cs (zA l))], []⟩ (H [none, some (drow (.mk ek en et eks ep)), some (lvA cs (zA l))] 1 true) ?_ ?_
 ·
  refine zd (k.eval (by simp (disch := first | exact dis | fail) only [go_sem, seval, -reduceOfNat, -reduceNegSucc]; exact rfl) ?_)
  simp only [za]
  refine zW (yb (k.gcL [2] [1, 7, 6, 5] true (fr1 := ⟨tmL [(1, .gr 0 5 (q + 1) cs), (7, .int .i64 (.ofNat 0)), (6, .ptr 1 0), (5, .lst l.length false (zm l))], []⟩) (s1 := H [some (.app 24 cs), some (drow (.mk ek en et eks ep))] 1 true) (by simp (disch := first | exact dis | fail) only [go_sem, seval, -reduceOfNat, -reduceNegSucc, drow, zb, hcs]) ?_))
  rw [H_eq]
  refine lF (k.renG (id := 0) (Nat.zero_lt_succ _) rfl) ?_
  refine k.gcL [1, 2] [7, 6, 5, 1] true (fr1 := ⟨tmL [(7, .int .i64 (.ofNat 0)), (6, .ptr 1 0), (5, .lst l.length false (zm l)), (1, lvW q cs [])], []⟩) (s1 := H [none, some (drow (.mk ek en et eks ep)), some (lvA cs [])] 1 true) (by simp (disch := first | exact dis | fail) only [go_sem, seval, -reduceOfNat, -reduceNegSucc, drow, lvW, lvA, zb, zg, List.append_nil, List.length_nil, hcs]) ?_
  refine yh (fun x : Nat × List DT => l.length - x.1) (fun x => ⟨tmL [(7, .int .i64 (.ofNat x.1)), (6, .ptr 1 0), (5, .lst l.length false (zm l)), (1, lvW q cs x.2)], []⟩) (fun x => H [none, some (drow (.mk ek en et eks ep)), some (lvA cs x.2)] 1 true) (fun x => x.1 ≤ l.length ∧ x.2 ++ zA (l.drop x.1) = zA l ∧ x.2.length + zO (l.drop x.1) ≤ zO l) (fun x hx => ?_) (0, []) ⟨Nat.zero_le _, rfl, by simp⟩
  obtain ⟨i, acc⟩ := x
  obtain ⟨g1, g2, g3⟩ := hx
  simp only at g1 g2 g3 ⊢
  rcases xb l i with ⟨hi, hd⟩ | ⟨u, hi, hd⟩
  ·have hlt : ¬ i < l.length := by omega
   rw [hd] at g2; simp only [zA, List.append_nil] at g2
   rw [← g2]
   refine k.eval (by simp (disch := first | exact dis | fail) only [go_sem, seval, -reduceOfNat, -reduceNegSucc, hlt, drow, lvW, lvA, zb]; exact rfl) ?_
   try simp only [za, zj, Cut]
   refine k.gcs (keep := [1, 2]) (live := [6, 1]) (md := true) ?_
   simp (disch := first | exact dis | fail) only [go_sem, seval, -reduceOfNat, -reduceNegSucc, drow, lvW, lvA, zb, hpa]
  ·rw [hd] at g2 g3
   simp only [zA, zO] at g2 g3
   have hnu : zR u < N := by
    have h1 : u ∈ l := List.mem_of_mem_drop (by rw [hd]; exact List.mem_cons_self)
    have := xS h1; have := w6 (.mk ek en et eks ep); omega
   have hlu := ww u
   have hc := @step u acc hnu (by omega)
   have hdr : yw (i * 5) (zm l) = zT u ++ zm (l.drop (i + 1)) := by rw [yR, hd, zF]
   generalize zC u = lu at g2 hlu hc
   obtain ⟨uk, un, ut, uks, up⟩ := u
   simp only [zb, lvA] at hc
   refine k.eval (by simp (disch := first | exact dis | fail) only [go_sem, seval, -reduceOfNat, -reduceNegSucc, hi, drow, lvW, lvA, zb, hdr, hc]; exact rfl) ?_
   try simp only [za]
   refine ⟨(i + 1, acc ++ lu), ⟨by simp only; omega, by rw [List.append_assoc]; exact g2, by simp only [List.length_append] at g3 hlu ⊢; omega⟩, by simp only; omega, ?_⟩
   refine k.gcs (keep := [1, 3]) (live := [7, 6, 5, 1]) (md := true) ?_
   simp (disch := first | exact dis | fail) only [go_sem, seval, -reduceOfNat, -reduceNegSucc, drow, lvW, lvA, zb, hpa]
 ·have hal := qh l
  generalize zA l = acc0 at hal
  by_cases h7 : ek = .ofNat 7
  ·subst h7
   have hE : xB (.mk (.ofNat 7) en et eks ep) = zA eks := by simp only [xB, if_true]
   rw [hE]
   refine xO ⟨tmL [(6, .ptr 1 0), (1, lvW q cs (acc0 ++ zA eks))], []⟩ (H [none, some (drow (.mk (.ofNat 7) en et eks ep)), some (lvA cs (acc0 ++ zA eks))] 1 true) ?_ ?_
   ·
    refine zd (k.eval (by simp (disch := first | exact dis | fail) only [go_sem, seval, -reduceOfNat, -reduceNegSucc, drow, zb, lvW, lvA]; exact rfl) ?_)
    simp only [za]
    refine vS (b := true) (by simp (disch := first | exact dis | fail) only [go_sem, seval, -reduceOfNat, -reduceNegSucc]) ?_
    simp only [cond_true]
    refine zd (k.eval (by simp (disch := first | exact dis | fail) only [go_sem, seval, -reduceOfNat, -reduceNegSucc]; exact rfl) ?_)
    simp only [za]
    refine zW (yb (k.gcL [1, 2] [8, 6, 1] true (fr1 := ⟨tmL [(8, .int .i64 (.ofNat 0)), (6, .ptr 1 0), (1, lvW q cs acc0)], []⟩) (s1 := H [none, some (drow (.mk (.ofNat 7) en et eks ep)), some (lvA cs acc0)] 1 true) (by simp (disch := first | exact dis | fail) only [go_sem, seval, -reduceOfNat, -reduceNegSucc, drow, lvW, lvA, zb, hpa]) ?_))
    refine yh (fun x : Nat × List DT => eks.length - x.1) (fun x => ⟨tmL [(8, .int .i64 (.ofNat x.1)), (6, .ptr 1 0), (1, lvW q cs x.2)], []⟩) (fun x => H [none, some (drow (.mk (.ofNat 7) en et eks ep)), some (lvA cs x.2)] 1 true) (fun x => x.1 ≤ eks.length ∧ x.2 ++ zA (eks.drop x.1) = acc0 ++ zA eks ∧ x.2.length + zO (eks.drop x.1) ≤ acc0.length + zO eks) (fun x hx => ?_) (0, acc0) ⟨Nat.zero_le _, rfl, by simp⟩
    obtain ⟨i, acc⟩ := x
    obtain ⟨g1, g2, g3⟩ := hx
    simp only at g1 g2 g3 ⊢
    rcases xb eks i with ⟨hi, hd⟩ | ⟨u, hi, hd⟩
    ·have hlt : ¬ i < eks.length := by omega
     rw [hd] at g2; simp only [zA, List.append_nil] at g2
     rw [← g2]
     refine k.eval (by simp (disch := first | exact dis | fail) only [go_sem, seval, -reduceOfNat, -reduceNegSucc, hlt, drow, lvW, lvA, zb]; exact rfl) ?_
     try simp only [za, zj, Cut]
     refine k.gcs (keep := [1, 2]) (live := [6, 1]) (md := true) ?_
     simp (disch := first | exact dis | fail) only [go_sem, seval, -reduceOfNat, -reduceNegSucc, drow, lvW, lvA, zb, hpa]
    ·rw [hd] at g2 g3
     simp only [zA, zO] at g2 g3
     have hnu : zR u < N := by
      have h1 : u ∈ eks := List.mem_of_mem_drop (by rw [hd]; exact List.mem_cons_self)
      have := xS h1; omega
     have hlu := ww u
     have hc := @step u acc hnu (by omega)
     have hdr : yw (i * 5) (zm eks) = zT u ++ zm (eks.drop (i + 1)) := by rw [yR, hd, zF]
     generalize zC u = lu at g2 hlu hc
     obtain ⟨uk, un, ut, uks, up⟩ := u
     simp only [zb, lvA] at hc
     refine k.eval (by simp (disch := first | exact dis | fail) only [go_sem, seval, -reduceOfNat, -reduceNegSucc, hi, drow, lvW, lvA, zb, hdr, hc]; exact rfl) ?_
     try simp only [za]
     refine ⟨(i + 1, acc ++ lu), ⟨by simp only; omega, by rw [List.append_assoc]; exact g2, by simp only [List.length_append] at g3 hlu ⊢; omega⟩, by simp only; omega, ?_⟩
     refine k.gcs (keep := [1, 3]) (live := [8, 6, 1]) (md := true) ?_
     simp (disch := first | exact dis | fail) only [go_sem, seval, -reduceOfNat, -reduceNegSucc, drow, lvW, lvA, zb, hpa]
   ·generalize acc0 ++ zA eks = acc
    refine zd (k.eval (by simp (disch := first | exact dis | fail) only [go_sem, seval, -reduceOfNat, -reduceNegSucc, drow, lvW, lvA, zb]; exact rfl) ?_)
    simp only [za]
    refine zd (k.eval (by simp (disch := first | exact dis | fail) only [go_sem, seval, -reduceOfNat, -reduceNegSucc]; exact rfl) ?_)
    simp only [za]
    refine k.eval (by simp (disch := first | exact dis | fail) only [go_sem, seval, -reduceOfNat, -reduceNegSucc]; exact rfl) ?_
    try simp only [za, zj, Cut, if_true]
    apply wh [2] (Or.inr rfl)
    iterate 3 (simp (disch := first | exact dis | fail) only [go_sem, seval, -reduceOfNat, -reduceNegSucc, hpa] <;> exact rfl)
  ·have h7' : eqD ek (.ofNat 7) = false := jN h7
   by_cases hlf : .ofNat 1 ≤ ek ∧ ek ≤ .ofNat 5
   ·have hE : xB (.mk ek en et eks ep) = [.mk ek en et eks ep] := by simp only [xB]; rw [if_neg h7, if_pos hlf]
    have l1 : ltD ek (.ofNat 1) = false := ZA hlf.1
    have l2 : ltD (.ofNat 5) ek = false := ZA hlf.2
    have hp1 := hpa acc0
    have e3 : q + 1 + (acc0 ++ [DT.mk ek en et eks ep]).length = q + 1 + acc0.length + 1 := by simp only [List.length_append, List.length_cons, List.length_nil]; omega
    rw [hE, e3]
    refine zd (k.eval (by simp (disch := first | exact dis | fail) only [go_sem, seval, -reduceOfNat, -reduceNegSucc, drow, lvW, lvA, zb, h7']; exact rfl) ?_)
    simp only [za]
    refine zd (k.eval (by simp (disch := first | exact dis | fail) only [go_sem, seval, -reduceOfNat, -reduceNegSucc, l1, l2]; exact rfl) ?_)
    simp only [za]
    refine k.eval (by simp (disch := first | exact dis | fail) only [go_sem, seval, -reduceOfNat, -reduceNegSucc]; exact rfl) ?_
    try simp only [za, zj, Cut, if_true]
    apply wh [3] (Or.inr rfl)
    iterate 3 (simp (disch := first | exact dis | fail) only [go_sem, seval, -reduceOfNat, -reduceNegSucc, hcs, yi, zF, zg, zb, List.append_nil, List.append_assoc, zt] <;> exact rfl)
   ·have hE : xB (.mk ek en et eks ep) = [] := by simp only [xB]; rw [if_neg h7, if_neg hlf]
    have l3 : ltD ek (.ofNat 1) = true ∨ ltD ek (.ofNat 1) = false ∧ ltD (.ofNat 5) ek = true := by
     by_cases q : .ofNat 1 ≤ ek
     ·exact .inr ⟨ZA q, UO (Int.lt_of_not_ge fun h => hlf ⟨q, h⟩)⟩
     ·exact .inl (UO (Int.lt_of_not_ge q))
    rw [hE]
    simp only [List.append_nil]
    refine zd (k.eval (by simp (disch := first | exact dis | fail) only [go_sem, seval, -reduceOfNat, -reduceNegSucc, drow, lvW, lvA, zb, h7']; exact rfl) ?_)
    simp only [za]
    rcases l3 with l1 | ⟨l1, l2⟩
    ·
     refine zd (k.eval (by simp (disch := first | exact dis | fail) only [go_sem, seval, -reduceOfNat, -reduceNegSucc, l1]; exact rfl) ?_)
     simp only [za]
     refine k.eval (by simp (disch := first | exact dis | fail) only [go_sem, seval, -reduceOfNat, -reduceNegSucc]; exact rfl) ?_
     try simp only [za, zj, Cut, if_true]
     apply wh [2] (Or.inr rfl)
     iterate 3 (simp (disch := first | exact dis | fail) only [go_sem, seval, -reduceOfNat, -reduceNegSucc, hpa] <;> exact rfl)
    ·
     refine zd (k.eval (by simp (disch := first | exact dis | fail) only [go_sem, seval, -reduceOfNat, -reduceNegSucc, l1, l2]; exact rfl) ?_)
     simp only [za]
     refine k.eval (by simp (disch := first | exact dis | fail) only [go_sem, seval, -reduceOfNat, -reduceNegSucc]; exact rfl) ?_
     try simp only [za, zj, Cut, if_true]
     apply wh [2] (Or.inr rfl)
     iterate 3 (simp (disch := first | exact dis | fail) only [go_sem, seval, -reduceOfNat, -reduceNegSucc, hpa] <;> exact rfl)
theorem WJ (d : DT) : zu (lvF d).2 = true := zt _
theorem p8 (d : DT) : zu (gG d) = true := by simp only [gG, zB, wu, zI, Bool.and_self]
theorem pa {P : Program} {w0 : World} (B : Bx P w0) {O : Orc} (hO : OrcOk P w0 O) (h19 : O 19 = some gItm) : ∀ (N : Nat), OrcOk P w0 (withG 18 (gLv N) O)
 | 0 => hO.withG Xy (La (b := true) p8 (fun _ _ _ h => h.2.2) WJ (fun d h => absurd h.1 (Nat.not_lt_zero _)) fun d k cs h => absurd h.1 (Nat.not_lt_zero _))
 | N + 1 => by
  have ih := pa B hO h19 N
  exact hO.withG Xy (La (b := true) p8 (fun _ _ _ h => h.2.2) WJ (fun d h => QY B ih rfl h19 d h.1 (by have := h.2.1; omega)) fun d k cs h => Qt B ih rfl h19 d k cs h.1 h.2.1 h.2.2)
set_option maxRecDepth 1000000
theorem zwB {P : Program} {E : Env} (h : vg P E) (p : Nat → Bool) : vg P { E with pure := p } := h
def envP : Env := { env with pure := fun _ => false }
theorem zxH {P : Program} (h : vg P env) : vg P envP := zwB h (fun _ => false)
theorem zwm : okV (.bool true) ((evT envP noO 100000).call 8 [] s0) = true := by decide +kernel
noncomputable def gWks : List AV → St → Option (AV × St) := orc0 (fun _ : Unit => []) (fun _ => True) (fun _ => .bool true)
theorem PJ {O : Orc} (h : O 8 = some gWks) (s : St) : (evW env O).call 8 [] s = some (.bool true, s) := by
 rw [zJ h, gWks, yM (fun _ _ _ => rfl) s () trivial rfl]
theorem zvb {P : Program} {w0 : World} (B : Bx P w0) : ∃ s1, SC P w0 8 [] (s00 0 false) (.bool true) s1 :=
 WF (E := envP) (n := 100000) (xr P w0) B.mixed B.glob (zxH B.env) zwm
theorem JP {P : Program} {w0 : World} (B : Bx P w0) {O : Orc} (hO : OrcOk P w0 O) : OrcOk P w0 (withG 8 gWks O) :=
 hO.withG yV (wP false (fun _ => rfl) (fun _ => rfl) fun _ _ => zvb B)
theorem Wx {P : Program} {w0 : World} (B : Bx P w0) : ∀ (N : Nat), N ≤ 100000 → OrcOk P w0 (withG 13 (km N) noO)
 | 0, _ => addL (xr P w0) lV (fun _ => rfl) fun x hx => absurd hx (Nat.not_lt_zero _)
 | N + 1, h => by
  have ih := Wx B N (by omega)
  have hi : OrcOk P w0 (withG 31 (gEqf N) (withG 13 (km N) noO)) := addL ih (QO _) (fun _ => rfl) fun x hx => zwo B ih rfl (by omega) x.1 x.2 hx
  exact addL (xr P w0) lV (fun _ => rfl) fun x hx => zzR B hi rfl rfl rfl x.1 x.2 hx
set_option maxRecDepth 100000
theorem Is.cast {C : Cx} {E : Env} {O : Orc} {c : St} {M : Nat} (_ : Is C E O c M) {i : Nat} {v v' : AV} (hv : ∀ φ x, VR φ v x → VR φ v' x) {r : List (Nat × AV)} {df : List Nat} {s : St} : Gc C ⟨tmL ((i, v) :: r), df⟩ s ⟨tmL ((i, v') :: r), df⟩ s := fun φ w a ha hf => ⟨φ, ha, ⟨fun j u hu => by
 by_cases hj : j = i
 ·subst hj
  have h1 : (tmL ((j, v) :: r)).get j = some v := by rw [yH]; simp
  have h2 : u = v' := by rw [yH] at hu; simpa using hu.symm
  subst h2
  exact hv _ _ (hf.tm _ _ h1)
 ·refine hf.tm j u ?_
  rw [yH] at hu ⊢
  simpa [hj] using hu, hf.size, hf.df⟩⟩
theorem zxY (i : Nat) (l : List DT) (φ : Phi) (x : Value) (h : VR φ (lvV i l) x) : VR φ (.lst l.length false (zm l)) x := by
 cases l with
 | nil =>
  simp only [lvV, List.length_nil, gV, VR] at h
  simp only [VR, List.length_nil]
  exact ⟨rfl, .inl ⟨trivial, _, h⟩⟩
 | cons a r =>
  simp only [lvV, List.length_cons, gV] at h
  simp only [List.length_cons]
  exact gr_lst h
theorem vMn2 (a b : Nat) : vMn false [.int .i64 (.ofNat a), .int .i64 (.ofNat b)] = some (.int .i64 (.ofNat (min a b))) := by
 show minV false (.int .i64 (.ofNat a)) [.int .i64 (.ofNat b)] = _
 simp only [minV, cond_false, ltI]
 cases h : Nat.blt b a with
 | true => have := zP.1 h; rw [Nat.min_eq_right (by omega)]; rfl
 | false =>
  have : ¬ b < a := fun e => by rw [zP.2 e] at h; cases h
  rw [Nat.min_eq_left (by omega)]; rfl
theorem zwu (a b : Nat) : vEqk (.flat [.i, .i]) false (.agg [.int .i64 (.ofNat a), .int .i64 (.ofNat b)]) (.agg [.int .i64 (.ofNat a), .int .i64 (.ofNat b)]) = some (.bool true) := by
 have h : ∀ n, Nat.beq n n = true := fun n => zw.2 rfl
 simp only [vEqk, eqV, vH, eq1, xW, cond_true, eqI, h]
 rfl
theorem lY (k n p q : Int) (t : List Nat) : xV (.mk k n t [] p) (.mk k n t [] q) = true := by
 rw [pk (.inl rfl)]
 simp only [jB, numD, y8, wa, zw6, pL, yO, Bool.and_self]
theorem Ve {O : Orc} {f N : Nat} (h : O f = some (km N)) (hN : 1 < N) (p : Nat) (s : St) : (evW env O).call f [.agg [.int .i64 (.ofNat 5), .int .i64 (.ofNat 0), .str [113, 117, 111, 116, 101], .lst 0 false [], .int .i64 (.ofNat p)], .agg [.int .i64 (.ofNat 5), .int .i64 (.ofNat 0), .str [113, 117, 111, 116, 101], .nils, .int .i64 (.ofNat 0)]] s = some (.bool true, s) := by
 have hn : zR (xz p) < N := hN
 rw [zJ h, km, yM Ys s (xz p, xz 0) hn (by simp only [gW, encD, wkL, wkV, xz, zb, zg, List.length_nil])]
 simp only [xz, lY]
theorem JT {P : Program} {w0 : World} (B : Bx P w0) {O : Orc} (hO : OrcOk P w0 O) (o16 : O 16 = none) (h8 : O 8 = some gWks) (h13 : O 13 = some (km 300)) (h15 : O 15 = some UE) (h17 : O 17 = some gLex) (h18 : O 18 = some (gLv 100000)) (b : List Nat) (hb : Byt b) :
  SC P w0 5 [.lst b.length false (zh b)] (H [] 0 true) (.bool true) (H [] 0 true) := by
 refine Is.sc hO B.mixed B.glob B.env 0 (show env.funs.get 5 = some f5 from rfl) (Nat.le_of_ble_eq_true rfl) xf fun C k => ?_
 have hok := PJ h8
 have ccut := @zQ env O _ _ o16 (show env.funs.get 16 = some f16 from rfl) rfl
 obtain ⟨n, hn⟩ : ∃ n, n = min b.length 3000 := ⟨_, rfl⟩
 obtain ⟨c, hc⟩ : ∃ c, c = b.take n := ⟨_, rfl⟩
 have hlen : c.length = n := by rw [hc, List.length_take]; omega
 have hpc : PreS c := ⟨by rw [hc]; exact hb.take n, by omega⟩
 have hslv := fun k => @YO b false k n (by omega)
 have e1 : (false && Nat.beq n b.length) = false := rfl
 rw [e1, ← hc] at hslv
 have cread := fun e s => J3 h15 hpc e s
 have clex := fun e s => Wc h17 hpc e s
 have herr := G4 hpc
 have hlv := XL hpc
 have hpos := Xr hpc
 have htk := Pi hpc
 have htl := Uq hpc
 have hR : (lexS c).2.1 ≠ 0 → qJ c = ([], (lexS c).2) := fun h => if_neg h
 rw [hlen] at cread clex herr hlv hpos
 generalize lexS c = L at clex herr hlv hpos htk hR htl
 generalize qJ c = R at cread herr hlv hR
 obtain ⟨ts, ⟨ge, gp⟩⟩ := L
 obtain ⟨l, ⟨fe, fp⟩⟩ := R
 simp only at herr hlv hpos htk hR htl
 simp only [u0, flt] at cread
 simp only [lexV, flt] at clex
 unfold f5
 simp only [Ko, Kg, Kn, Kd, Ke, Ki]
 refine zd (k.eval (by simp (disch := first | exact dis | fail) only [go_sem, seval, -reduceOfNat, -reduceNegSucc]; exact rfl) ?_)
 simp only [za]
 refine zd (k.eval (by simp (disch := first | exact dis | fail) only [go_sem, seval, -reduceOfNat, -reduceNegSucc, ccut, f16, vMn2, ← hn, hslv]; exact rfl) ?_)
 simp only [za]
 refine zd (k.eval (by simp (disch := first | exact dis | fail) only [go_sem, seval, -reduceOfNat, -reduceNegSucc, cread]; exact rfl) ?_)
 simp only [za]
 refine zd (k.eval (by simp (disch := first | exact dis | fail) only [go_sem, seval, -reduceOfNat, -reduceNegSucc, clex]; exact rfl) ?_)
 simp only [za]
 by_cases hg : ge = 0
 case neg =>
  have := hR hg
  simp only [Prod.mk.injEq] at this
  obtain ⟨rfl, rfl, rfl⟩ := this
  refine k.eval (by simp (disch := first | exact dis | fail) only [go_sem, seval, -reduceOfNat, -reduceNegSucc, hg, zwu, hok]; exact rfl) ?_
  try simp only [za, zj, Cut, if_true]
  apply ze (Or.inr rfl)
  iterate 5 (simp (disch := first | exact dis | fail) only [go_sem, seval, -reduceOfNat, -reduceNegSucc] <;> exact rfl)
 subst hg
 refine zd (k.eval (by simp (disch := first | exact dis | fail) only [go_sem, seval, -reduceOfNat, -reduceNegSucc]; exact rfl) ?_)
 simp only [za]
 by_cases hf : fe = 0
 case neg =>
  obtain ⟨g1, g2⟩ := herr rfl hf
  rcases g1 with rfl | rfl
  ·
   refine k.eval (by simp (disch := first | exact dis | fail) only [go_sem, seval, -reduceOfNat, -reduceNegSucc, hok, g2]; exact rfl) ?_
   try simp only [za, zj, Cut, if_true]
   apply ze (Or.inr rfl)
   iterate 5 (simp (disch := first | exact dis | fail) only [go_sem, seval, -reduceOfNat, -reduceNegSucc] <;> exact rfl)
  ·
   refine k.eval (by simp (disch := first | exact dis | fail) only [go_sem, seval, -reduceOfNat, -reduceNegSucc, hok, g2]; exact rfl) ?_
   try simp only [za, zj, Cut, if_true]
   apply ze (Or.inr rfl)
   iterate 5 (simp (disch := first | exact dis | fail) only [go_sem, seval, -reduceOfNat, -reduceNegSucc] <;> exact rfl)
 subst hf
 obtain ⟨q1, q2⟩ := hlv rfl rfl
 refine zd (k.eval (by simp (disch := first | exact dis | fail) only [go_sem, seval, -reduceOfNat, -reduceNegSucc]; exact rfl) ?_)
 simp only [za]
 refine zd (k.eval (by simp (disch := first | exact dis | fail) only [go_sem, seval, -reduceOfNat, -reduceNegSucc]; exact rfl) ?_)
 simp only [za]
 have hnl : zO l ≤ 15000 := by omega
 have hlen2 := wo l
 refine xO ⟨tmL [(7, .lst (zA l).length false (zm (zA l))), (5, .lst ts.length false (yf ts))], []⟩ (H [] 0 true) ?_ ?_
 ·
  refine zd (k.eval (by simp (disch := first | exact dis | fail) only [go_sem, seval, -reduceOfNat, -reduceNegSucc]; exact rfl) ?_)
  simp only [za]
  refine zW (yb (k.gcL [] [8, 7, 5, 3] true (fr1 := ⟨tmL [(8, .int .i64 (.ofNat 0)), (7, lvV 0 []), (5, .lst ts.length false (yf ts)), (3, .lst l.length false (zm l))], []⟩) (s1 := H (lvO []) 0 true) (by simp (disch := first | exact dis | fail) only [go_sem, seval, -reduceOfNat, -reduceNegSucc, lvV, lvO, gV_z, gO_z, zg, List.length_nil]) ?_))
  refine yh (fun x : Nat × List DT => l.length - x.1) (fun x => ⟨tmL [(8, .int .i64 (.ofNat x.1)), (7, lvV 0 x.2), (5, .lst ts.length false (yf ts)), (3, .lst l.length false (zm l))], []⟩) (fun x => H (lvO x.2) 0 true) (fun x => x.1 ≤ l.length ∧ x.2 ++ zA (l.drop x.1) = zA l ∧ x.2.length + zO (l.drop x.1) ≤ zO l) (fun x hx => ?_) (0, []) ⟨Nat.zero_le _, rfl, by simp⟩
  obtain ⟨i, acc⟩ := x
  obtain ⟨g1, g2, g3⟩ := hx
  simp only at g1 g2 g3 ⊢
  rcases xb l i with ⟨hi, hd⟩ | ⟨u, hi, hd⟩
  ·have hlt : ¬ i < l.length := by omega
   rw [hd] at g2; simp only [zA, List.append_nil] at g2
   rw [← g2]
   have hfin : Gc C ⟨tmL [(7, lvV 0 acc), (5, .lst ts.length false (yf ts))], []⟩ (H (lvO acc) 0 true) ⟨tmL [(7, .lst acc.length false (zm acc)), (5, .lst ts.length false (yf ts))], []⟩ (H [] 0 true) := fun φ w a ha hf => by
    obtain ⟨φ1, h1, h2⟩ := k.cast (zxY 0 acc) φ w a ha hf
    have hgc : Gc C ⟨tmL [(7, .lst acc.length false (zm acc)), (5, .lst ts.length false (yf ts))], []⟩ (H (lvO acc) 0 true) ⟨tmL [(7, .lst acc.length false (zm acc)), (5, .lst ts.length false (yf ts))], []⟩ (H [] 0 true) := by
     cases acc with
     | nil =>
      refine k.gcs (keep := []) (live := [7, 5]) (md := true) ?_
      simp (disch := first | exact dis | fail) only [go_sem, seval, -reduceOfNat, -reduceNegSucc, lvO, gO_z, List.length_nil, zg]
     | cons a0 ar =>
      refine k.gcs (keep := []) (live := [7, 5]) (md := true) ?_
      simp (disch := first | exact dis | fail) only [go_sem, seval, -reduceOfNat, -reduceNegSucc, lvO, gO_s, List.length_cons]
    exact hgc φ1 w a h1 h2
   cases acc with
   | nil =>
    refine k.eval (by simp (disch := first | exact dis | fail) only [go_sem, seval, -reduceOfNat, -reduceNegSucc, hlt, lvV, lvO, gV_z, gO_z]; exact rfl) ?_
    try simp only [za, zj, Cut]
    refine fun φ w a ha hf => ?_
    obtain ⟨φ1, h1, h2⟩ := (by
     refine k.gcs (keep := []) (live := [7, 5]) (md := true) ?_
     simp (disch := first | exact dis | fail) only [go_sem, seval, -reduceOfNat, -reduceNegSucc, lvV, lvO, gV_z, gO_z, List.length_nil] : Gc C _ _ ⟨tmL [(7, lvV 0 []), (5, .lst ts.length false (yf ts))], []⟩ (H (lvO []) 0 true)) φ w a ha hf
    exact hfin φ1 w a h1 h2
   | cons a0 ar =>
    have hp1 := zt (a0 :: ar)
    refine k.eval (by simp (disch := first | exact dis | fail) only [go_sem, seval, -reduceOfNat, -reduceNegSucc, hlt, lvV, lvO, gV_s, gO_s]; exact rfl) ?_
    try simp only [za, zj, Cut]
    refine fun φ w a ha hf => ?_
    obtain ⟨φ1, h1, h2⟩ := (by
     refine k.gcs (keep := [0]) (live := [7, 5]) (md := true) ?_
     simp (disch := first | exact dis | fail) only [go_sem, seval, -reduceOfNat, -reduceNegSucc, lvV, lvO, gV_s, gO_s, List.length_cons, hp1] : Gc C _ _ ⟨tmL [(7, lvV 0 (a0 :: ar)), (5, .lst ts.length false (yf ts))], []⟩ (H (lvO (a0 :: ar)) 0 true)) φ w a ha hf
    exact hfin φ1 w a h1 h2
  ·rw [hd] at g2 g3
   simp only [zA, zO] at g2 g3
   have hnu : zR u < 100000 := by omega
   have hlu := ww u
   have hpu := zt (zC u)
   have hdr : yw (i * 5) (zm l) = zT u ++ zm (l.drop (i + 1)) := by rw [yR, hd, zF]
   cases acc with
   | nil =>
    have hc := pq h18 (d := u) hnu (by omega)
    generalize zC u = lu at g2 hlu hpu hc
    obtain ⟨uk, un, ut, uks, up⟩ := u
    simp only [zb] at hc
    cases lu with
    | nil =>
     simp only [List.length_nil, gV_z, if_true] at hc
     refine k.eval (by simp (disch := first | exact dis | fail) only [go_sem, seval, -reduceOfNat, -reduceNegSucc, hi, lvV, lvO, gV_z, gO_z, zb, hdr, hc]; exact rfl) ?_
     try simp only [za]
     refine ⟨(i + 1, []), ⟨by simp only; omega, g2, by simp only [List.length_nil] at g3 ⊢; omega⟩, by simp only; omega, ?_⟩
     refine k.gcs (keep := []) (live := [8, 7, 5, 3]) (md := true) ?_
     simp (disch := first | exact dis | fail) only [go_sem, seval, -reduceOfNat, -reduceNegSucc, lvV, lvO, gV_z, gO_z]
    | cons b0 br =>
     simp only [List.length_cons, gV_s, Nat.succ_ne_zero, if_false] at hc
     refine k.eval (by simp (disch := first | exact dis | fail) only [go_sem, seval, -reduceOfNat, -reduceNegSucc, hi, lvV, lvO, gV_z, gO_z, zb, hdr, hc]; exact rfl) ?_
     try simp only [za]
     refine ⟨(i + 1, b0 :: br), ⟨by simp only; omega, g2, by simp only [List.length_cons, List.length_nil] at g3 hlu ⊢; omega⟩, by simp only; omega, ?_⟩
     refine k.gcs (keep := [0]) (live := [8, 7, 5, 3]) (md := true) ?_
     simp (disch := first | exact dis | fail) only [go_sem, seval, -reduceOfNat, -reduceNegSucc, lvV, lvO, gV_s, gO_s, hpu]
   | cons a0 ar =>
    have hp1 := zt (a0 :: ar)
    have hp2 : zu (zm (a0 :: ar) ++ zm (zC u)) = true := by rw [yB, hp1, hpu]; rfl
    simp only [List.length_cons] at g3
    have hc := fun st n m md id hi hb => kh h18 (d := u) (q := ar.length) hnu (by omega) hp1 st n m md id hi hb
    generalize zC u = lu at g2 hlu hpu hc hp2
    obtain ⟨uk, un, ut, uks, up⟩ := u
    simp only [zb] at hc
    refine k.eval (by simp (disch := first | exact dis | fail) only [go_sem, seval, -reduceOfNat, -reduceNegSucc, hi, lvV, lvO, gV_s, gO_s, zb, hdr, hc]; exact rfl) ?_
    try simp only [za]
    refine ⟨(i + 1, (a0 :: ar) ++ lu), ⟨by simp only; omega, by rw [List.append_assoc]; exact g2, by simp only [List.length_append, List.length_cons] at g3 hlu ⊢; omega⟩, by simp only; omega, ?_⟩
    refine k.gcs (keep := [1]) (live := [8, 7, 5, 3]) (md := true) ?_
    have e1 : ((a0 :: ar) ++ lu).length = ar.length + lu.length + 1 := by simp only [List.length_append, List.length_cons]; omega
    have e2 : ar.length + 1 + lu.length = ar.length + lu.length + 1 := by omega
    simp only [lvV, lvO, e1, gV_s, gO_s, yi]
    simp (disch := first | exact dis | fail) only [go_sem, seval, -reduceOfNat, -reduceNegSucc, hp2, e2]
 have hLl := qh l
 rw [q1]
 rw [q1] at hLl
 generalize hLV : tkvL 0 ts = LV at hLl
 refine zd (k.eval (by simp (disch := first | exact dis | fail) only [go_sem, seval, -reduceOfNat, -reduceNegSucc]; exact rfl) ?_)
 simp only [za]
 refine zd (k.eval (by simp (disch := first | exact dis | fail) only [go_sem, seval, -reduceOfNat, -reduceNegSucc]; exact rfl) ?_)
 simp only [za]
 refine xO ⟨tmL [(9, .int .i64 (.ofNat LV.length)), (7, .lst LV.length false (zm LV))], []⟩ (H [] 0 true) ?_ ?_
 ·
  refine zd (k.eval (by simp (disch := first | exact dis | fail) only [go_sem, seval, -reduceOfNat, -reduceNegSucc]; exact rfl) ?_)
  simp only [za]
  have htn := htl.1
  refine zW (yb (k.gcL [] [11, 10, 9, 7, 5] true (fr1 := ⟨tmL [(11, .int .i64 (.ofNat 0)), (10, .int .i64 (.ofNat 0)), (9, .int .i64 (.ofNat 0)), (7, .lst LV.length false (zm LV)), (5, .lst ts.length false (yf ts))], []⟩) (s1 := H [] 0 true) (by simp (disch := first | exact dis | fail) only [go_sem, seval, -reduceOfNat, -reduceNegSucc]) ?_))
  refine yh (fun x : Nat × Nat × Nat => ts.length - x.1) (fun x => ⟨tmL [(11, .int .i64 (.ofNat x.1)), (10, .int .i64 (.ofNat x.2.1)), (9, .int .i64 (.ofNat x.2.2)), (7, .lst LV.length false (zm LV)), (5, .lst ts.length false (yf ts))], []⟩) (fun x => H [] 0 true) (fun x => x.1 ≤ ts.length ∧ x.2.1 ≤ x.1 ∧ x.2.2 ≤ LV.length ∧ tkvL x.2.1 (ts.drop x.1) = LV.drop x.2.2) (fun x hx => ?_) (0, 0, 0) ⟨Nat.zero_le _, Nat.zero_le _, Nat.zero_le _, hLV⟩
  obtain ⟨i, m, q⟩ := x
  obtain ⟨g1, g2, g3, g4⟩ := hx
  simp only at g1 g2 g3 g4 ⊢
  rcases xb ts i with ⟨hi, hd⟩ | ⟨tk, hi, hd⟩
  ·have hlt : ¬ i < ts.length := by omega
   rw [hd] at g4
   simp only [tkvL] at g4
   have hq : q = LV.length := by
    have := congrArg List.length g4
    simp at this; omega
   subst hq
   refine k.eval (by simp (disch := first | exact dis | fail) only [go_sem, seval, -reduceOfNat, -reduceNegSucc, hlt]; exact rfl) ?_
   try simp only [za, zj, Cut]
   refine k.gcs (keep := []) (live := [9, 7]) (md := true) ?_
   simp (disch := first | exact dis | fail) only [go_sem, seval, -reduceOfNat, -reduceNegSucc]
  ·obtain ⟨hk7, htd⟩ := htk tk (List.mem_of_mem_drop (by rw [hd]; exact List.mem_cons_self))
   rw [hd, tkvL] at g4
   obtain ⟨tk, tp, ⟨dk, dn, dt, dks, dp⟩⟩ := tk
   simp only at hk7
   by_cases h5 : tk = 5
   ·subst h5
    have e : stM m ⟨5, tp, ⟨dk, dn, dt, dks, dp⟩⟩ = m + 1 := rfl
    rw [e, if_neg (by omega), List.nil_append] at g4
    refine k.eval (by simp (disch := first | exact dis | fail) only [go_sem, seval, -reduceOfNat, -reduceNegSucc, hi, hd, zn, zl, zi]; exact rfl) ?_
    try simp only [za]
    refine ⟨(i + 1, m + 1, q), ⟨hi, by simp only; omega, g3, g4⟩, by simp only; omega, ?_⟩
    refine k.gcs (keep := []) (live := [11, 10, 9, 7, 5]) (md := true) ?_
    simp (disch := first | exact dis | fail) only [go_sem, seval, -reduceOfNat, -reduceNegSucc]
   by_cases h2 : tk = 2
   ·subst h2
    have e : stM m ⟨2, tp, ⟨dk, dn, dt, dks, dp⟩⟩ = 0 := rfl
    have e2 : uC ⟨2, tp, ⟨dk, dn, dt, dks, dp⟩⟩ = [] := rfl
    rw [e, if_pos rfl, e2, List.nil_append] at g4
    cases m with
    | zero =>
     refine k.eval (by simp (disch := first | exact dis | fail) only [go_sem, seval, -reduceOfNat, -reduceNegSucc, hi, hd, zn, zl, zi]; exact rfl) ?_
     try simp only [za]
     refine ⟨(i + 1, 0, q), ⟨hi, by simp only; omega, g3, g4⟩, by simp only; omega, ?_⟩
     refine k.gcs (keep := []) (live := [11, 10, 9, 7, 5]) (md := true) ?_
     simp (disch := first | exact dis | fail) only [go_sem, seval, -reduceOfNat, -reduceNegSucc]
    | succ m =>
     refine k.eval (by simp (disch := first | exact dis | fail) only [go_sem, seval, -reduceOfNat, -reduceNegSucc, hi, hd, zn, zl, zi, Nat.zero_lt_succ]; exact rfl) ?_
     try simp only [za]
     refine ⟨(i + 1, 0, q), ⟨hi, by simp only; omega, g3, g4⟩, by simp only; omega, ?_⟩
     refine k.gcs (keep := []) (live := [11, 10, 9, 7, 5]) (md := true) ?_
     simp (disch := first | exact dis | fail) only [go_sem, seval, -reduceOfNat, -reduceNegSucc]
   have e : stM m ⟨tk, tp, ⟨dk, dn, dt, dks, dp⟩⟩ = m := by unfold stM; simp only; rw [if_neg h5, if_neg h2]
   rw [e] at g4
   by_cases hm : m = 0
   case neg =>
    have hm2 : 0 < m := by omega
    rw [if_neg hm, List.nil_append] at g4
    by_cases h7 : tk = 7
    ·subst h7
     refine k.eval (by simp (disch := first | exact dis | fail) only [go_sem, seval, -reduceOfNat, -reduceNegSucc, hi, hd, zn, zl, zi, hm2]; exact rfl) ?_
     try simp only [za]
     refine ⟨(i + 1, m, q), ⟨hi, by simp only; omega, g3, g4⟩, by simp only; omega, ?_⟩
     refine k.gcs (keep := []) (live := [11, 10, 9, 7, 5]) (md := true) ?_
     simp (disch := first | exact dis | fail) only [go_sem, seval, -reduceOfNat, -reduceNegSucc]
    by_cases h3 : tk = 3
    ·subst h3
     refine k.eval (by simp (disch := first | exact dis | fail) only [go_sem, seval, -reduceOfNat, -reduceNegSucc, hi, hd, zn, zl, zi, hm2]; exact rfl) ?_
     try simp only [za]
     refine ⟨(i + 1, m, q), ⟨hi, by simp only; omega, g3, g4⟩, by simp only; omega, ?_⟩
     refine k.gcs (keep := []) (live := [11, 10, 9, 7, 5]) (md := true) ?_
     simp (disch := first | exact dis | fail) only [go_sem, seval, -reduceOfNat, -reduceNegSucc]
    refine k.eval (by simp (disch := first | exact dis | fail) only [go_sem, seval, -reduceOfNat, -reduceNegSucc, hi, hd, zn, zl, zi, h2, h3, h5, h7]; exact rfl) ?_
    try simp only [za]
    refine ⟨(i + 1, m, q), ⟨hi, by simp only; omega, g3, g4⟩, by simp only; omega, ?_⟩
    refine k.gcs (keep := []) (live := [11, 10, 9, 7, 5]) (md := true) ?_
    simp (disch := first | exact dis | fail) only [go_sem, seval, -reduceOfNat, -reduceNegSucc]
   subst hm
   rw [if_pos rfl] at g4
   by_cases h7 : tk = 7
   ·subst h7
    obtain ⟨⟨lk, ln, lt, lp, hl1, hl2, hl3⟩, hps⟩ := htd rfl
    simp only [DT.mk.injEq] at hl1
    obtain ⟨rfl, rfl, rfl, rfl, rfl⟩ := hl1
    simp only [posD] at hps
    subst hps
    have e2 : uC ⟨7, tp, ⟨.ofNat lk, dn, dt, [], .ofNat tp⟩⟩ = [⟨.ofNat lk, dn, dt, [], .ofNat tp⟩] := rfl
    rw [e2] at g4
    rcases xb LV q with ⟨_, hd2⟩ | ⟨u, hi2, hd2⟩
    ·rw [hd2] at g4; cases g4
    rw [hd2] at g4
    simp only [List.cons_append, List.nil_append, List.cons.injEq] at g4
    obtain ⟨rfl, g4⟩ := g4
    have hnq : ¬ LV.length ≤ q := by omega
    have hdr : yw (q * 5) (zm LV) = zT (.mk (.ofNat lk) dn dt [] (.ofNat tp)) ++ zm (LV.drop (q + 1)) := by rw [yR, hd2, zF]
    have hs := gu (f := 13) h13 (a := .mk (.ofNat lk) dn dt [] (.ofNat tp)) (b := .mk (.ofNat lk) dn dt [] (.ofNat tp)) (by show 1 + 0 < 300; decide)
    rw [lY] at hs
    simp only [zb, zg, List.length_nil] at hs
    refine k.eval (by simp (disch := first | exact dis | fail) only [go_sem, seval, -reduceOfNat, -reduceNegSucc, hi, hd, zn, zl, zi, hi2, hdr, zb, zg, List.length_nil, hs]; exact rfl) ?_
    try simp only [za]
    refine ⟨(i + 1, 0, q + 1), ⟨hi, by simp only; omega, hi2, g4⟩, by simp only; omega, ?_⟩
    refine k.gcs (keep := []) (live := [11, 10, 9, 7, 5]) (md := true) ?_
    simp (disch := first | exact dis | fail) only [go_sem, seval, -reduceOfNat, -reduceNegSucc]
   by_cases h3 : tk = 3
   ·subst h3
    have e2 : uC ⟨3, tp, ⟨dk, dn, dt, dks, dp⟩⟩ = [xz tp] := rfl
    rw [e2] at g4
    rcases xb LV q with ⟨_, hd2⟩ | ⟨u, hi2, hd2⟩
    ·rw [hd2] at g4; cases g4
    rw [hd2] at g4
    simp only [List.cons_append, List.nil_append, List.cons.injEq] at g4
    obtain ⟨rfl, g4⟩ := g4
    have hnq : ¬ LV.length ≤ q := by omega
    have hdr : yw (q * 5) (zm LV) = zT (xz tp) ++ zm (LV.drop (q + 1)) := by rw [yR, hd2, zF]
    have hs := Ve (f := 13) h13 (by decide) tp
    refine k.eval (by simp (disch := first | exact dis | fail) only [go_sem, seval, -reduceOfNat, -reduceNegSucc, hi, hd, zn, zl, zi, hi2, hdr, xz, zb, zg, List.length_nil, hs]; exact rfl) ?_
    try simp only [za]
    refine ⟨(i + 1, 0, q + 1), ⟨hi, by simp only; omega, hi2, g4⟩, by simp only; omega, ?_⟩
    refine k.gcs (keep := []) (live := [11, 10, 9, 7, 5]) (md := true) ?_
    simp (disch := first | exact dis | fail) only [go_sem, seval, -reduceOfNat, -reduceNegSucc]
   have e2 : uC ⟨tk, tp, ⟨dk, dn, dt, dks, dp⟩⟩ = [] := by unfold uC; simp only; rw [if_neg h7, if_neg h3]
   rw [e2, List.nil_append] at g4
   refine k.eval (by simp (disch := first | exact dis | fail) only [go_sem, seval, -reduceOfNat, -reduceNegSucc, hi, hd, zn, zl, zi, h2, h3, h5, h7]; exact rfl) ?_
   try simp only [za]
   refine ⟨(i + 1, 0, q), ⟨hi, by simp only; omega, g3, g4⟩, by simp only; omega, ?_⟩
   refine k.gcs (keep := []) (live := [11, 10, 9, 7, 5]) (md := true) ?_
   simp (disch := first | exact dis | fail) only [go_sem, seval, -reduceOfNat, -reduceNegSucc]
 ·
  refine k.eval (by simp (disch := first | exact dis | fail) only [go_sem, seval, -reduceOfNat, -reduceNegSucc, hok]; exact rfl) ?_
  try simp only [za, zj, Cut, if_true]
  apply ze (Or.inr rfl)
  iterate 5 (simp (disch := first | exact dis | fail) only [go_sem, seval, -reduceOfNat, -reduceNegSucc] <;> exact rfl)
open Go.RowKit (Below)
set_option maxRecDepth 100000
theorem Qm {P : Program} {w0 : World} (B : Bx P w0) (A : AtoiOk P w0) (b : List Nat) (hb : Byt b) :
  SC P w0 5 [.lst b.length false (zh b)] (H [] 0 true) (.bool true) (H [] 0 true) := by
 have h1 := JP B (xr P w0)
 have h2 := h1.withG yV ((Wx B 300 (by omega)).ok 13 _ rfl)
 have h3 := QF B A h2
 have h4 := Yu B h3
 have h5 := Kb B h4
 have h6 := pa B h5 rfl 100000
 exact JT B h6 rfl rfl rfl rfl rfl rfl b hb
theorem JM {P : Program} {w : World} {f : Nat} {args : List AV} {v : AV} {xs : List Value} (h : SC P w f args (H [] 0 true) v (H [] 0 true)) (hx : VRL (phiW w) args xs) :
  Calls P f xs.toArray w fun e w' => ∃ φ' x, e = .returned x ∧ VR φ' v x ∧ Below w.heap.size w w' := by
 refine callsIn_wide.1 (CallsIn.mono (h.2 _ w xs (JB P w true) (H_wf _ _ _) (fun _ _ => rfl) hx Fence.wide 0 ⟨fun _ => trivial, rfl, rfl⟩) ?_)
 rintro e w' ⟨φ', x, rfl, k1, k2⟩
 exact ⟨φ', x, rfl, k2, k1.rel.base⟩
theorem tokens_calls {P : Program} {w : World} (B : Bx P w) (A : AtoiOk P w) {b : List Nat} (hb : Byt b) {v : Value} (hv : VR (phiW w) (.lst b.length false (zh b)) v) :
  Calls P 5 #[v] w fun e w' => e = .returned (.bool true) ∧ Below w.heap.size w w' := by
 have := JM (xs := [v]) (Qm B A b hb) (VRL.cons hv (VRL.nil _))
 refine Calls.mono this ?_
 rintro e w' ⟨φ', x, rfl, h1, h2⟩
 simp only [VR] at h1
 exact ⟨by rw [h1], h2⟩
def BOk := { n : Nat // n < 256 }
def Ll (n : BOk) : List AV := [.int .u8 (.ofNat n.1)]
theorem hY : ∀ l : List BOk, y6 Ll l = zh (l.map (·.1))
 | [] => rfl
 | n :: r => by simp only [List.map_cons, y6, zh, hY r, Ll, List.cons_append, List.nil_append]
theorem abs_bytes {H0 : Type} {enc : TypeId × Value → H0} {P : Program} {W : World} {sp : Nat → Bool} {held : Bool} {tI tK : TypeId} (hI : P.underlying tI = some (.int .u8)) (hc : P.cellsOf tI = 1) (hK : P.underlying tK = some (.slice tI)) (hs : sp = fun _ => true) {n : Nat} {cs : List Value} {x : DataW H0 × List MemPlace} (h : DataW.trod enc P W 0 sp held n tK cs = some x) :
  ∃ b v, cs = [v] ∧ Byt b ∧ VR (phiW W) (.lst b.length false (zh b)) v := by
 obtain ⟨ds, v, h1, h2, _⟩ := abs_slice (f := Ll) (k := 1) (by omega) hc hK (fun _ => rfl) (fun m _ cs x h => by
  obtain ⟨z, rfl, _, hw⟩ := DataW.trod_int hI h
  simp only [Lit.wf, Bool.and_eq_true, decide_eq_true_eq] at hw
  cases z with
  | negSucc k => exact absurd hw.1 (by show ¬ ((0 : Int) ≤ _); simp [Int.negSucc_lt_zero])
  | ofNat k =>
   have : (Int.ofNat k) ≤ 255 := hw.2
   have hk : k < 256 := by have : (k : Int) ≤ 255 := this; omega
   exact ⟨⟨k, hk⟩, VRL.cons (by simp only [VR]) (VRL.nil _)⟩) hs h
 refine ⟨ds.map (·.1), v, h1, fun y hy => ?_, ?_⟩
 ·obtain ⟨d, _, rfl⟩ := List.mem_map.1 hy
  exact d.2
 ·rw [hY] at h2; rw [List.length_map]; exact h2
theorem laid_iface {H0 : Type} {enc : TypeId × Value → H0} {P : Program} {w : World} {base : Nat} {spare : Nat → Bool} {held : Bool} {fuel : Nat} {t : TypeId} {ms : Array (String × TypeId)} {cs : List Value} {name : String} {d : DataW H0} {p : List MemPlace} (ht : P.underlying t = some (.interface ms)) (h : DataW.trod enc P w base spare held fuel t cs = some (.iface name d, p)) : ∃ u v, cs = [.iface u v] := by
 cases fuel with
 | zero => simp [DataW.trod] at h
 | succ n =>
  unfold DataW.trod at h
  rw [ht] at h
  split at h <;> simp_all
theorem G9 {P : Program} {w0 w : World} {name : String} {cs : Array Value} (hb : Below w0.heap.size w0 w) (h : w0.var? P name = some cs) : w.var? P name = some cs := by
 unfold World.var? at h ⊢
 cases hg : P.globalNamed name with
 | none => rw [hg] at h; cases h
 | some g =>
  rw [hg] at h
  simp only [Option.bind_some] at h ⊢
  cases hh : w0.heap[g]? with
  | none => rw [hh] at h; cases h
  | some o =>
   rw [hh] at h
   rw [hb.block g (Array.getElem?_eq_some_iff.1 hh).1, hh]
   exact h
theorem atoiOk_of {P : Program} {w0 : World} {tp tq : TypeId} {p q : Value} (fn : ∃ fn, P.funcs[86]? = some fn ∧ fn.body.isSome = true ∧ (fn.name == "runtime.NumGoroutine") = false)
  (hok : ∀ (s : ByteArray), s.size ≤ 9223372036854775806 → ∀ v, Lib.atoiAll s.data.toList = .ok v → ∀ w, Calls P 86 #[.string s] w fun e w' => e = .returned (.tuple #[.int .i64 v, .nilIface]) ∧ (w' = w ∨ ∃ t, w' = Lib.bytesWorld w 5 t))
  (hsy : ∀ (s : ByteArray), s.size ≤ 281474976710656 → (∀ v, Lib.atoiAll s.data.toList ≠ .ok v) → Lib.atoiAll s.data.toList ≠ .range → ∀ (tp : TypeId) (p : Value) (w : World), w.var? P "strconv.ErrSyntax" = some #[.iface tp p] → Calls P 86 #[.string s] w fun e w' => ∃ N, e = .returned (.tuple #[.int .i64 0, .iface 159 (.pointer (some ⟨N, 0, none⟩))]) ∧ w.heap.size ≤ N ∧ (∃ o, w'.heap[N]? = some o) ∧ Below w.heap.size w w')
  (hrg : ∀ (s : ByteArray), s.size ≤ 281474976710656 → Lib.atoiAll s.data.toList = .range → ∀ (tp : TypeId) (p : Value) (w : World), w.var? P "strconv.ErrRange" = some #[.iface tp p] → Calls P 86 #[.string s] w fun e w' => ∃ N, e = .returned (.tuple #[.int .i64 (Lib.atoiSat s.data.toList), .iface 159 (.pointer (some ⟨N, 0, none⟩))]) ∧ w.heap.size ≤ N ∧ (∃ o, w'.heap[N]? = some o) ∧ Below w.heap.size w w')
  (v1 : w0.var? P "strconv.ErrSyntax" = some #[.iface tp p]) (v2 : w0.var? P "strconv.ErrRange" = some #[.iface tq q]) : AtoiOk P w0 := by
 refine ⟨fn, fun s w hb hs hk => ?_, fun s w hb hs hk => ?_⟩
 ·simp only [xx, gL] at hk ⊢
  cases h : Lib.atoiAll s.data.toList with
  | ok v =>
   refine Calls.mono (hok s (by omega) v h w) ?_
   rintro e w' ⟨rfl, rfl | ⟨t, rfl⟩⟩
   ·exact ⟨Below.refl _ _, rfl⟩
   ·exact ⟨Lib.bytesWorld_below _ _ _, rfl⟩
  | _ => rw [h] at hk; cases hk
 ·simp only [xx, gL] at hk ⊢
  cases h : Lib.atoiAll s.data.toList with
  | ok v => rw [h] at hk; cases hk
  | range =>
   refine Calls.mono (hrg s hs h tq q w (G9 hb v2)) ?_
   rintro e w' ⟨N, rfl, h1, ⟨o, h2⟩, h3⟩
   exact ⟨h3, N, rfl, h1, (Array.getElem?_eq_some_iff.1 h2).1⟩
  | _ =>
   refine Calls.mono (hsy s hs (by rw [h]; intro v e; cases e) (by rw [h]; intro e; cases e) tp p w (G9 hb v1)) ?_
   rintro e w' ⟨N, rfl, h1, ⟨o, h2⟩, h3⟩
   exact ⟨h3, N, rfl, h1, (Array.getElem?_eq_some_iff.1 h2).1⟩
end Go.Proofs.YthcmnajcjapjbaaGreatDoor.Ev

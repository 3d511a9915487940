/- Contracts of functions that MatchNames calls: what a call answers, for all data, by symbolic evaluation. No conditions of its own. -/
import Derived.Test.YtionbncghjdeoaaGreatDoorWD
import Derived.Test.YtionbncghjdeoaaGreatDoorWB
import Derived.Test.YtionbncghjdeoaaGreatDoorWA
import Derived.Test.YtionbncghjdeoaaGreatDoorEvG
import Derived.ChangeArms
set_option linter.unusedSimpArgs false
set_option linter.unusedVariables false
set_option linter.defProp false
set_option maxHeartbeats 4000000
open List renaming append_nil → zmw, length_append → yd, append_assoc → zmI, nil_append → zmy, cons_append → y9, getElem?_eq_getElem → yl, not_mem_nil → zmD, mem_cons → zmE, length_nil → y7, length_cons → y8, drop_eq_getElem_cons → zmL, take_of_length_le → zG, map_cons → zA, take_append_drop → zmT, mem_of_mem_drop → zmC, getElem_mem → zlc, length_drop → zmB, map_nil → zV, length → yC, mem_append_left → zmN
open Nat renaming lt_succ_self → yx, le_of_ble_eq_true → zmv, le_refl → zp, zero_mod → zmP, or_zero → zmU, zero_or → zmQ, le_succ → zmO, zero_le → zL, log2 → zlb, le_trans → zt, zero_add → yy, not_lt_zero → zms, testBit_or → yv, testBit_shiftLeft → zmu, testBit → yS
open Bool renaming cond_self → zmR, or_eq_true → zn, and_self → xb, and_eq_true → zl, and_true → zld, false_or → zle, true_or → zlf
open List.cons renaming injEq → xe
open Array renaming getElem?_toList → zy
namespace Go.Proofs.YtionbncghjdeoaaGreatDoor.Ev
variable {P : Program} {w0 w : World} {E : Env} {O : Orc} {v : AV} {d : DT} {id n : Nat}
open T
set_option maxRecDepth 100000
theorem Vg : ∀ {a b c d : List AV}, kN a c = true → kN b d = true → kN (a ++ b) (c ++ d) = true
 | [], _, [], _, _, h => h
 | [], _, _ :: _, _, h, _ => by simp [kN] at h
 | _ :: _, _, [], _, h, _ => by simp [kN] at h
 | x :: a, b, y :: c, d, h, h2 => by
  simp only [kN, zl, y9] at h ⊢; exact ⟨h.1, Vg h.2 h2⟩
theorem Ve (n : Int) : eqI n n = true := by
 cases n <;> simp [eqI]
theorem pM (k : IntKind) : vX k k = true := by cases k <;> rfl
mutual
theorem Vh : ∀ d : DT, kN (xu d) (xu d) = true
 | .mk k n t xs p => by
  simp only [xo, kN, eqW, pM, Ve, kM, Wy xs, xb, zld]; simp
theorem Wy : ∀ l : List DT, kN (xC l) (xC l) = true
 | [] => by simp only [vT, kN]
 | x :: r => by
  rw [q7]; exact Vg (Vh x) (Wy r)
end
theorem XP {α : Type} {f : α → List AV} (h : ∀ x, kN (f x) (f x) = true) : ∀ l : List α, kN (xz f l) (xz f l) = true
 | [] => rfl
 | x :: r => by simp only [xz]; exact Vg (h x) (XP h r)
theorem zrj (esz id k : Nat) : eqW (gSl esz id k) (gSl esz id k) = true := by
 cases k <;> simp [gSl, eqW]
theorem zrh (vs : List VarT) (oid k : Nat) (next pos made e : Int) : eqO (some (ua vs (gSl 5 oid k) next pos made e)) (some (ua vs (gSl 5 oid k) next pos made e)) = true := by
 have h := XP (f := wd) (fun v => by simp only [wd, kN, eqW, pM, Ve, kM, xb]) vs
 simp only [ua, eqO, kN, eqW, h, zrj, pM, Ve, xb, zld]; simp
theorem zri (own : List DT) (t : Nat) : eqO (some (.row t (xz xu own) true false)) (some (.row t (xz xu own) true false)) = true := by
 simp only [eqO, XP Vh own, zld]; simp
theorem X1 {m : Nat} (h : m ≠ 0) : m.testBit (zlb m) = true := Hr h
theorem UZ (sA sB : St) (i : Nat) (L : List (Nat × Option AObj)) : ∃ L', YO sA sB i (osA L) = osA L' ∧ ∀ j, xx L' j = xx L j ∨ (j = i ∧ eqO (sA.objs.get i) (sB.objs.get i) = false) := by
 unfold YO; cases h : eqO (sA.objs.get i) (sB.objs.get i) with
 | true => exact ⟨L, rfl, fun j => .inl rfl⟩
 | false =>
  refine ⟨(i, none) :: L, rfl, fun j => ?_⟩; by_cases hj : j = i
  ·exact .inr ⟨hj, rfl⟩
  ·rw [xi, if_neg hj]; exact .inl rfl
theorem Wt (sA sB : St) : ∀ (k i : Nat) (L : List (Nat × Option AObj)), ∃ L', Zj sA sB k i (osA L) = osA L' ∧ ∀ j, xx L' j = xx L j ∨ (i ≤ j ∧ eqO (sA.objs.get j) (sB.objs.get j) = false)
 | 0, i, L => ⟨L, rfl, fun j => .inl rfl⟩
 | k + 1, i, L => by
  obtain ⟨L1, h1, h2⟩ := UZ sA sB i L; obtain ⟨L2, h3, h4⟩ := Wt sA sB k (Nat.succ i) L1; refine ⟨L2, by simp only [Zj, h1]; exact h3, fun j => ?_⟩
  rcases h4 j with h | h
  ·rcases h2 j with h' | ⟨rfl, h'⟩
   ·exact .inl (h.trans h')
   ·exact .inr ⟨zp _, h'⟩
  ·exact .inr ⟨Nat.le_of_succ_le h.1, h.2⟩
theorem zsP (m j : Nat) (hm : m ≠ 0) : (Nat.xor m (Nat.shiftLeft 1 (zlb m))).testBit j = true → m.testBit j = true ∧ j ≠ zlb m := fun h => by
 have h : (m ^^^ 1 <<< zlb m).testBit j = true := h; rw [Nat.testBit_xor, zmu] at h; by_cases hj : j = zlb m
 ·subst hj; rw [X1 hm] at h; simp at h
 ·refine ⟨?_, hj⟩; have : (decide (j ≥ zlb m) && yS 1 (j - zlb m)) = false := by
   by_cases h2 : zlb m ≤ j
   ·have : j - zlb m ≠ 0 := oM; simp [h2]; cases hh : yS 1 (j - zlb m) with
    | false => rfl
    | true => exact absurd (Nat.testBit_one_eq_true_iff_self_eq_zero.1 hh) this
   ·simp [h2]
  rw [this] at h
  simpa using h
theorem Wu (sA sB : St) : ∀ (S : List Nat) (k m : Nat) (L : List (Nat × Option AObj)), S.length ≤ k → (∀ i, m.testBit i = true → i ∈ S) → ∃ L', lA sA sB k m (osA L) = some (osA L') ∧ ∀ j, xx L' j = xx L j ∨ (j ∈ S ∧ eqO (sA.objs.get j) (sB.objs.get j) = false)
 | S, 0, m, L, hk, hm => by
  have hS : S = [] := List.length_eq_zero_iff.1 oM; subst hS; have h0 : m = 0 := by
   by_cases h : m = 0
   ·exact h
   ·exact absurd (hm _ (X1 h)) (by simp)
  subst h0; exact ⟨L, rfl, fun j => .inl rfl⟩
 | S, k + 1, m, L, hk, hm => by
  by_cases h : m = 0
  ·subst h; exact ⟨L, rfl, fun j => .inl rfl⟩
  ·have hin := hm _ (X1 h); obtain ⟨L1, h1, h2⟩ := UZ sA sB (zlb m) L; obtain ⟨L2, h3, h4⟩ := Wu sA sB (S.erase (zlb m)) k (Nat.xor m (Nat.shiftLeft 1 (zlb m))) L1 (by rw [List.length_erase_of_mem hin]; omega) fun i hi => by
    obtain ⟨q1, q2⟩ := zsP m i h hi; exact (List.mem_erase_of_ne q2).2 (hm i q1)
   refine ⟨L2, ?_, fun j => ?_⟩
   ·simp only [lA, show Nat.beq m 0 = false by cases hb : Nat.beq m 0 with
     | false => rfl
     | true => exact absurd (xG.1 hb) h, cond_false, h1]
    exact h3
   ·rcases h4 j with h5 | h5
    ·rcases h2 j with h' | ⟨rfl, h'⟩
     ·exact .inl (h5.trans h')
     ·exact .inr ⟨hin, h'⟩
    ·exact .inr ⟨List.mem_of_mem_erase h5.1, h5.2⟩
theorem zqm {L LA LB : List (Nat × Option AObj)} {n n2 m mA mB : Nat} {b b' b'' : Bool} (S : List Nat) (hS : S.length ≤ 64) (hm : ∀ i, i < n → mA.testBit i = true ∨ mB.testBit i = true → i ∈ S) :
  ∃ LJ mJ, Xc (KL L n m b [] none) (KL LA n2 mA b' [] none) (KL LB n2 mB b'' [] none) = some (KL LJ n2 mJ b [] none) ∧ ∀ j, xx LJ j = xx LA j ∨ ((n ≤ j ∨ j ∈ S) ∧ eqO (xx LA j) (xx LB j) = false) := by
 obtain ⟨L1, h1, h2⟩ := Wt (KL LA n2 mA b' [] none) (KL LB n2 mB b'' [] none) (Nat.sub n2 n) n LA; obtain ⟨L2, h3, h4⟩ := Wu (KL LA n2 mA b' [] none) (KL LB n2 mB b'' [] none) S 64 (wq (Nat.lor mA mB) n) L1 hS fun i hi => by
  rw [jX] at hi; simp only [zl, decide_eq_true_eq] at hi; have h5 : (mA ||| mB).testBit i = true := hi.2
  rw [yv, zn] at h5; exact hm i hi.1 h5
 refine ⟨L2, Nat.lor m (Nat.lor mA mB), ?_, fun j => ?_⟩
 ·unfold Xc; simp only [zzq, zpq, show Nat.beq n2 n2 = true from xG.2 rfl, cond_true]; rw [show (KL LA n2 mA b' [] none).objs = osA LA from rfl, h1, h3]; rfl
 ·have hg : ∀ X (q : Nat) c, (KL X n2 q c [] none).objs.get j = xx X j := fun X q c => Xi X j; have h2 := h2 j; have h4 := h4 j; rw [hg, hg] at h2 h4; rcases h4 with h | h
  ·rcases h2 with h' | h'
   ·exact .inl (h.trans h')
   ·exact .inr ⟨.inl h'.1, h'.2⟩
  ·exact .inr ⟨.inr h.1, h.2⟩
section
variable {E : Env} {O : Orc} {ia ib : ICode} {tm : Trie AV} {df : List Nat} {Q : Res → Fr → St → Prop} {t d : Nat}
theorem zr4 {L : List (Nat × Option AObj)} {m : Nat} {b : Bool} {IA IB : St → Prop} (hA : Ev (evC E (evW E O) none ia ⟨(tm.del t).set d (.bool true), df⟩ (KL L n 0 b [] none)) (fun r _ s => r = .norm ∧ IA s)) (hB : Ev (evC E (evW E O) none ib ⟨(tm.del t).set d (.bool false), df⟩ (KL L n 0 b [] none)) (fun r _ s => r = .norm ∧ IB s)) (hJ : ∀ sA sB, IA sA → IB sB → ∃ s2, Xc (KL L n m b [] none) sA sB = some s2 ∧ Q .norm ⟨LO (t :: d :: (uo ia ++ uo ib)) tm, df⟩ s2) : Ev (evC E (evW E O) none (.both t d ia ib) ⟨tm, df⟩ (KL L n m b [] none)) Q := by
 obtain ⟨_, f1, s1, e1, rfl, h1⟩ := hA; obtain ⟨_, f2, s2, e2, rfl, h2⟩ := hB; obtain ⟨s3, e3, q⟩ := hJ _ _ h1 h2; refine ⟨.norm, _, s3, ?_, q⟩; show ZE (t :: d :: (uo ia ++ uo ib)) ⟨tm, df⟩ (KL L n m b [] none) (evC E (evW E O) none ia ⟨(tm.del t).set d (.bool true), df⟩ (KL L n 0 b [] none)) (evC E (evW E O) none ib ⟨(tm.del t).set d (.bool false), df⟩ (KL L n 0 b [] none)) = _; rw [e1, e2]; unfold ZE; simp only [show (KL L n m b [] none).only = none from rfl, e3]
end
open Nat (reduceEqDiff reduceLeDiff reduceLT reduceAdd reduceMul reduceSub reduceMod reducePow reduceDiv reduceOr reduceShiftLeft reduceGT reduceSucc)
open List (length_cons length_nil length_take length_drop)
open Int (reduceOfNat reduceNegSucc)
def Xb (vs : List VarT) (s : DT) : Prop := vv vs s = .negSucc 0 ∧ wl s = false
def inOwn (own : List DT) (s : DT) : Prop := ∃ o ∈ own, vR o s = true
def apart (own : List DT) : Prop := own.Pairwise fun a b => vR a b = false
def CoP (vs : List VarT) (next pos made e : Int) (fp : Nat) (L : List (Nat × Option AObj)) (n : Nat) (b : Bool) (own : List DT) (oid : Nat) (S : DT → Prop) (k : Nat) (_ : AV) (t : St) : Prop :=
 ∃ add oid2 L2 n2 m2, t = KL L2 n2 m2 b [] none ∧ WfA L2 n2 ∧ n ≤ n2 ∧ xx L2 fp = some (ua vs (gSl 5 oid2 (own ++ add).length) next pos made e) ∧ GAt 25 xu L2 0 n2 oid2 (own ++ add) ∧ add.length ≤ k ∧ (apart own → apart (own ++ add)) ∧ (∀ s, S s → Xb vs s → inOwn (own ++ add) s) ∧ (own ++ add ≠ [] → (own ≠ [] ∧ oid2 = oid) ∨ n ≤ oid2) ∧ ∀ j, j < n → j ≠ fp → (own ≠ [] → j ≠ oid) → xx L2 j = xx L j
theorem zvJ (a i : Nat) : (1 <<< a).testBit i = decide (i = a) := by
 rw [zmu]; by_cases h : i = a
 ·subst h; simp
 ·by_cases h2 : a ≤ i
  ·have h3 : i - a ≠ 0 := oM; cases hh : yS 1 (i - a) with
   | false => simp [h]
   | true => exact absurd (Nat.testBit_one_eq_true_iff_self_eq_zero.1 hh) h3
  ·simp [h, h2]
def ZP : List DT → Nat → Nat → List Nat
 | [], fp, _ => [fp]
 | _ :: _, fp, oid => [fp, oid]
theorem zx7 (own : List DT) (fp oid : Nat) : (ZP own fp oid).length ≤ 64 := by cases own <;> simp [ZP]
theorem Hv {own : List DT} {fp oid : Nat} (h : own ≠ []) : ZP own fp oid = [fp, oid] := by
 cases own with
 | nil => exact absurd rfl h
 | cons => rfl
theorem zx8 {own : List DT} {fp oid j : Nat} (h : j ∈ ZP own fp oid) : j = fp ∨ (own ≠ [] ∧ j = oid) := by
 cases own with
 | nil => simp only [ZP, zmE, zmD, or_false] at h; exact .inl h
 | cons => simp only [ZP, zmE, zmD, or_false] at h; exact h.imp id fun h => ⟨by simp, h⟩
def BoI (vs : List VarT) (next pos made e : Int) (fp : Nat) (L : List (Nat × Option AObj)) (n : Nat) (own : List DT) (oid : Nat) (d : DT) (s : St) : Prop :=
 ∃ LA mA, s = KL LA (n + 1 + 1 + 1) mA false [] none ∧ xx LA fp = some (ua vs (gSl 5 (n + 1 + 1) (own ++ [d]).length) next pos made e) ∧ xx LA (n + 1 + 1) = some (.row 25 (xz xu (own ++ [d])) true false) ∧ (∀ j, j < n → j ≠ fp → (own ≠ [] → j ≠ oid) → xx LA j = xx L j) ∧ WfA LA (n + 1 + 1 + 1) ∧ ∀ i, i < n + 1 → mA.testBit i = true → i ∈ ZP own fp oid
theorem inOwn.app {own add : List DT} {s : DT} (h : inOwn own s) : inOwn (own ++ add) s := by
 obtain ⟨o, h1, h2⟩ := h; exact ⟨o, zmN _ h1, h2⟩
theorem Lq {own : List DT} (h : apart own) (hd : (own.any fun o => vR o d) = false) : apart (own ++ [d]) := by
 unfold apart at *; rw [List.pairwise_append]; refine ⟨h, List.pairwise_singleton _ _, fun a ha b hb => ?_⟩; simp only [zmE, zmD, or_false] at hb; subst hb; rw [List.any_eq_false] at hd
 simpa using hd a ha
theorem V9 (tm : Trie AV) (i : Nat) (v : AV) : qH tm (some i) v = tm.set i v := rfl
def XG : ICode × ICode := match f16.body with
 | .seq _ (.block _ (.seq _ (.cond _ _ (.seq _ (.cond _ (.seq _ (.cond _ (.both _ _ a b) _)) _))))) => (a, b)
 | _ => (.skip, .skip)
section
variable {O : Orc}
attribute [local go_sem] wU xo xH xF wc kS ltF gtF wz wg zmP zmQ zmU zmR ue qB vf Trie.get_set Trie.get_del V9 in
theorem zpU {vs : List VarT} {next pos made e : Int} {fp : Nat} {dk dn dp : Int} {dt : List Nat} {ds : List DT} {L : List (Nat × Option AObj)} {n : Nat} {own : List DT} {oid : Nat} (hw : WfA L n) (hfp : fp < n) (hg : xx L fp = some (ua vs (gSl 5 oid own.length) next pos made e)) (hga : GAt 25 xu L 0 n oid own) (hl : own.length < 900000000) {tm : Trie AV} (t0 : tm.get 0 = some (.ptr fp 0)) (t3 : tm.get 3 = some (.ptr n 0)) :
  Ev (evC env (evW env O) none XG.1 ⟨tm, []⟩ (KL ((n, some (xX (.mk dk dn dt ds dp))) :: L) (n + 1) 0 false [] none)) fun r _ s => r = .norm ∧ BoI vs next pos made e fp L n own oid (.mk dk dn dt ds dp) s := by
 simp only [xX, xo]; cases own with
 | nil =>
  have hap := fun L n m e x f => @QF L n m 25 e 5 64 [.int .i64 (.ofNat 0), .int .i64 (.ofNat 0), .str [], .nils, .int .i64 (.ofNat 0)] x f rfl oM oM; simp only [y7, gSl, ua] at hg; unfold XG f16; simp only; refine xw ?_; refine xB ?_; refine ⟨trivial, _, _, rfl, ?_, ?_, fun j h1 h2 h3 => ?_, ?_, fun i hi h => ?_⟩
  ·(repeat (rw [xi, if_neg oM])); rw [xi, if_pos rfl]; rfl
  ·(repeat (rw [xi, if_neg oM])); rw [xi, if_pos rfl]; simp only [zmy, xz, xo, zmw]
  ·(repeat (rw [xi, if_neg oM]))
  ·(repeat first | exact hw.up oM | refine WfA.same ?_ oM)
  ·simp only [yv, zvJ, zn, decide_eq_true_eq] at h; simp only [ZP, zmE, zmD, or_false]; omega
 | cons y ys =>
  obtain ⟨_, hid, hgi⟩ := hga (by simp)
  generalize hout : y :: ys = out at *; have hne : out ≠ [] := by rw [← hout]; simp
  obtain ⟨k, hk⟩ : ∃ k, out.length = k + 1 := ⟨out.length - 1, by have : out.length ≠ 0 := fun h => hne (List.length_eq_zero_iff.1 h); omega⟩
  rw [show gSl 5 oid out.length = .sl oid 0 out.length (.opn 5) by rw [hk]; rfl] at hg
  have hnf : oid ≠ fp := fun h => by rw [h, hg] at hgi; simp [ua] at hgi
  have hnf2 := hnf.symm; have hgi2 : ∀ o, xx ((n, o) :: L) oid = some (.row 25 (xz xu out) true false) := fun o => by rw [xi, if_neg oM]; exact hgi
  have ha := fun o m e x f => @J1 ((n, o) :: L) (n + 1) m 25 e 5 64 oid out.length false (xz xu out) [.int .i64 (.ofNat 0), .int .i64 (.ofNat 0), .str [], .nils, .int .i64 (.ofNat 0)] x f oM (hgi2 o) (qb wj out) rfl oM rfl oM oM; have hpas : vr (xz xu out ++ [.int .i64 (.ofNat 0), .int .i64 (.ofNat 0), .str [], .nils, .int .i64 (.ofNat 0)]) (out.length * 5) [.int .i64 dk, .int .i64 dn, .str dt, .lst ds.length false (xC ds), .int .i64 dp] = some (xz xu out ++ [.int .i64 dk, .int .i64 dn, .str dt, .lst ds.length false (xC ds), .int .i64 dp]) := by
   have := @ja (xz xu out) [.int .i64 (.ofNat 0), .int .i64 (.ofNat 0), .str [], .nils, .int .i64 (.ofNat 0)] [] [.int .i64 dk, .int .i64 dn, .str dt, .lst ds.length false (xC ds), .int .i64 dp] (out.length * 5) (qb wj out) rfl
   simpa only [zmw] using this
  simp only [ua] at hg; clear hout hga hk hgi hgi2; unfold XG f16; simp only; refine xw ?_; refine xB ?_; refine ⟨trivial, _, _, rfl, ?_, ?_, fun j h1 h2 h3 => ?_, ?_, fun i hi h => ?_⟩
  ·(repeat (rw [xi, if_neg oM])); rw [xi, if_pos rfl, yd]; rfl
  ·(repeat (rw [xi, if_neg oM])); rw [xi, if_pos rfl, xY]; simp only [xz, xo, zmw]
  ·have := h3 hne
   (repeat (rw [xi, if_neg oM]))
  ·(repeat first | exact hw.up oM | refine WfA.same ?_ oM)
  ·simp only [yv, zvJ, zn, decide_eq_true_eq] at h; rw [Hv hne]; simp only [zmE, zmD, or_false]; omega
attribute [local go_sem] wU xo xH xF wc kS ltF gtF wz wg zmP zmQ zmU zmR ue qB vf Trie.get_set Trie.get_del V9 in
theorem zpV {vs : List VarT} {next pos made e : Int} {fp : Nat} {dk dn dp : Int} {dt : List Nat} {ds : List DT} {L : List (Nat × Option AObj)} {n : Nat} {own : List DT} {oid : Nat} (hw : WfA L n) (hfp : fp < n) (hg : xx L fp = some (ua vs (gSl 5 oid own.length) next pos made e)) (hga : GAt 25 xu L 0 n oid own) (hl : own.length < 900000000) {tm : Trie AV} (t0 : tm.get 0 = some (.ptr fp 0)) (t3 : tm.get 3 = some (.ptr n 0)) :
  Ev (evC env (evW env O) none XG.2 ⟨tm, []⟩ (KL ((n, some (xX (.mk dk dn dt ds dp))) :: L) (n + 1) 0 false [] none)) fun r _ s => r = .norm ∧ BoI vs next pos made e fp L n own oid (.mk dk dn dt ds dp) s := by
 simp only [xX, xo]; cases own with
 | nil =>
  have hap := fun L n m e x f => @J0 L n m 25 e 5 64 [.int .i64 dk, .int .i64 dn, .str dt, .lst ds.length false (xC ds), .int .i64 dp] x f rfl oM oM; simp only [y7, gSl, ua] at hg; unfold XG f16; simp only; refine xB ?_; refine ⟨trivial, _, _, rfl, ?_, ?_, fun j h1 h2 h3 => ?_, ?_, fun i hi h => ?_⟩
  ·(repeat (rw [xi, if_neg oM])); rw [xi, if_pos rfl]; rfl
  ·(repeat (rw [xi, if_neg oM])); rw [xi, if_pos rfl]; simp only [zmy, xz, xo, zmw]
  ·(repeat (rw [xi, if_neg oM]))
  ·(repeat first | exact hw.up oM | refine WfA.same ?_ oM)
  ·simp only [zvJ, decide_eq_true_eq] at h; simp only [ZP, zmE, zmD, or_false]; omega
 | cons y ys =>
  obtain ⟨_, hid, hgi⟩ := hga (by simp)
  generalize hout : y :: ys = out at *; have hne : out ≠ [] := by rw [← hout]; simp
  obtain ⟨k, hk⟩ : ∃ k, out.length = k + 1 := ⟨out.length - 1, by have : out.length ≠ 0 := fun h => hne (List.length_eq_zero_iff.1 h); omega⟩
  rw [show gSl 5 oid out.length = .sl oid 0 out.length (.opn 5) by rw [hk]; rfl] at hg
  have hnf : oid ≠ fp := fun h => by rw [h, hg] at hgi; simp [ua] at hgi
  have hnf2 := hnf.symm; have hgi2 : ∀ o, xx ((n, o) :: L) oid = some (.row 25 (xz xu out) true false) := fun o => by rw [xi, if_neg oM]; exact hgi
  have ha := fun o m e x f => @J2 ((n, o) :: L) (n + 1) m 25 e 5 64 oid out.length false (xz xu out) [.int .i64 dk, .int .i64 dn, .str dt, .lst ds.length false (xC ds), .int .i64 dp] x f oM (hgi2 o) (qb wj out) rfl oM rfl oM oM; simp only [ua] at hg; clear hout hga hk hgi hgi2; unfold XG f16; simp only; refine xB ?_; refine ⟨trivial, _, _, rfl, ?_, ?_, fun j h1 h2 h3 => ?_, ?_, fun i hi h => ?_⟩
  ·(repeat (rw [xi, if_neg oM])); rw [xi, if_pos rfl, yd]; rfl
  ·(repeat (rw [xi, if_neg oM])); rw [xi, if_pos rfl, xY]; simp only [xz, xo, zmw]
  ·have := h3 hne
   (repeat (rw [xi, if_neg oM]))
  ·(repeat first | exact hw.up oM | refine WfA.same ?_ oM)
  ·simp only [yv, zvJ, zn, decide_eq_true_eq] at h; rw [Hv hne]; simp only [zmE, zmD, or_false]; omega
end
section
variable {O : Orc}
attribute [local go_sem] wU xo xH xF wc kS ltF gtF wz wg zmP zmQ zmU zmR ue qB ua vf Trie.get_set Trie.get_del in
theorem zvT (h16 : O 16 = none) (h35 : O 35 = some gKn) (h36 : O 36 = some Qa) (h38 : O 38 = none) (h37 : O 37 = none) (h41 : O 41 = none) (h39 : O 39 = none) {vs : List VarT} (hvs : vs.length < 1000000000) {next pos made e : Int} {fp : Nat} (h5 : eqD (xE d) (.ofNat 5) = true) {L : List (Nat × Option AObj)} {m : Nat} {own : List DT} {oid : Nat} (hw : WfA L n) (hfp : fp < n) (hg : xx L fp = some (ua vs (gSl 5 oid own.length) next pos made e)) (hga : GAt 25 xu L 0 n oid own) (hl : own.length < 900000000) (b : Bool) :
  Cv ((evW env O).call 16 [.ptr fp 0, .agg (xu d)] (KL L n m b [] none)) (CoP vs next pos made e fp L n b own oid (fun s => s = d) 1) := by
 refine qA (F := f16) h16 rfl rfl (zmv rfl) ?_; have hkn := fun s => oc h35 jv (vs, d) hvs (kJ vs d) s; have hdo := fun s => oc h36 wB d trivial (wT d) s; have hdd := fun {p : Prop} (h : ¬ Xb vs d) (h2 : Xb vs d) => (absurd h2 h : p); have hno : ¬ Xb vs d → CoP vs next pos made e fp L n b own oid (fun s => s = d) 1 (.tup []) (KL ((n, some (xX d)) :: L) (n + 1) m b [] none) := fun h => ⟨[], oid, _, _, m, rfl, hw.cons (yx _) (zmO _), zmO _, by rw [xi, if_neg oM, zmw]; exact hg, by rw [zmw]; exact hga.ext (zp _) (zmO _) fun j _ hj => by rw [xi, if_neg oM], zL _, fun h => by rw [zmw]; exact h, fun s hs h2 => by rw [hs] at h2; exact absurd h2 h, fun h => .inl ⟨by rw [zmw] at h; exact h, rfl⟩, fun j hj _ _ => by rw [xi, if_neg oM]⟩
 have hc1 := fun {L n p} (hp : p < n) (hg : xx L p = some (xX d)) o m => @zng O h38 h39 o d L n p hp hg m true; have hga1 : GAt 25 xu ((n, some (xX d)) :: L) 0 (n + 1) oid own := hga.ext (zp _) (zmO _) fun j _ hj => by rw [xi, if_neg oM]
 have hce := fun m b => zs5 h37 h41 hga1 (cf := 38) (d := d) (p := n) (fun o m => hc1 oM (by rw [xi, if_pos rfl]) o m) oM m b
 unfold f16; simp only [Ko, Kn, Kd, Ke, Kf, Ki]; have hnk : ∀ j, vv vs d = .ofNat j → ¬ Xb vs d := fun j h h2 => by rw [h2.1] at h; cases h
 have hnd : wl d = true → ¬ Xb vs d := fun h h2 => by rw [h2.2] at h; cases h
 obtain ⟨dk, dn, dt, ds, dp⟩ := d; simp only [xE] at h5; simp only [xX, xo] at hkn hdo hce hno; clear hdd; refine xw ?_; refine xQ ?_; rcases uI vs (.mk dk dn dt ds dp) with hk | ⟨j, hk, hj⟩
 ·rw [hk] at hkn; cases hd : wl (.mk dk dn dt ds dp) with
  | true =>
   rw [hd] at hdo; have hp := hno (hnd hd); clear hno; refine xw ?_; refine xB ?_; refine x7 ?_; exact hp
  | false =>
   rw [hd] at hdo; clear hno; have hio : Xb vs (.mk dk dn dt ds dp) := ⟨hk, hd⟩; refine xw ?_; refine Y1 sW ?_; refine xw ?_; refine Y2 sV ?_; cases ha : own.any fun o => vR o (.mk dk dn dt ds dp) with
   | true =>
    rw [ha] at hce; refine xw ?_; refine Y1 sW ?_; refine xB ?_; refine x7 ?_; refine ⟨[], oid, _, _, m, rfl, hw.cons (yx _) (zmO _), zmO _, by rw [xi, if_neg oM, zmw]; exact hg, by rw [zmw]; exact hga.ext (zp _) (zmO _) fun j _ hj => by rw [xi, if_neg oM], zL _, fun h => by rw [zmw]; exact h, fun s hs _ => ?_, fun h => .inl ⟨by rw [zmw] at h; exact h, rfl⟩, fun j hj _ _ => by rw [xi, if_neg oM]⟩
    subst hs; rw [zmw]; rw [List.any_eq_true] at ha; exact ha
   | false =>
    rw [ha] at hce; refine xw ?_; refine Y2 sW ?_; clear hkn hdo; have hA := fun tm => @zpU O vs next pos made e fp dk dn dp dt ds L n own oid hw hfp hg hga hl tm
    have hB := fun tm => @zpV O vs next pos made e fp dk dn dp dt ds L n own oid hw hfp hg hga hl tm
    simp only [xX, xo] at hA hB; refine zr4 (IA := BoI vs next pos made e fp L n own oid (.mk dk dn dt ds dp)) (IB := BoI vs next pos made e fp L n own oid (.mk dk dn dt ds dp)) (hA _ sW sW) (hB _ sW sW) fun sA sB hA hB => ?_
    obtain ⟨LA, mA, rfl, a1, a2, a3, a4, a5⟩ := hA; obtain ⟨LB, mB, rfl, b1, b2, b3, b4, b5⟩ := hB; obtain ⟨LJ, mJ, hj, hq⟩ := @zqm ((n, some (xX (.mk dk dn dt ds dp))) :: L) LA LB (n + 1) (n + 1 + 1 + 1) m mA mB false false false (ZP own fp oid) (zx7 _ _ _) (fun i hi h => h.elim (a5 i hi) (b5 i hi)); simp only [xX, xo] at hj; refine ⟨_, hj, ?_⟩; simp only [uK]; refine x7 ?_; have hfpJ : xx LJ fp = xx LA fp := (hq fp).elim id fun h => by rw [a1, b1, zrh] at h; cases h.2
    have howJ : xx LJ (n + 1 + 1) = xx LA (n + 1 + 1) := (hq _).elim id fun h => by rw [a2, b2, zri] at h; cases h.2
    refine ⟨[.mk dk dn dt ds dp], n + 1 + 1, LJ, n + 1 + 1 + 1, mJ, rfl, fun j hj => ?_, oM, by rw [hfpJ, a1], fun _ => ⟨oM, oM, by rw [howJ, a2]⟩, zp _, fun h => Lq h ha, fun s hs _ => ?_, fun _ => .inr oM, fun j h1 h2 h3 => ?_⟩
    ·rcases hq j with h | h
     ·rw [h, a4 j hj]
     ·rw [a4 j hj, b4 j hj] at h; cases h.2
    ·subst hs; exact ⟨.mk dk dn dt ds dp, List.mem_append_right _ (by simp), by simp [vR]⟩
    ·rcases hq j with h | h
     ·rw [h, a3 j h1 h2 h3]
     ·rcases h.1 with h4 | h4
      ·omega
      ·rcases zx8 h4 with h5 | h5
       ·exact absurd h5 h2
       ·exact absurd h5.2 (h3 h5.1)
 ·rw [hk] at hkn; have hp := hno (hnk j hk); clear hno; refine xw ?_; refine xB ?_; refine x7 ?_; exact hp
end
open Int renaming reduceOfNat → rO, reduceNegSucc → rN
theorem Ue : ∀ (N : Nat) (d s : DT), xq d < N → s ∈ qm d → (∃ x ∈ (xL d).1, s ∈ qm x) ∨ s ∈ qm (xL d).2
 | 0, d, _, h, _ => absurd h (zms _)
 | N + 1, d, s, h, hs => by
  cases hk : we d with
  | none => rw [qi hk]; exact .inr hs
  | some xy =>
   obtain ⟨x, y⟩ := xy; have hn := vq hk; rw [w7 hk]; obtain ⟨dk, dn, dt, ds, dp⟩ := d; obtain ⟨rfl, rfl⟩ := wW hk; rw [u9 (d := .mk (.ofNat 6) dn dt [x, y] dp) rfl] at hs; obtain ⟨z, hz, hs2⟩ := Zx hs; simp only [wi, zmE, zmD, or_false] at hz; rcases hz with rfl | rfl
   ·exact .inl ⟨z, by simp, hs2⟩
   ·rcases Ue N z s (by have := xR x; omega) hs2 with ⟨w, h1, h2⟩ | h1
    ·exact .inl ⟨w, List.mem_cons_of_mem _ h1, h2⟩
    ·exact .inr h1
theorem zzd {d s : DT} (hm : wE d = true) (hs : s ∈ qm d) : (∃ x ∈ (xr d).1, s ∈ qm x) ∨ s ∈ qm (xr d).2 := by
 unfold xr; split
 ·rw [u9 (kU hm)] at hs; obtain ⟨z, h1, h2⟩ := Zx hs; exact .inl ⟨z, h1, h2⟩
 ·exact Ue _ d s (yx _) hs
theorem CoP.mono {vs : List VarT} {next pos made e : Int} {fp : Nat} {L : List (Nat × Option AObj)} {b : Bool} {own : List DT} {oid : Nat} {S S' : DT → Prop} {k k' : Nat} {t : St} (h : CoP vs next pos made e fp L n b own oid S k v t) (hS : ∀ s, S' s → S s) (hk : k ≤ k') : CoP vs next pos made e fp L n b own oid S' k' v t := by
 obtain ⟨add, oid2, L2, n2, m2, h1, h2, h3, h4, h5, h6, h7, h8, h9, h10⟩ := h; exact ⟨add, oid2, L2, n2, m2, h1, h2, h3, h4, h5, oM, h7, fun s hs => h8 s (hS s hs), h9, h10⟩
def clB (fp n : Nat) (l : List DT) : List (Nat × AV) := [(0, .ptr fp 0), (3, .ptr n 0), (5, .ptr (n + 1) 0), (62, .lst l.length false (xC l)), (63, .int .i64 (.ofNat l.length))]
def ClI (vs : List VarT) (next pos made e : Int) (fp : Nat) (L0 : List (Nat × Option AObj)) (n : Nat) (own : List DT) (oid : Nat) (l : List DT) (e9 : DT) (i : Nat) (fr : Fr) (s : St) : Prop :=
 ∃ T L n' m add oid', fr = ⟨tmL T, []⟩ ∧ s = KL L n' m false [] none ∧ TG T (clB fp n l) ∧ (tmL T).get 64 = some (.int .i64 (.ofNat i)) ∧ i ≤ l.length ∧ WfA L n' ∧ n + 2 ≤ n' ∧ xx L fp = some (ua vs (gSl 5 oid' (own ++ add).length) next pos made e) ∧ GAt 25 xu L 0 n' oid' (own ++ add) ∧ add.length ≤ xO (l.take i) ∧ (apart own → apart (own ++ add)) ∧ (∀ x ∈ l.take i, ∀ s ∈ qm x, Xb vs s → inOwn (own ++ add) s) ∧ xx L (n + 1) = some (xX e9) ∧ (own ++ add ≠ [] → (own ≠ [] ∧ oid' = oid) ∨ n ≤ oid') ∧ ∀ j, j < n → j ≠ fp → (own ≠ [] → j ≠ oid) → xx L j = xx L0 j
section
variable {O : Orc}
attribute [local go_sem] wU xo xH xF wc kS ltF gtF wz wg zmP zmQ zmU zmR ue qB ua vf in
theorem GF (h16 : O 16 = none) (h35 : O 35 = some gKn) (h36 : O 36 = some Qa) (h27 : O 27 = some kQ) (h29 : O 29 = some Y5) (h38 : O 38 = none) (h37 : O 37 = none) (h41 : O 41 = none) (h39 : O 39 = none) {vs : List VarT} (hvs : vs.length < 1000000000) {next pos made e : Int} {fp : Nat} : ∀ (N : Nat) (d : DT), mz d < N → (wI d = true ∨ d = wO) → xq d ≤ 180000 → ∀ {L : List (Nat × Option AObj)} {n m : Nat} {own : List DT} {oid : Nat} (b : Bool), WfA L n → fp < n → xx L fp = some (ua vs (gSl 5 oid own.length) next pos made e) → GAt 25 xu L 0 n oid own → own.length + xq d < 900000000 →
  Cv ((evW env O).call 16 [.ptr fp 0, .agg (xu d)] (KL L n m b [] none)) (CoP vs next pos made e fp L n b own oid (fun s => s ∈ qm d) (xq d))
 | 0, d, h, _, _, _, _, _, _, _, _, _, _, _, _, _ => absurd h (zms _)
 | N + 1, d, hN, hmay, hnd, L, n, m, own, oid, b, hw, hfp, hg, hga, hl => by
  have hnp := xR d; cases h5 : eqD (xE d) (.ofNat 5) with
  | true =>
   refine (zvT h16 h35 h36 h38 h37 h41 h39 hvs h5 hw hfp hg hga oM b).mono fun v t h => h.mono (fun s hs => ?_) oM; rw [Zw h5] at hs
   simpa using hs
  | false =>
   have ih := fun x h1 h2 h3 => @GF h16 h35 h36 h27 h29 h38 h37 h41 h39 vs hvs next pos made e fp N x h1 h2 h3
   refine qA (F := f16) h16 rfl rfl (zmv rfl) ?_; have hkf : vv vs d = .negSucc 0 := vY h5; have hdf : wl d = false := by unfold wl; rw [h5]; rfl
   have hkn := fun s => oc h35 jv (vs, d) hvs (kJ vs d) s; have hma := fun s => oc h27 wB d trivial (wT d) s; have hdo := fun s => oc h36 wB d trivial (wT d) s; rw [hkf] at hkn; rw [hdf] at hdo; have hil := lL d; have hin := fun s => oc h29 wB d oM (wT d) s; simp only [kS] at hin; unfold f16; simp only [Ko, Kn, Kd, Ke, Kf, Ki]; cases hm : wE d with
   | false =>
    rw [hm] at hma; have hk0 := UR hmay hm; have hsy := u9 h5; rw [hk0] at hsy; simp only [qS] at hsy; have hpost : CoP vs next pos made e fp L n b own oid (fun s => s ∈ qm d) (xq d) (.tup []) (KL ((n, some (xX d)) :: L) (n + 1) m b [] none) := ⟨[], oid, _, _, m, rfl, hw.cons (yx _) (zmO _), zmO _, by rw [xi, if_neg oM, zmw]; exact hg, by rw [zmw]; exact hga.ext (zp _) (zmO _) fun j _ hj => by rw [xi, if_neg oM], zL _, fun h => by rw [zmw]; exact h, fun s hs _ => (by rw [hsy] at hs; cases hs), fun h => .inl ⟨by rw [zmw] at h; exact h, rfl⟩, fun j hj _ _ => by rw [xi, if_neg oM]⟩
    generalize CoP vs next pos made e fp L n b own oid (fun s => s ∈ qm d) (xq d) = PP at *
    clear hin hsy hk0 ih; obtain ⟨dk, dn, dt, ds, dp⟩ := d; simp only [xX, xo] at hkn hma hdo hpost; simp only [xE] at h5; refine xw ?_; refine xQ ?_; refine xw ?_; refine Y1 sW ?_; refine xw ?_; refine Y1 sV ?_; refine xw ?_; refine xB ?_; refine x7 ?_; exact hpost
   | true =>
    rw [hm] at hma; have hmay' : wI d = true := by
     rcases hmay with h | rfl
     ·exact h
     ·cases hm
    rw [gF hm] at hN; have hil2 := lK d; have hitem := (qO hmay' hm).1; have hend := (qO hmay' hm).2; have hsyi := fun s => @zzd d s hm; have hsum : xO (xr d).1 + xq (xr d).2 ≤ xq d ∨ (xr d).2 = wO ∧ 1 + xO (xr d).1 ≤ xq d := by
     have := VB hm; have h0 : ∀ l : List DT, uE 0 l = xO l := by
      intro l
      induction l with
      | nil => rfl
      | cons x r ih => simp only [uE, xO, ih]; omega
     rcases this with ⟨h7, _, h⟩ | ⟨_, _, h⟩
     ·refine .inr ⟨?_, by rw [← h0]; exact h⟩
      unfold xr; rw [h7, if_pos rfl]
     ·rw [Ld] at h; exact .inl oM
    generalize hSS : (fun s => s ∈ qm d) = SS at *; replace hsyi : ∀ s, SS s → (∃ x ∈ (xr d).1, s ∈ qm x) ∨ s ∈ qm (xr d).2 := fun s hs => hsyi s (by rw [← hSS] at hs; exact hs)
    generalize hnn : xq d = nd at *; generalize xr d = II at *; obtain ⟨l, e9⟩ := II; simp only at hin hil2 hitem hend hsyi hsum; have he9 : xq e9 ≤ nd := by
     rcases hsum with h | ⟨h1, h2⟩
     ·omega
     ·rw [h1]; show 1 ≤ nd; omega
    have hme : mz e9 < N := by
     have hz := ka e9; rcases hend with h | ⟨_, h⟩
     ·rw [h]; show 0 < N; omega
     ·omega
    have ihe := fun {L n m own oid} => @ih e9 hme (hend.symm.imp (fun h => h.1) id) oM L n m own oid false; clear hkf hil hm hmay hmay' hSS hnn; obtain ⟨dk, dn, dt, ds, dp⟩ := d; generalize hee : e9 = e' at *; obtain ⟨ek, en, et, eks, ep⟩ := e9; subst hee; simp only [xo] at hkn hma hin hdo ihe; simp only [xE] at h5; refine xw ?_; refine xQ ?_; refine xw ?_; refine Y1 sW ?_; refine xw ?_; refine Y1 sV ?_; refine xw ?_; refine Y2 sW ?_; refine xw ?_; refine xJ (xJ (xB ?_)); refine xQ (wS (fun i : Nat => l.length - i) (ClI vs next pos made e fp L n own oid l (.mk ek en et eks ep)) (fun i fr s hI => ?_) 0 ⟨_, _, _, _, [], oid, rfl, rfl, by simp (disch := first | exact dis | fail) only [go_sem, seval, -rO, -rN, TG, clB], sW, zL _, ?_, zp _, ?_, ?_, zL _, fun h => by rw [zmw]; exact h, fun x hx => absurd hx (by simp), ?_, fun h => .inl ⟨by rw [zmw] at h; exact h, rfl⟩, fun j h1 _ _ => ?_⟩)
    ·obtain ⟨T, L', n', m', add, oid', rfl, rfl, hT, t64, hi, hw', hn', hg', hga', hadd, hap, hcov, hg9, hoid, hfr⟩ := hI; have hT' := hT; simp only [TG, clB] at hT'; obtain ⟨t0, t3, t5, t62, t63, _⟩ := hT'; have hne9 : own ++ add ≠ [] → n + 1 ≠ oid' := fun hne e => by
      obtain ⟨_, _, h⟩ := hga' hne; rw [← e, hg9] at h; simp [xX] at h
     rcases x8 l i with ⟨hi2, hd⟩ | ⟨x, hi2, hd⟩
     ·have hlt : ¬ i < l.length := oM; rw [zG hi2] at hadd hcov; have ihe2 := fun m => ihe (m := m) hw' oM hg' hga' (by
       rw [yd]; rcases hsum with h | ⟨h1, h2⟩
       ·omega
       ·have : xq (DT.mk ek en et eks ep) = 1 := by rw [h1]; rfl
        omega)
      clear hi2 hd ih ihe hne9; simp only [xX, xo] at hg9; refine xB ?_; refine uy ?_; refine wL (ihe2 _) fun v1 t hv => ?_; obtain ⟨add2, oid2, L2, n2, m2, rfl, hw2, hn2, hg2, hga2, hadd2, hap2, hcov2, hoid2, hfr2⟩ := hv; refine xB ?_; refine x7 ?_; refine ⟨add ++ add2, oid2, L2, n2, m2, rfl, hw2, oM, by rw [← zmI]; exact hg2, by rw [← zmI]; exact hga2, ?_, fun h => by rw [← zmI]; exact hap2 (hap h), fun s hs h => ?_, fun h => ?_, fun j h1 h2 h3 => ?_⟩
      ·rw [yd]; rcases hsum with h | ⟨h1, h2⟩
       ·omega
       ·rw [h1] at hadd2; have : xq wO = 1 := rfl; omega
      ·rw [← zmI]; rcases hsyi s hs with ⟨x, h1, h2⟩ | h1
       ·exact (hcov x h1 s h2 h).app
       ·exact hcov2 s h1 h
      ·rw [← zmI] at h; rcases hoid2 h with ⟨h1, rfl⟩ | h1
       ·exact hoid h1
       ·exact .inr oM
      ·rw [hfr2 j oM h2 fun hne => ?_, hfr j h1 h2 h3]; rcases hoid hne with ⟨h4, rfl⟩ | h4
       ·exact h3 h4
       ·omega
     ·have hmem : x ∈ l := zmC (by rw [hd]; simp)
      have hix := hitem x hmem; have hz := ka x; have htk := jd hd; have hnt : xO (l.take (i + 1)) = xO (l.take i) + xq x := by rw [htk, kX]; simp only [xO]; omega
      have hnl := gH (l := l) (i + 1); have ihx := fun {L n m own oid} => @ih x oM (.inl hix.1) oM L n m own oid false; have hx := jT hd false; have hlen : (own ++ add).length + xq x < 900000000 := by
       rw [yd]; rcases hsum with h | ⟨h1, h2⟩ <;> omega
      clear ih ihe hd hz hix hitem; simp only [xX, xo] at hg9; generalize hSx : (fun s => s ∈ qm x) = Sx at ihx; generalize hnx : xq x = nx at *; obtain ⟨xk, xn, xt, xs, xp⟩ := x; simp only [xo] at ihx hx; refine xw ?_; refine xw ?_; refine xJ (xQ (xw ?_)); refine uy ?_; refine wL (ihx (own := own ++ add) (oid := oid') ?_ ?_ ?_ ?_ hlen) fun v1 t hv => ?_
      ·(repeat first | exact hw'.up oM | refine WfA.same ?_ oM)
      ·omega
      ·(repeat (rw [xi, if_neg oM])); exact hg'
      ·exact hga'.ext (zp _) oM fun j _ hj => by (repeat (rw [xi, if_neg oM]))
      obtain ⟨add2, oid2, L2, n2, m2, rfl, hw2, hn2, hg2, hga2, hadd2, hap2, hcov2, hoid2, hfr2⟩ := hv; have hg9' : xx L2 (n + 1) = some (xX (.mk ek en et eks ep)) := by
       rw [hfr2 _ oM oM hne9]
       (repeat (rw [xi, if_neg oM])); rw [hg9]; simp only [xX, xo]
      refine xB ?_; refine xB ?_; refine ⟨i + 1, ⟨_, L2, n2, _, add ++ add2, oid2, rfl, rfl, (by repeat (first | exact hT | refine wF ?_ rfl)), sV, oM, hw2, oM, by rw [← zmI]; exact hg2, by rw [← zmI]; exact hga2, by rw [yd]; omega, fun h => by rw [← zmI]; exact hap2 (hap h), fun y hy s hs h => ?_, hg9', fun h => ?_, fun j h1 h2 h3 => ?_⟩, oM⟩
      ·rw [← zmI]; rw [htk] at hy; rcases List.mem_append.1 hy with hy | hy
       ·exact (hcov y hy s hs h).app
       ·simp only [zmE, zmD, or_false] at hy; subst hy; exact hcov2 s (by rw [← hSx]; exact hs) h
      ·rw [← zmI] at h; rcases hoid2 h with ⟨h1, rfl⟩ | h1
       ·exact hoid h1
       ·exact .inr oM
      ·rw [hfr2 j oM h2 fun hne => ?_]
       ·(repeat (rw [xi, if_neg oM])); exact hfr j h1 h2 h3
       ·rcases hoid hne with ⟨h4, rfl⟩ | h4
        ·exact h3 h4
        ·omega
    ·(repeat first | exact hw.up oM | refine WfA.same ?_ oM)
    ·rw [zmw]; (repeat (rw [xi, if_neg oM])); exact hg
    ·rw [zmw]; exact hga.ext (zp _) oM fun j _ hj => by (repeat (rw [xi, if_neg oM]))
    ·(repeat (rw [xi, if_neg oM])); rw [xi, if_pos rfl]; simp only [xX, xo]
    ·(repeat (rw [xi, if_neg oM]))
end
def zvp (P0 : DT → Prop) (own : List DT) (next : Int) (s : DT) : Prop := P0 s ∨ ∃ j o, own[j]? = some o ∧ qL s = qV .i64 (Int.add next (.ofNat j)) ∧ x9 s = x9 o
def zvh (P0 : DT → Prop) (next : Int) (k : Nat) (L : List (Nat × Option AObj)) (n : Nat) (b : Bool) (v : AV) (t : St) : Prop :=
 ∃ cs ov made e L2 n2 m2, v = .tup [.agg cs, ov, .int .i64 made, .int .i64 e] ∧ t = KL L2 n2 m2 b [] none ∧ (∃ ks, scal ks = true ∧ ∃ a b c d, cs = [.int .i64 a, .int .i64 b, .str c, ks, .int .i64 d]) ∧ scal ov = true ∧ WfA L2 n2 ∧ n ≤ n2 ∧ (∀ j, j < n → xx L2 j = xx L j) ∧ (e = 0 → ∃ own oid d', ov = gSl 5 oid own.length ∧ GAt 25 xu L2 n n2 oid own ∧ own.length ≤ k ∧ apart own ∧ DAt (fun r => n ≤ r ∧ r < n2) L2 d' cs ∧ xq d' ≤ 500000000000 ∧ SymOk (zvp P0 own next) d')
theorem Fi.sym_of {F : Fi} {P0 : DT → Prop} (hP : F.P = zvp P0 F.own F.next) (h : ∀ s, s ∈ qm d → Xb F.vs s → inOwn F.own s) : SymOk F.Sym d := fun s hs h1 h2 => by
 rw [hP]; obtain ⟨o, ho, hl⟩ := h s hs ⟨h1, h2⟩; rcases lJ F.own 0 s with ⟨_, h4⟩ | ⟨j, o', h3, h4, h5⟩
 ·rw [h4 o ho] at hl; cases hl
 ·refine .inr ⟨j, o', h4, ?_, ?_⟩
  ·rw [h3, yy]; rfl
  ·simp only [vR, decide_eq_true_eq] at h5; exact h5.1.symm
theorem SymOk.imp {P Q : DT → Prop} (h : ∀ s, P s → Q s) (hd : SymOk P d) : SymOk Q d := fun s hs => h s (hd s hs)
mutual
theorem zvc {P Q : DT → Prop} (h : ∀ s, P s → Q s) : ∀ {v : VT}, pe P v → pe Q v
 | .mk _ _ ms, hv => by simp only [pe] at hv ⊢; exact ⟨h _ hv.1, Yu h hv.2⟩
theorem Yu {P Q : DT → Prop} (h : ∀ s, P s → Q s) : ∀ {l : List VT}, wY P l → wY Q l
 | [], _ => by simp only [wY]
 | v :: r, hv => by simp only [wY] at hv ⊢; exact ⟨zvc h hv.1, Yu h hv.2⟩
end
section
variable {O : Orc}
attribute [local go_sem] pC wD vJ wU xo xH xF wc tmR ltF gtF wz wg zmP zmQ zmU zmR ue qB vf ua in
theorem zuL {N : Nat} (h8 : O 8 = none) (h15 : O 15 = some (gTm N)) (h16 : O 16 = none) (h17 : O 17 = none) (h35 : O 35 = some gKn) (h27 : O 27 = some kQ) (h29 : O 29 = some Y5) (h30 : O 30 = none) (h25 : O 25 = some Qb) (h36 : O 36 = some Qa) (h40 : O 40 = none) (h43 : O 43 = none) (h44 : O 44 = none) (h56 : O 56 = none) (h57 : O 57 = none) (h45 : O 45 = none) (h58 : O 58 = none) (h42 : O 42 = none) (h41 : O 41 = none) (h39 : O 39 = none) (h38 : O 38 = none) (h37 : O 37 = none)
  {vs : List VarT} {us : List VT} {next pos : Int} {K : Nat} {P0 : DT → Prop} (hvs : vs.length < 1000000000) (hN : mz d < N) (hmay : wI d = true) (hnd : xq d ≤ 180000) (hK : 1 ≤ K) (hok : wY (fun x => SymOk P0 x ∧ xq x ≤ K) us) (hB : us.length = vs.length → bD K vs us d ≤ 500000000000) {L : List (Nat × Option AObj)} {m : Nat} (hw : WfA L n) (b : Bool) :
  Cv ((evW env O).call 8 [.agg (xu d), .agg [wD vs, vJ us], .int .i64 next, .int .i64 pos] (KL L n m b [] none)) (zvh P0 next (xq d) L n b) := by
 refine qA (F := f8) h8 rfl rfl (zmv rfl) ?_; have htm := fun s => oc h15 U6 (vs, d, 0) ⟨hvs, hN, hnd, .inl hmay, by simp only; omega⟩ (GU vs d 0) s
 have hcol := fun {L n m own oid e made} fp h1 h2 h3 h4 h5 => @GF O h16 h35 h36 h27 h29 h38 h37 h41 h39 vs hvs next pos made e fp _ d (yx _) (.inl hmay) hnd L n m own oid false h1 h2 h3 h4 h5
 have hfa := fun (F : Fi) hvs hol hz htm hsy => @G1 O F h17 h35 h27 h29 h30 h25 h36 h40 h43 h44 h56 h57 h45 h58 h42 h41 h39 hvs hol hz _ d 0 (yx _) hmay hnd htm hsy; have herr : ∀ (L2 : List (Nat × Option AObj)) n2 m2 (made e : Int), e ≠ 0 → WfA L2 n2 → n ≤ n2 → (∀ j, j < n → xx L2 j = xx L j) → zvh P0 next (xq d) L n b (.tup [.agg zcs, .nils, .int .i64 made, .int .i64 e]) (KL L2 n2 m2 b [] none) := fun L2 n2 m2 made e he h1 h2 h3 => ⟨zcs, .nils, made, e, L2, n2, m2, rfl, rfl, ⟨.nils, rfl, _, _, _, _, rfl⟩, rfl, h1, h2, h3, fun h => absurd h he⟩
 unfold Fi.Con at hfa; generalize hR : uU vs d 0 = R at *; obtain ⟨lead, ok⟩ := R; generalize hnn : xq d = nd at *; generalize hSS : (fun s => s ∈ qm d) = SS at *; have hsyd : ∀ s, s ∈ qm d → SS s := fun s hs => by rw [← hSS]; exact hs
 unfold f8; simp only [Ko, Kg, Kn, Kd, Kf, Ki]; generalize hdd : d = d' at *; obtain ⟨dk, dn, dt, ds, dp⟩ := d; subst hdd; simp only [xo] at htm hcol hfa ⊢; cases ok with
 | false =>
  clear hcol hfa; simp only [zcs] at herr; refine xw ?_; refine xw ?_; refine x7 ?_; refine herr _ _ _ _ _ (by decide) ?_ ?_ fun j hj => ?_
  ·(repeat first | exact hw.up oM | refine WfA.same ?_ oM)
  ·omega
  ·(repeat (rw [xi, if_neg oM]))
 | true =>
  by_cases hlen : us.length = vs.length
  ·refine xw ?_; refine xw ?_; refine xw ?_; refine xJ (uy ?_); refine wL (hcol (n := n + 1 + 1 + 1 + 1) (own := []) (oid := 0) (made := .ofNat 0) (e := .ofNat 0) (n + 1 + 1 + 1) ?_ ?_ ?_ ?_ ?_) fun v1 t hv => ?_
   ·(repeat first | exact hw.up oM | refine WfA.same ?_ oM)
   ·omega
   ·rw [xi, if_pos rfl]; rfl
   ·exact fun h => absurd rfl h
   ·simp only [y7]; omega
   obtain ⟨own, oid, L1, n1, m1, rfl, hw1, hn1, hg1, hga1, hol1, hap1, hcov1, hoid1, hfr1⟩ := hv; rw [zmy] at hg1 hga1 hap1 hcov1 hoid1; replace hap1 := hap1 List.Pairwise.nil; have hoid : own ≠ [] → n + 1 + 1 + 1 + 1 ≤ oid := fun h => (hoid1 h).elim (fun h => absurd rfl h.1) id; clear hcol hoid1; have g0 := hfr1 n oM oM (fun h => absurd rfl h); have g1 := hfr1 (n + 1) oM oM (fun h => absurd rfl h); have g2 := hfr1 (n + 1 + 1) oM oM (fun h => absurd rfl h); simp (disch := first | exact dis | fail) only [go_sem, seval, -rO, -rN] at g0 g1 g2
   have hfrn : ∀ j, j < n → xx L1 j = xx L j := fun j hj => by
    rw [hfr1 j oM oM (fun h => absurd rfl h)]
    (repeat (rw [xi, if_neg oM]))
   clear hfr1; have hcon := hfa ⟨vs, own, oid, next, pos, n + 1 + 1 + 1, K, zvp P0 own next⟩ hvs (by simp only; omega) ⟨Ud _, hK⟩ (by rw [hR]) (Fi.sym_of (F := ⟨vs, own, oid, next, pos, n + 1 + 1 + 1, K, zvp P0 own next⟩) rfl fun s hs h => hcov1 s (hsyd s hs) h)
   clear hfa; refine xB ?_; refine xJ (uy ?_); refine wL (hcon L1 n1 _ _ us false ⟨hw1, by simp only; omega, ⟨_, _, hg1⟩, hga1, .inl (by rw [hlen]), hlen, Yu (fun x h => ⟨h.1.imp fun s hs => .inl hs, h.2⟩) hok⟩ (zt (hB hlen) (by decide))) fun v2 t hv => ?_
   obtain ⟨cs, d', L2, n2, m2, rfl, rfl, hd', hs', hn', hw2, hn2, hfil2, hfr2⟩ := hv; simp only at hfr2; obtain ⟨made, e, hg2⟩ := hfil2; simp only at hg2; obtain ⟨ks, hcs, hks⟩ := hd'.cells; have hks' := hks; simp only [scal] at hks'; rw [← hfr2 _ oM oM] at g0 g1 g2; have hga2 : GAt 25 xu L2 n n2 oid own := fun hne => by
    obtain ⟨_, q2, q3⟩ := hga1 hne; have := hoid hne; exact ⟨oM, oM, by rw [hfr2 _ q2 oM]; exact q3⟩
   have hfrz : ∀ j, j < n → xx L2 j = xx L j := fun j hj => by rw [hfr2 j oM oM, hfrn j hj]
   clear hfr2 hfrn hg1 hcon; refine xB ?_; cases he : eqD e (.ofNat 0) with
   | false =>
    simp only [zcs] at herr; refine xw ?_; refine x7 ?_; refine herr _ _ _ _ _ (fun h => by rw [h] at he; cases he) ?_ ?_ fun j hj => ?_
    ·(repeat first | exact hw2.up oM | refine WfA.same ?_ oM)
    ·omega
    ·(repeat (rw [xi, if_neg oM])); exact hfrz j hj
   | true =>
    clear herr; refine xw ?_; refine xw ?_; refine jN (r := .ret) ?_; show Cv _ _; refine x7 ?_; have hg : ∀ (o1 o2 : Option AObj) j, (n ≤ j → j ≠ n + 1 + 1) → xx ((n + 1 + 1, o1) :: (n + 1 + 1, o2) :: L2) j = xx L2 j := fun o1 o2 j hj => by
     have : j ≠ n + 1 + 1 := fun e => hj oM e; rw [xi, if_neg this, xi, if_neg this]
    refine ⟨cs, gSl 5 oid own.length, made, _, _, n2, _, by rw [hcs], rfl, ⟨ks, hks, _, _, _, _, hcs⟩, G7 _ _ _, ?_, oM, fun j hj => ?_, fun _ => ⟨own, oid, d', rfl, fun hne => ?_, ?_, hap1, ?_, ?_, hs'⟩⟩
    ·(repeat first | exact hw2.up oM | refine WfA.same ?_ oM)
    ·rw [hg _ _ _ oM]; exact hfrz j hj
    ·obtain ⟨q1, q2, q3⟩ := hga2 hne; have := hoid hne; exact ⟨q1, q2, by rw [hg _ _ _ oM]; exact q3⟩
    ·omega
    ·refine hd'.mono (fun j hj => oM) fun j hj => ?_; rw [hg _ _ _ oM]
    ·exact zt hn' (hB hlen)
  ·clear hcol hfa; have hlen2 : ¬ vs.length = us.length := fun h => hlen h.symm; simp only [zcs] at herr; refine xw ?_; refine xw ?_; refine x7 ?_; refine herr _ _ _ _ _ (by decide) ?_ ?_ fun j hj => ?_
   ·(repeat first | exact hw.up oM | refine WfA.same ?_ oM)
   ·omega
   ·(repeat (rw [xi, if_neg oM]))
end
def SyL : List DT → List AV → Prop
 | [], gs => gs = []
 | s :: r, gs => ∃ ks p rest, scal ks = true ∧ gs = [.int .i64 (xE s), .int .i64 (qL s), .str (x9 s), ks, .int .i64 p] ++ rest ∧ SyL r rest
theorem SyL.app : ∀ {l l' : List DT} {gs gs' : List AV}, SyL l gs → SyL l' gs' → SyL (l ++ l') (gs ++ gs')
 | [], l', gs, gs', h, h' => by simp only [SyL] at h; subst h; exact h'
 | s :: r, l', gs, gs', h, h' => by
  simp only [SyL, y9] at h ⊢; obtain ⟨ks, p, rest, h1, rfl, h2⟩ := h; exact ⟨ks, p, rest ++ gs', h1, by simp, h2.app h'⟩
theorem SyL.at : ∀ {l : List DT} {gs : List AV} {i : Nat} {s : DT} {r : List DT}, SyL l gs → l.drop i = s :: r → ∃ a ks p c, gs = a ++ ([.int .i64 (xE s), .int .i64 (qL s), .str (x9 s), ks, .int .i64 p] ++ c) ∧ a.length = i * 5 ∧ scal ks = true
 | [], gs, i, s, r, _, h => by simp at h
 | y :: l, gs, i, s, r, h, hd => by
  simp only [SyL] at h; obtain ⟨ks, p, rest, h1, rfl, h2⟩ := h; cases i with
  | zero =>
   simp only [List.drop_zero, xe] at hd; obtain ⟨rfl, rfl⟩ := hd; exact ⟨[], ks, p, rest, rfl, by simp, h1⟩
  | succ i =>
   simp only [List.drop_succ_cons] at hd; obtain ⟨a, ks2, p2, c, rfl, e, h3⟩ := h2.at hd; exact ⟨[.int .i64 (xE y), .int .i64 (qL y), .str (x9 y), ks, .int .i64 p] ++ a, ks2, p2, c, by simp, by rw [yd, e]; simp only [y8, y7]; omega, h3⟩
def zvm (L : List (Nat × Option AObj)) (n id k : Nat) (gs : List AV) : Prop := gs.length = k * 5 ∧ (k ≠ 0 → id < n ∧ xx L id = some (.row 25 gs true false))
def KAt (A : Nat → Prop) (L : List (Nat × Option AObj)) (xs : List DT) (ks : AV) : Prop := ks = .lst xs.length false (xC xs) ∨ (xs = [] ∧ ks = .nils) ∨ ∃ id c e x f gs, ks = .sl id 0 xs.length c ∧ A id ∧ xx L id = some (.row e gs x f) ∧ DAtL A L xs gs
theorem KAt.keep {A : Nat → Prop} {L L' : List (Nat × Option AObj)} {xs : List DT} {ks : AV} (h : KAt A L xs ks) (hl : ∀ id, A id → xx L' id = xx L id) : KAt A L' xs ks := by
 rcases h with h | h | ⟨id, c, e, x, f, gs, h1, h2, h3, h4⟩
 ·exact .inl h
 ·exact .inr (.inl h)
 ·exact .inr (.inr ⟨id, c, e, x, f, gs, h1, h2, by rw [hl id h2]; exact h3, h4.mono (fun _ h => h) hl⟩)
theorem KAt.scal {A : Nat → Prop} {L : List (Nat × Option AObj)} {xs : List DT} {ks : AV} (h : KAt A L xs ks) : Go.Proofs.YtionbncghjdeoaaGreatDoor.Ev.scal ks = true := by
 rcases h with rfl | ⟨_, rfl⟩ | ⟨id, c, e, x, f, gs, rfl, _⟩ <;> rfl
theorem KAt.vlen {A : Nat → Prop} {L : List (Nat × Option AObj)} {xs : List DT} {ks : AV} (h : KAt A L xs ks) (s : St) : Qh s .v ks = some (.int .i64 (.ofNat xs.length)) := by
 rcases h with rfl | ⟨rfl, rfl⟩ | ⟨id, c, e, x, f, gs, rfl, _⟩ <;> rfl
theorem KAt.rd {A : Nat → Prop} {L : List (Nat × Option AObj)} {xs : List DT} {ks : AV} (h : KAt A L xs ks) {i : Nat} {x : DT} {r : List DT} (hd : xs.drop i = x :: r) : ∃ q cx, vIa 5 ks (.int .i64 (.ofNat i)) = some q ∧ (∀ n m b, Ys env.globs (KL L n m b [] none) 5 q = some (.agg cx)) ∧ DAt A L x cx := by
 have hi : i < xs.length := by
  have := congrArg yC hd; simp only [zmB, y8] at this; omega
 rcases h with rfl | ⟨rfl, rfl⟩ | ⟨id, c, e, xf, f, gs, rfl, h1, h2, h3⟩
 ·refine ⟨_, xu x, jT hd false, fun n m b => ?_, DAt.of x⟩; obtain ⟨dk, dn, dt, ds, dq⟩ := x; rw [Qo]; simp only [xo]; rfl
 ·simp at hi
 ·obtain ⟨c5, h4, h5⟩ := zpw h3 hd; refine ⟨.ptr id (i * 5), c5, ?_, fun n m b => ?_, h5⟩
  ·simp only [vIa, Ya .i64 hi]; simp
  ·rw [Xw, qc, h2]; simp only [pW, gZ, h4, Ze]
theorem DAt.kids {A : Nat → Prop} {L : List (Nat × Option AObj)} {cs : List AV} (h : DAt A L d cs) : ∃ ks, cs = [.int .i64 (xE d), .int .i64 (qL d), .str (x9 d), ks, .int .i64 (plD d)] ∧ KAt A L (wi d) ks := by
 obtain ⟨k, n, t, xs, p⟩ := d; simp only [DAt] at h; obtain ⟨ks, rfl, h⟩ := h; exact ⟨ks, rfl, h⟩
mutual
theorem p4 : ∀ d : DT, (qm d).length ≤ xq d
 | .mk k n t xs p => by
  simp only [qm, xq]; split
  ·simp
  ·have := Zy xs; omega
theorem Zy : ∀ l : List DT, (qS l).length ≤ xO l
 | [] => by simp only [qS, xO]; exact zp _
 | d :: r => by
  have := p4 d; have := Zy r; simp only [qS, xO, yd]; omega
end
theorem JQ : ∀ a b : List DT, qS (a ++ b) = qS a ++ qS b
 | [], b => by simp only [zmy, qS]
 | x :: a, b => by simp only [y9, qS, JQ a b, zmI]
def SyP (L : List (Nat × Option AObj)) (n m0 : Nat) (b : Bool) (id k : Nat) (gs : List AV) (l : List DT) (v : AV) (t : St) : Prop :=
 ∃ id2 gs2 L2 n2 m2, v = gSl 5 id2 (k + l.length) ∧ t = KL L2 n2 m2 b [] none ∧ WfA L2 n2 ∧ n ≤ n2 ∧ zvm L2 n2 id2 (k + l.length) (gs ++ gs2) ∧ SyL l gs2 ∧ (k + l.length ≠ 0 → (k ≠ 0 ∧ id2 = id) ∨ n ≤ id2) ∧ (∀ j, j < n → m2.testBit j = true → m0.testBit j = true ∨ (k ≠ 0 ∧ j = id)) ∧ ∀ j, j < n → (k ≠ 0 → j ≠ id) → xx L2 j = xx L j
def SyI (L0 : List (Nat × Option AObj)) (n m0 : Nat) (id k : Nat) (gs cs : List AV) (xs : List DT) (i : Nat) (fr : Fr) (s : St) : Prop :=
 ∃ T L n' m id' gs2, fr = ⟨tmL T, []⟩ ∧ s = KL L n' m false [] none ∧ (tmL T).get 3 = some (.ptr n 0) ∧ (tmL T).get 5 = some (.int .i64 (.ofNat i)) ∧ i ≤ xs.length ∧ (tmL T).get 0 = some (gSl 5 id' (k + (qS (xs.take i)).length)) ∧ WfA L n' ∧ n + 1 ≤ n' ∧ zvm L n' id' (k + (qS (xs.take i)).length) (gs ++ gs2) ∧ SyL (qS (xs.take i)) gs2 ∧ (k + (qS (xs.take i)).length ≠ 0 → (k ≠ 0 ∧ id' = id) ∨ n ≤ id') ∧ xx L n = some (.row 25 cs false false) ∧ (∀ j, j < n → m.testBit j = true → m0.testBit j = true ∨ (k ≠ 0 ∧ j = id)) ∧ ∀ j, j < n → (k ≠ 0 → j ≠ id) → xx L j = xx L0 j
section
variable {O : Orc}
attribute [local go_sem] ltF gtF wz wg zmP zmQ zmU zmR ue qB vf in
theorem zq1 (h6 : O 6 = none) {A : Nat → Prop} {L : List (Nat × Option AObj)} {m k : Nat} {gs cs : List AV} (h5 : eqD (xE d) (.ofNat 5) = true) (hw : WfA L n) (hd : DAt A L d cs) (hl : zvm L n id k gs) (hk : k < 900000000000) (b : Bool) :
  Cv ((evW env O).call 6 [gSl 5 id k, .agg cs] (KL L n m b [] none)) (SyP L n m b id k gs (qm d)) := by
 refine qA (F := f6) h6 rfl rfl (zmv rfl) ?_; obtain ⟨ks, hcs, hks⟩ := hd.kids; have hsc := hks.scal; rw [Zw h5]; have hsc' := hsc; simp only [scal] at hsc'; clear hks hd; unfold f6; simp only [Ko, Ki]; generalize hkk : xE d = dk at *; generalize hnn : qL d = dn at *; generalize htt : x9 d = dt at *; generalize plD d = dp at *; cases k with
 | zero =>
  have hgs : gs = [] := List.length_eq_zero_iff.1 (by rw [hl.1])
  subst hgs; have ha := fun L n m e x f => @QF L n m 25 e 5 64 [.int .i64 dk, .int .i64 dn, .str dt, ks, .int .i64 dp] x f rfl oM oM; simp only [gSl]; subst hcs; refine xw ?_; refine xw ?_; refine x7 ?_; refine ⟨n + 1 + 1, [.int .i64 dk, .int .i64 dn, .str dt, ks, .int .i64 dp], _, n + 1 + 1 + 1, _, rfl, rfl, ?_, oM, ⟨rfl, fun _ => ⟨oM, ?_⟩⟩, ?_, fun _ => .inr oM, fun j h1 h2 => ?_, fun j h1 h2 => ?_⟩
  ·(repeat first | exact hw.up oM | refine WfA.same ?_ oM)
  ·rw [xi, if_pos rfl]; rfl
  ·simp only [SyL]; exact ⟨ks, dp, [], hsc, by rw [hkk, hnn, htt]; rfl, rfl⟩
  ·exact .inl h2
  ·(repeat (rw [xi, if_neg oM]))
 | succ k =>
  obtain ⟨gl, hga⟩ := hl; obtain ⟨hid, hgi⟩ := hga oM; rw [show gSl 5 id (k + 1) = .sl id 0 (k + 1) (.opn 5) from rfl]; generalize hK : k + 1 = K at *; have hgi2 : ∀ o, xx ((n, o) :: L) id = some (.row 25 gs true false) := fun o => by rw [xi, if_neg oM]; exact hgi
  have hac : xT [.int .i64 dk, .int .i64 dn, .str dt, ks, .int .i64 dp] = true := by simp only [kr, Zf, V7, V8, hsc, xb]
  have ha := fun o m e x f => @J1 ((n, o) :: L) (n + 1) m 25 e 5 64 id K false gs [.int .i64 dk, .int .i64 dn, .str dt, ks, .int .i64 dp] x f oM (hgi2 o) gl rfl oM hac oM oM; clear hga hgi2 hac; subst hcs; refine xw ?_; refine xw ?_; refine x7 ?_; refine ⟨n + 1 + 1, [.int .i64 dk, .int .i64 dn, .str dt, ks, .int .i64 dp], _, n + 1 + 1 + 1, _, rfl, rfl, ?_, oM, ⟨by rw [yd, gl]; simp only [y8, y7]; omega, fun _ => ⟨oM, ?_⟩⟩, ?_, fun _ => .inr oM, fun j h1 h2 => ?_, fun j h1 h2 => ?_⟩
  ·(repeat first | exact hw.up oM | refine WfA.same ?_ oM)
  ·rw [xi, if_pos rfl]
  ·simp only [SyL]; exact ⟨ks, dp, [], hsc, by rw [hkk, hnn, htt]; rfl, rfl⟩
  ·simp only [yv, zvJ, zn, decide_eq_true_eq] at h2; rcases h2 with h2 | h2
   ·exact .inl h2
   ·exact .inr ⟨oM, h2⟩
  ·have := h2 oM
   (repeat (rw [xi, if_neg oM]))
attribute [local go_sem] ltF gtF wz wg zmP zmQ zmU zmR ue qB vf in
theorem Xt (h6 : O 6 = none) {A : Nat → Prop} : ∀ (N : Nat) (d : DT), xq d < N → ∀ {L : List (Nat × Option AObj)} {n m id k : Nat} {gs cs : List AV}, WfA L n → DAt A L d cs → (∀ r, A r → r < n ∧ (k ≠ 0 → r ≠ id)) → zvm L n id k gs → k + xq d < 900000000000 → ∀ b : Bool,
  Cv ((evW env O).call 6 [gSl 5 id k, .agg cs] (KL L n m b [] none)) (SyP L n m b id k gs (qm d))
 | 0, d, h, _, _, _, _, _, _, _, _, _, _, _, _, _ => absurd h (zms _)
 | N + 1, d, hN, L, n, m, id, k, gs, cs, hw, hd, hA, hl, hk, b => by
  cases h5 : eqD (xE d) (.ofNat 5) with
  | true => exact zq1 h6 h5 hw hd hl oM b
  | false =>
   have ih := fun x h1 => @Xt h6 A N x h1; refine qA (F := f6) h6 rfl rfl (zmv rfl) ?_; obtain ⟨ks, hcs, hks⟩ := hd.kids; rw [u9 h5]; have hnd := wx d; have hsc := hks.scal; generalize hxx : wi d = xs at *; have hsc' := hsc; simp only [scal] at hsc'; have hvl := hks.vlen; have hxl : xs.length ≤ xO xs := by
    have : ∀ l : List DT, l.length ≤ xO l := by
     intro l
     induction l with
     | nil => exact zp _
     | cons x r ih => have := xR x; simp only [y8, xO]; omega
    exact this xs
   have hsl := Zy xs; unfold f6; simp only [Ko, Ki]; generalize hkk : xE d = dk at *; generalize hnn : qL d = dn at *; generalize htt : x9 d = dt at *; generalize plD d = dp at *; subst hcs; refine xw ?_; refine xw ?_; refine xJ (xJ (xB ?_)); refine xQ ?_; refine wS (fun i : Nat => xs.length - i) (SyI L n m id k gs [.int .i64 dk, .int .i64 dn, .str dt, ks, .int .i64 dp] xs) (fun i fr s hI => ?_) 0 ⟨_, _, n + 1, _, id, [], rfl, rfl, sW, sW, zL _, by simp (disch := first | exact dis | fail) only [go_sem, seval, -rO, -rN, qS], ?_, zp _, ?_, ?_, fun h => .inl ⟨by simpa [qS] using h, rfl⟩, ?_, fun j h1 h2 => ?_, fun j h1 _ => ?_⟩
   ·obtain ⟨T, L', n', m', id', gs2, rfl, rfl, t3, t5, hi, t0, hw', hn', hl', hsy, hid', hgn, hmk, hfr⟩ := hI; have hks' : KAt A L' xs ks := hks.keep fun r hr => hfr r (hA r hr).1 (hA r hr).2; have hA' : ∀ r, A r → r < n' ∧ (k + (qS (xs.take i)).length ≠ 0 → r ≠ id') := fun r hr => ⟨by have := (hA r hr).1; omega, fun hk => by
     rcases hid' hk with ⟨h1, rfl⟩ | h1
     ·exact (hA r hr).2 h1
     ·have := (hA r hr).1; omega⟩
    have hnn' : k + (qS (xs.take i)).length ≠ 0 → n ≠ id' := fun hk e => by
     obtain ⟨_, h⟩ := hl'.2 hk; rw [← e, hgn] at h; simp at h
    rcases x8 xs i with ⟨hi2, hdr⟩ | ⟨x, hi2, hdr⟩
    ·have hlt : ¬ i < xs.length := oM; rw [zG hi2] at t0 hl' hsy hid'; clear hi2 hdr ih hnn' hA' hks'; refine xB ?_; refine xw ?_; refine jN (r := .ret) ?_; show Cv _ _; refine x7 ?_; exact ⟨id', gs2, L', n', _, rfl, rfl, hw', oM, hl', hsy, hid', hmk, hfr⟩
    ·obtain ⟨q, cx, hq1, hq2, hq3⟩ := hks'.rd hdr; have htk := jd hdr; have hst : qS (xs.take (i + 1)) = qS (xs.take i) ++ qm x := by rw [htk, JQ]; simp only [qS, zmw]
     have hsn : (qS (xs.take i)).length + xq x ≤ xO xs := by
      have h1 := Zy (xs.take i); have h2 : xO (xs.take (i + 1)) = xO (xs.take i) + xq x := by rw [htk, kX]; simp only [xO]; omega
      have h3 := gH (l := xs) (i + 1); omega
     have ihx := fun m => ih x (by have := xR x; omega) (m := m) hw' hq3 hA' hl' oM false
     have hib : i < 900000000000 := oM; clear ih hdr htk hA' hks' hnd hsl hxl; refine xw ?_; refine xJ (xQ ?_); refine uy ?_; refine wL (ihx _) fun v1 t hv => ?_; obtain ⟨id3, gs3, L3, n3, m3, rfl, rfl, hw3, hn3, hl3, hsy3, hid3, hmk3, hfr3⟩ := hv; have hgn3 := (hfr3 n oM hnn').trans hgn; refine xB ?_; refine xB ?_; have hln : k + (qS (xs.take i)).length + (qm x).length = k + (qS (xs.take (i + 1))).length := by rw [hst, yd, Nat.add_assoc]
     rw [hln] at hl3 hid3; refine ⟨i + 1, ⟨_, L3, n3, _, id3, gs2 ++ gs3, rfl, rfl, sV, sV, oM, by rw [← hln]; simp (disch := first | exact dis | fail) only [go_sem, seval, -rO, -rN, *], hw3, oM, by rw [← zmI]; exact hl3, by rw [hst]; exact hsy.app hsy3, fun h => ?_, hgn3, fun j h1 h2 => ?_, fun j h1 h2 => ?_⟩, oM⟩
     ·rcases hid3 h with ⟨h1, rfl⟩ | h1
      ·exact hid' h1
      ·exact .inr oM
     ·rcases hmk3 j oM h2 with h3 | ⟨h3, h4⟩
      ·exact hmk j h1 h3
      ·rcases hid' h3 with ⟨h5, h6⟩ | h5
       ·exact .inr ⟨h5, h4.trans h6⟩
       ·omega
     ·rw [hfr3 j oM fun hk => ?_]
      ·exact hfr j h1 h2
      ·rcases hid' hk with ⟨h3, rfl⟩ | h3
       ·exact h2 h3
       ·omega
   ·(repeat first | exact hw.up oM | refine WfA.same ?_ oM)
   ·simp only [List.take_zero, qS, y7, Nat.add_zero, zmw]; exact ⟨hl.1, fun h => ⟨by have := (hl.2 h).1; omega, by rw [xi, if_neg (by have := (hl.2 h).1; omega)]; exact (hl.2 h).2⟩⟩
   ·simp only [List.take_zero, qS, SyL]
   ·rw [xi, if_pos rfl]
   ·left; exact h2
   ·rw [xi, if_neg oM]
end
def jV (o : DT) (nn : Int) (tt : List Nat) : Bool := decide (x9 o = tt) && eqD (qL o) nn
theorem SyL.cut {l : List DT} {gs : List AV} {i : Nat} {s : DT} {r : List DT} (h : SyL l gs) (hd : l.drop i = s :: r) : wC 1 (wP (i * 5 + 1) gs) = some [.int .i64 (qL s)] ∧ wC 1 (wP (i * 5 + 2) gs) = some [.str (x9 s)] ∧ ∃ ks p, scal ks = true ∧ wC 5 (wP (i * 5) gs) = some [.int .i64 (xE s), .int .i64 (qL s), .str (x9 s), ks, .int .i64 p] := by
 obtain ⟨a, ks, p, c, rfl, e, hs⟩ := h.at hd; refine ⟨?_, ?_, ks, p, hs, gw e rfl⟩
 ·have := @gw (a ++ [.int .i64 (xE s)]) [.int .i64 (qL s)] ([.str (x9 s), ks, .int .i64 p] ++ c) (i * 5 + 1) 1 (by rw [yd, e]; rfl) rfl
  simpa only [zmI, y9, zmy] using this
 ·have := @gw (a ++ [.int .i64 (xE s), .int .i64 (qL s)]) [.str (x9 s)] ([ks, .int .i64 p] ++ c) (i * 5 + 2) 1 (by rw [yd, e]; rfl) rfl
  simpa only [zmI, y9, zmy] using this
section
variable {O : Orc}
attribute [local go_sem] ltF gtF wz wg zmP zmQ zmU zmR ue qB vf in
theorem zsm (h9 : O 9 = none) {L : List (Nat × Option AObj)} {gs : List AV} {l : List DT} (hl : zvm L n id l.length gs) (hs : SyL l gs) (hln : l.length < 900000000000) {kk nn pp : Int} {tt : List Nat} {ks : AV} (hks : scal ks = true) (m : Nat) (b : Bool) :
  (evW env O).call 9 [gSl 5 id l.length, .agg [.int .i64 kk, .int .i64 nn, .str tt, ks, .int .i64 pp]] (KL L n m b [] none) = some (.bool (l.any fun o => jV o nn tt), KL L n m b [] none) := by
 have key : Cv ((evW env O).call 9 [gSl 5 id l.length, .agg [.int .i64 kk, .int .i64 nn, .str tt, ks, .int .i64 pp]] (KL L n m b [] none)) fun v t => v = .bool (l.any fun o => jV o nn tt) ∧ t = KL L n m b [] none := by
  refine YI (F := f9) h9 rfl rfl (zmv rfl) ?_; unfold f9; simp only [Ko, Kd, Ke, Ki]; refine xw ?_; refine xJ (xJ (xB ?_)); refine xQ ?_; refine wS (fun i : Nat => l.length - i) (fun i fr s => ∃ T m', fr = ⟨tmL T, []⟩ ∧ s = KL ((n, some (.row 25 [.int .i64 kk, .int .i64 nn, .str tt, ks, .int .i64 pp] false false)) :: L) (n + 1) m' true [] none ∧ (tmL T).get 0 = some (gSl 5 id l.length) ∧ (tmL T).get 3 = some (.ptr n 0) ∧ (tmL T).get 5 = some (.int .i64 (.ofNat i)) ∧ m' % 2 ^ n = 0 ∧ i ≤ l.length ∧ (l.any fun o => jV o nn tt) = (l.drop i).any fun o => jV o nn tt) (fun i fr s hI => ?_) 0 ⟨_, _, rfl, rfl, sW, sW, sW, by simp, oM, rfl⟩
  obtain ⟨T, m', rfl, rfl, h0, h3, h5, hm, hi, he⟩ := hI; rcases x8 l i with ⟨hi, hd⟩ | ⟨o, hi, hd⟩
  ·rw [hd] at he; have hlt : ¬ i < l.length := oM; refine xB ?_; refine xw ?_; refine jN (r := .ret) ?_; show Cv _ _; refine x7 ?_; exact ⟨by rw [he]; rfl, rfl⟩
  ·have hx := fun (hi : i < l.length) => @kR 5 id l.length i hi; replace hx := hx hi; obtain ⟨hc1, hc2, _⟩ := hs.cut hd; obtain ⟨hidn, hg⟩ := hl.2 oM; rw [hd] at he; simp only [List.any_cons] at he; clear hl hs hd; by_cases hq : x9 o = tt
   ·cases hr : eqD (qL o) nn with
    | true =>
     have he' : (l.any fun o => jV o nn tt) = true := by rw [he]; simp only [jV, hq, hr, decide_true, xb, zlf]
     clear he; refine xB ?_; refine x7 ?_; exact ⟨by rw [he'], rfl⟩
    | false =>
     have he' : (l.any fun o => jV o nn tt) = (l.drop (i + 1)).any fun o => jV o nn tt := by rw [he]; simp only [jV, hr, Bool.and_false, zle]
     clear he; refine xB ?_; exact ⟨i + 1, ⟨_, _, rfl, rfl, sV, sV, sV, hm, oM, he'⟩, oM⟩
   ·have he' : (l.any fun o => jV o nn tt) = (l.drop (i + 1)).any fun o => jV o nn tt := by rw [he]; simp only [jV, hq, decide_false, Bool.false_and, zle]
    clear he; refine xB ?_; exact ⟨i + 1, ⟨_, _, rfl, rfl, sV, sV, sV, hm, oM, he'⟩, oM⟩
 obtain ⟨v, t, h, rfl, rfl⟩ := key; exact h
end
def pLN (F : DT → Nat) : Nat → List DT → Nat
 | n, [] => n
 | n, x :: r => if n < 1000 then pLN F (n + F x) r else n
def pN : Nat → DT → Nat
 | 0, _ => 1000
 | k + 1, d => pLN (pN k) 1 (wi d)
theorem PT {F : DT → Nat} : ∀ (l : List DT) (n : Nat), n ≤ pLN F n l
 | [], n => zp _
 | x :: r, n => by
  simp only [pLN]; split
  ·have := PT (F := F) r (n + F x); omega
  ·exact zp _
theorem ztT {F : DT → Nat} {B : Nat} (hB : ∀ x, F x < B) : ∀ (l : List DT) (n : Nat), n < 1000 + B → pLN F n l < 1000 + B
 | [], n, h => h
 | x :: r, n, h => by
  simp only [pLN]; split
  ·exact ztT hB r _ (by have := hB x; omega)
  ·exact h
theorem zoE : ∀ (k : Nat) (d : DT), 1 ≤ pN k d
 | 0, _ => by simp only [pN]; omega
 | k + 1, d => by simp only [pN]; exact PT _ _
theorem ztU : ∀ (k : Nat) (d : DT), pN k d < 1000 * (k + 2)
 | 0, _ => by simp only [pN]; omega
 | k + 1, d => by
  simp only [pN]; have := ztT (F := pN k) (B := 1000 * (k + 2)) (fun x => ztU k x) (wi d) 1 oM; omega
theorem JE {F : DT → Nat} (hF : ∀ x, F x < 1000 → xq x ≤ F x) : ∀ (l : List DT) (n : Nat), pLN F n l < 1000 → n + xO l ≤ pLN F n l
 | [], n, h => by simp only [pLN, xO]; omega
 | x :: r, n, h => by
  simp only [pLN] at h ⊢; split at h
  ·rename_i hn
   rw [if_pos hn]; have h1 := PT (F := F) r (n + F x); have h2 := hF x oM; have h3 := JE hF r (n + F x) h; simp only [xO]; omega
  ·omega
theorem VU : ∀ (k : Nat) (d : DT), pN k d < 1000 → xq d ≤ pN k d
 | 0, d, h => by simp only [pN] at h; omega
 | k + 1, d, h => by
  simp only [pN] at h ⊢; have := JE (F := pN k) (fun x h => VU k x h) (wi d) 1 h; have := wx d; omega
section
variable {O : Orc}
attribute [local go_sem] xo xH xF wc ltF gtF wz wg zmP zmQ zmU zmR ue in
theorem Jp (h10 : O 10 = none) : ∀ (k : Nat) (d : DT), k ≤ 40 → ∀ (L : List (Nat × Option AObj)) (n m : Nat) (b : Bool),
  (evW env O).call 10 [.agg (xu d), .int .i64 (.ofNat k)] (KL L n m b [] none) = some (.int .i64 (.ofNat (pN k d)), KL L n m b [] none)
 | k, d, hk, L, n, m, b => by
  have key : Cv ((evW env O).call 10 [.agg (xu d), .int .i64 (.ofNat k)] (KL L n m b [] none)) fun v t => v = .int .i64 (.ofNat (pN k d)) ∧ t = KL L n m b [] none := by
   refine YI (F := f10) h10 rfl rfl (zmv rfl) ?_; unfold f10; simp only [Ko, Kg, Ki]; cases k with
   | zero =>
    simp only [pN]; obtain ⟨dk, dn, dt, ds, dp⟩ := d; refine xw ?_; refine xw ?_; refine x7 ?_; exact ⟨rfl, rfl⟩
   | succ k =>
    have ih := fun x => Jp h10 k x oM; have hsub : qV .i64 (Int.sub (.ofNat (k + 1)) (.ofNat 1)) = .ofNat k := by rw [zwN oM, Yw oM]; rfl
    have hpl := fun x => ztU k x; have hpp := fun x => zoE k x; generalize hR : pN (k + 1) d = R; simp only [pN] at hR; obtain ⟨dk, dn, dt, ds, dp⟩ := d; simp only [wi] at hR; refine xw ?_; refine xw ?_; refine xw ?_; refine xJ (xJ (xB ?_)); refine xQ ?_; refine wS (fun x : Nat × Nat => ds.length - x.1) (fun x fr s => ∃ T m', fr = ⟨tmL T, []⟩ ∧ s = KL ((n, some (.row 25 [.int .i64 dk, .int .i64 dn, .str dt, .lst ds.length false (xC ds), .int .i64 dp] false false)) :: L) (n + 1) m' true [] none ∧ (tmL T).get 1 = some (.int .i64 (.ofNat (k + 1))) ∧ (tmL T).get 2 = some (.ptr n 0) ∧ (tmL T).get 5 = some (.int .i64 (.ofNat x.2)) ∧ (tmL T).get 6 = some (.int .i64 (.ofNat x.1)) ∧ m' % 2 ^ n = 0 ∧ x.1 ≤ ds.length ∧ x.1 < x.2 ∧ x.2 < 1000000 ∧ R = pLN (pN k) x.2 (ds.drop x.1)) (fun x fr s hI => ?_) (0, 1) ⟨_, _, rfl, rfl, sW, sW, sW, sW, by simp, zL _, by simp only; omega, by simp only; omega, hR.symm⟩
    obtain ⟨i, q⟩ := x; obtain ⟨T, m', rfl, rfl, t1, t2, t5, t6, hm, hi, hiq, hq, he⟩ := hI; simp only at t5 t6 hi hiq hq he; clear hR; rcases x8 ds i with ⟨hi2, hd⟩ | ⟨x, hi2, hd⟩
    ·rw [hd] at he; simp only [pLN] at he; have hlt : ¬ i < ds.length := oM; refine xB ?_; refine xw ?_; refine jN (r := .ret) ?_; show Cv _ _; refine x7 ?_; exact ⟨by rw [he], rfl⟩
    ·rw [hd] at he; simp only [pLN] at he; by_cases hq2 : q < 1000
     ·rw [if_pos hq2] at he; have hix := jT hd false; have ihx := ih x; have h1 := hpl x; have h2 := hpp x; clear ih hpl hpp hd; generalize pN k x = px at *; obtain ⟨xk, xn, xt, xs, xp⟩ := x; simp only [xo] at ihx hix; refine xB ?_; exact ⟨(i + 1, q + px), ⟨_, _, rfl, rfl, sV, sV, sV, sV, hm, by simp only; omega, by simp only; omega, by simp only; omega, he⟩, by simp only; omega⟩
     ·rw [if_neg hq2] at he; clear ih hpl hpp hd; refine xB ?_; refine xw ?_; refine jN (r := .ret) ?_; show Cv _ _; refine x7 ?_; exact ⟨by rw [he], rfl⟩
  obtain ⟨v, t, h, rfl, rfl⟩ := key; exact h
end
def ZX (d : DT) : Bool := decide (300 < pN 40 d) || !wI d
theorem zvw (h : ZX d = false) : xq d ≤ 300 ∧ wI d = true := by
 simp only [ZX, Bool.or_eq_false_iff, decide_eq_false_iff_not, Bool.not_eq_false'] at h; exact ⟨zt (VU 40 d oM) oM, h.2⟩
section
variable {O : Orc}
attribute [local go_sem] xo xH xF wc ltF gtF wz wg zmP zmQ zmU zmR ue in
theorem ztk (h4 : O 4 = none) (h10 : O 10 = none) {N : Nat} (h11 : O 11 = some (Ps N)) (hN : 300 < N) {ds : List DT} (hds : ds.length < 1000) (ht : ∀ d ∈ ds, TxD d) {L : List (Nat × Option AObj)} {n id t q : Nat} {x f : Bool} (hid : id < n) (hg : xx L id = some (.row t (xz xu ds) x f)) (m : Nat) (b : Bool) :
  (evW env O).call 4 [.sl id 0 ds.length (.fix q)] (KL L n m b [] none) = some (.bool (ds.any ZX), KL L n m b [] none) := by
 have key : Cv ((evW env O).call 4 [.sl id 0 ds.length (.fix q)] (KL L n m b [] none)) fun v t => v = .bool (ds.any ZX) ∧ t = KL L n m b [] none := by
  refine YI (F := f4) h4 rfl rfl (zmv rfl) ?_; unfold f4; simp only [Ko, Kg, Ki]; refine xw ?_; refine xJ (xJ (xB ?_)); refine xQ ?_; refine wS (fun i : Nat => ds.length - i) (fun i fr s => ∃ T m', fr = ⟨tmL T, []⟩ ∧ s = KL L n m' true [] none ∧ (tmL T).get 0 = some (.sl id 0 ds.length (.fix q)) ∧ (tmL T).get 3 = some (.int .i64 (.ofNat i)) ∧ m' % 2 ^ n = 0 ∧ i ≤ ds.length ∧ ds.any ZX = (ds.drop i).any ZX) (fun i fr s hI => ?_) 0 ⟨_, _, rfl, rfl, sW, sW, by simp, oM, rfl⟩
  obtain ⟨T, m', rfl, rfl, h0, h3, hm, hi, he⟩ := hI; rcases x8 ds i with ⟨hi, hd⟩ | ⟨o, hi, hd⟩
  ·rw [hd] at he; have hlt : ¬ i < ds.length := oM; refine xB ?_; refine xw ?_; refine jN (r := .ret) ?_; show Cv _ _; refine x7 ?_; exact ⟨by rw [he]; rfl, rfl⟩
  ·have hc := zzJ hd; have hmem : o ∈ ds := zmC (by rw [hd]; simp)
   have hto := ht o hmem; have hpt := Jp h10 40 o (zp _); rw [hd] at he; simp only [List.any_cons] at he; have hp4 := ztU 40 o; by_cases h300 : 300 < pN 40 o
   ·have he' : ds.any ZX = true := by rw [he]; simp only [ZX, h300, decide_true, zlf]
    clear he ht hd hto hmem; generalize pN 40 o = po at *; obtain ⟨ok, on, ot, os, op⟩ := o; simp only [xo] at hc hpt; refine xB ?_; refine x7 ?_; exact ⟨by rw [he'], rfl⟩
   ·have hn : xq o ≤ 300 := zt (VU 40 o oM) oM; have hmy := fun s => oc h11 wB o ⟨hto, oM⟩ (wT o) s; cases hm2 : wI o with
    | false =>
     have he' : ds.any ZX = true := by rw [he]; simp only [ZX, hm2, Bool.not_false, Bool.or_true, zlf]
     rw [hm2] at hmy; clear he ht hd hto hmem hm2 hn; generalize pN 40 o = po at *; obtain ⟨ok, on, ot, os, op⟩ := o; simp only [xo] at hc hpt hmy; refine xB ?_; refine x7 ?_; exact ⟨by rw [he'], rfl⟩
    | true =>
     have he' : ds.any ZX = (ds.drop (i + 1)).any ZX := by rw [he]; simp only [ZX, hm2, h300, decide_false, Bool.not_true, Bool.or_false, zle]
     rw [hm2] at hmy; clear he ht hd hto hmem hm2 hn; generalize pN 40 o = po at *; obtain ⟨ok, on, ot, os, op⟩ := o; simp only [xo] at hc hpt hmy; refine xB ?_; exact ⟨i + 1, ⟨_, _, rfl, rfl, sV, sV, hm, oM, he'⟩, oM⟩
 obtain ⟨v, t, h, rfl, rfl⟩ := key; exact h
end
def VA (f s : DT) : Prop := (qm f).any (fun o => jV o (qL s) (x9 s)) = true
theorem Pz (s : DT) : jV s (qL s) (x9 s) = true := by simp [jV, eqD]
theorem zr5 (f : DT) : SymOk (VA f) f := fun s hs => List.any_eq_true.2 ⟨s, hs, Pz s⟩
theorem zvR (P : DT → Prop) {K : Nat} (hK : 1 ≤ K) : Clo fun x => SymOk P x ∧ xq x ≤ K :=
 ⟨⟨Ud P, hK⟩, fun {d x} h hk hx => ⟨h.1.kid hk hx, by have := qF hx; have := wx d; have := h.2; omega⟩⟩
def laT : ICode := match f3.body with
 | .seq _ (.seq _ (.seq _ (.seq _ r))) => r
 | _ => .skip
def zou : ICode := match laT with
 | .seq _ (.seq _ (.seq _ (.seq _ r))) => r
 | _ => .skip
def znb (f : DT) (from_ : Nat) (L : List (Nat × Option AObj)) (n : Nat) (own : List DT) (oid : Nat) (d' : DT) (cs : List AV) : Prop :=
 GAt 25 xu L 0 n oid own ∧ own.length ≤ 300 ∧ apart own ∧ DAt (fun r => r < n) L d' cs ∧ xq d' < 800000000000 ∧ SymOk (zvp (VA f) own (.ofNat from_)) d'
section
variable {O : Orc}
attribute [local go_sem] pB qR ZK wD vJ xo xH xF wc ltF gtF wz wg zmP zmQ zmU zmR ue qB vf in
theorem zqs {N : Nat} (h7 : O 7 = some (gMa N)) (hN : 300 < N) (haw : ∀ s, (evW env O).call 5 [] s = some (.bool true, s)) {ls : wa} {p f t : DT} {nx : Nat} (hnx : nx < 256) (hls : ls.length < 1000000000) (np : xq p ≤ 300) (nf : xq f ≤ 300) (nt : xq t ≤ 300) (mp : wI p = true)
  (hfill : ∀ vs us L n m, vs.length < 1000000000 → wY (fun x => SymOk (VA f) x ∧ xq x ≤ 300) us → (∀ v ∈ us, szV v ≤ 300) → WfA L n → Cv ((evW env O).call 8 [.agg (xu t), .agg [wD vs, vJ us], .int .i64 (.ofNat (1000 + nx)), .int .i64 (.ofNat 0)] (KL L n m false [] none)) (zvh (VA f) (.ofNat (1000 + nx)) (xq t) L n false))
  {T : List (Nat × AV)} {L : List (Nat × Option AObj)} {n0 n m : Nat} {b : Bool} {cc : List AV} (hcc : cc = .lst ls.length false (vb ls) :: (xu p ++ (xu f ++ xu t))) (t1 : (tmL T).get 1 = some (.int .u8 (.ofNat nx))) (t2 : (tmL T).get 2 = some (.ptr n0 0)) (h0 : n0 < n) (g0 : xx L n0 = some (.row 27 cc false false)) (hw : WfA L n)
  (htail : ∀ T2 L2 n2 m2 own oid d' cs, (tmL T2).get 2 = some (.ptr n0 0) → (tmL T2).get 9 = some (.int .i64 (.ofNat (1000 + nx))) → (∃ q, q < n2 ∧ n0 ≠ q ∧ (tmL T2).get 10 = some (.ptr q 0) ∧ xx L2 q = some (.row 25 cs false false)) → (tmL T2).get 11 = some (gSl 5 oid own.length) → WfA L2 n2 → n0 < n2 → xx L2 n0 = some (.row 27 cc false false) → znb f (1000 + nx) L2 n2 own oid d' cs → Ev (evC env (evW env O) none zou ⟨tmL T2, []⟩ (KL L2 n2 m2 false [] none)) fun r fr t => Cv (mdR b (wR env.globs [.t 4] (some (r, fr, t)))) fun v _ => v = .bool true) :
  Ev (evC env (evW env O) none laT ⟨tmL T, []⟩ (KL L n m false [] none)) fun r fr t => Cv (mdR b (wR env.globs [.t 4] (some (r, fr, t)))) fun v _ => v = .bool true := by
 have hma := fun s => oc h7 zxo (ls, p, f) ⟨hls, by simp only; omega, mp, by simp only; omega, by simp only; omega⟩ (zua ls p f) s
 have hadd : qV .i64 (Int.add (.ofNat 1000) (.ofNat nx)) = .ofNat (1000 + nx) := by
  show qV .i64 (.ofNat (1000 + nx)) = _; rw [Yw oM]
 subst hcc; have hmok := fun us h => VI (zvR (VA f) (K := 300) oM) _ p f us (yx _) mp ⟨zr5 f, nf⟩ (ls := ls) h; have hmsz := fun us h => VJ (ls := ls) _ p f us (yx _) mp h; have hres : ∀ us, wu ls p f = some us → maR (ls, p, f) = .tup [ZK (qa ls p 0) us, .bool true] := fun us h => by unfold maR; simp only [h]
 have hres0 : wu ls p f = none → maR (ls, p, f) = .tup [ZK [] [], .bool false] := fun h => by unfold maR; simp only [h]
 unfold laT f3; simp only; generalize maR (ls, p, f) = MR at *; have hvl : (qa ls p 0).length < 1000000000 := by
  have := kD (ls := ls) _ p 0 (yx _) (.inl mp); omega
 generalize qa ls p 0 = vs at *; generalize wu ls p f = mm at *; generalize hp0 : p = p0 at *; generalize hf0 : f = f0 at *; generalize ht0 : t = t0 at *; obtain ⟨pk, pn, pt, pks, pp⟩ := p; obtain ⟨fk, fn, ft, fks, fp⟩ := f; obtain ⟨tk, tn, tx, tks, tq⟩ := t; subst hp0; subst hf0; subst ht0; simp only [xo, y9, zmy, wD, vJ] at hma hfill g0; cases mm with
 | none =>
  have hr := hres0 rfl; simp only [ZK, wD, vJ] at hr; clear hres hres0 htail hmok hmsz; have hf1 := fun {L n m} h => hfill [] [] L n m (by simp) (by simp only [wY]) (fun v h => by cases h) h
  clear hfill; simp only [y7] at hf1; refine xw ?_; refine xw ?_; refine xJ (uy ?_); refine wL (hf1 ?_) fun v1 t hv => ?_
  ·(repeat first | exact hw.up oM | refine WfA.same ?_ oM)
  obtain ⟨cs, ov, made, e, L2, n2, m2, rfl, rfl, ⟨ks, hks, a1, a2, a3, a4, hcs⟩, hov, hw2, hn2, hfr, _⟩ := hv; have hks' := hks; simp only [scal] at hks'; clear hfr hf1; refine xB ?_; refine xw ?_; refine x7 ?_; rfl
 | some us =>
  have hr := hres us rfl; simp only [ZK, wD, vJ] at hr; have hf1 := fun {L n m} h => hfill vs us L n m hvl (hmok us rfl) (fun v h => zt (hmsz us rfl v h) nf) h; clear hres hres0 hmok hmsz hfill; refine xw ?_; refine xw ?_; refine xJ (uy ?_); refine wL (hf1 ?_) fun v1 t hv => ?_
  ·(repeat first | exact hw.up oM | refine WfA.same ?_ oM)
  obtain ⟨cs, ov, made, e, L2, n2, m2, rfl, rfl, ⟨ks, hks, a1, a2, a3, a4, hcs⟩, hov, hw2, hn2, hfr, hfin⟩ := hv; have hks' := hks; simp only [scal] at hks'; have g0' := hfr n0 oM
  (repeat rw [xi, if_neg oM] at g0')
  rw [g0] at g0'; clear hfr hf1 g0 hw; cases he : eqD e (.ofNat 0) with
  | false =>
   clear htail hfin; refine xB ?_; refine xw ?_; refine x7 ?_; rfl
  | true =>
   obtain ⟨own, oid, d', hov2, hga, hol, hap, hda, hnd, hsy⟩ := hfin (of_decide_eq_true he); subst hov2; clear hfin; refine xB ?_; refine xw ?_; refine htail _ _ (n2 + 1) _ own oid d' cs sV sV ⟨n2, oM, oM, sV, ?_⟩ sV ?_ oM ?_ ⟨?_, ?_, hap, ?_, oM, hsy⟩
   ·rw [xi, if_pos rfl, hcs]
   ·(repeat first | exact hw2.up oM | refine WfA.same ?_ oM)
   ·(repeat (rw [xi, if_neg oM])); exact g0'
   ·exact hga.ext (zL _) oM fun j _ hj => by (repeat (rw [xi, if_neg oM]))
   ·omega
   ·exact hda.mono (fun j hj => oM) fun j hj => by (repeat (rw [xi, if_neg oM]))
end
theorem Yz : ∀ l : List DT, SyL l (xz xu l)
 | [] => rfl
 | .mk k n t xs p :: r => by
  simp only [SyL, xz, xo]; exact ⟨.lst xs.length false (xC xs), p, xz xu r, rfl, rfl, Yz r⟩
theorem WG {m : Nat} (h : ∀ j, j < n → m.testBit j = true → False) : m % 2 ^ n = 0 := by
 apply Nat.eq_of_testBit_eq; intro j; rw [Nat.testBit_mod_two_pow, Nat.zero_testBit]; by_cases hj : j < n
 ·cases hb : m.testBit j with
  | false => simp
  | true => exact (h j hj hb).elim
 ·simp [hj]
theorem zvq {own : List DT} (h : apart own) {i k : Nat} {a b : DT} {r r' : List DT} (ha : own.drop k = a :: r) (hb : own.drop i = b :: r') (hk : k < i) : vR a b = false := by
 have hi : i < own.length := by
  have := congrArg yC hb; simp only [zmB, y8] at this; omega
 have e1 : own[k]'(by omega) = a := by
  have := zmL (l := own) (i := k) oM; rw [ha] at this; exact (List.cons.inj this).1.symm
 have e2 : own[i] = b := by
  have := zmL (l := own) (i := i) hi; rw [hb] at this; exact (List.cons.inj this).1.symm
 rw [← e1, ← e2]; exact List.pairwise_iff_getElem.1 h k i oM hi hk
theorem ztc {a b j : Nat} (h : j < a) : hid (bif decide (a = b) then [] else [(a, b)]) j = false := by
 cases decide (a = b) with
 | true => rfl
 | false =>
  have : Nat.ble a j = false := by
   cases hb : Nat.ble a j with
   | false => rfl
   | true => have := xN.1 hb; omega
  simp only [cond_false, hid, this]
def ltB (n0 q oid k : Nat) (nx : Nat) : List (Nat × AV) := [(2, .ptr n0 0), (9, .int .i64 (.ofNat (1000 + nx))), (10, .ptr q 0), (11, gSl 5 oid k)]
section
variable {O : Orc}
attribute [local go_sem] xo xH xF wc ltF gtF wz wg zmP zmQ zmU zmR ue qB vf in
theorem ztm (h6 : O 6 = none) (h9 : O 9 = none) (haw : ∀ s, (evW env O).call 5 [] s = some (.bool true, s)) {ls : wa} {p f t : DT} {nx : Nat} (hnx : nx < 256) (nf : xq f ≤ 300) (hold : ∀ s ∈ qm f, ltD (qL s) (.ofNat 1000) = true) {cc : List AV} (hcc : cc = .lst ls.length false (vb ls) :: (xu p ++ (xu f ++ xu t)))
  {T : List (Nat × AV)} {L : List (Nat × Option AObj)} {n0 m : Nat} {b : Bool} {own : List DT} {oid : Nat} {d' : DT} {cs : List AV} (t2 : (tmL T).get 2 = some (.ptr n0 0)) (t9 : (tmL T).get 9 = some (.int .i64 (.ofNat (1000 + nx)))) (t10 : ∃ q, q < n ∧ n0 ≠ q ∧ (tmL T).get 10 = some (.ptr q 0) ∧ xx L q = some (.row 25 cs false false)) (t11 : (tmL T).get 11 = some (gSl 5 oid own.length)) (hw : WfA L n) (h0 : n0 < n) (g0 : xx L n0 = some (.row 27 cc false false)) (hF : znb f (1000 + nx) L n own oid d' cs) :
  Ev (evC env (evW env O) none zou ⟨tmL T, []⟩ (KL L n m false [] none)) fun r fr t => Cv (mdR b (wR env.globs [.t 4] (some (r, fr, t)))) fun v _ => v = .bool true := by
 obtain ⟨hga, hol, hap, hda, hnd, hsy⟩ := hF; obtain ⟨q, hq, hq0, t10, gq⟩ := t10; unfold zou laT f3; simp only; refine xJ (xJ (xB ?_)); refine xQ ?_; refine wS (fun i : Nat => own.length - i) (fun i fr s => ∃ T m', fr = ⟨tmL T, []⟩ ∧ s = KL L n m' false [] none ∧ TG T (ltB n0 q oid own.length nx) ∧ (tmL T).get 14 = some (.int .i64 (.ofNat i)) ∧ i ≤ own.length) (fun i fr s hI => ?_) 0 ⟨_, _, rfl, rfl, by simp (disch := first | exact dis | fail) only [go_sem, seval, -rO, -rN, TG, ltB, *], sW, oM⟩
 clear t2 t9 t10 t11; obtain ⟨T, m', rfl, rfl, hT, t14, hi⟩ := hI; rcases x8 own i with ⟨hi2, hd⟩ | ⟨o, hi2, hd⟩
 ·have hT' := hT; simp only [TG, ltB] at hT'; obtain ⟨t2, t9, t10, t11, _⟩ := hT'; have hlt : ¬ i < own.length := oM; have hs1 := fun m => @Xt O h6 (fun r => r < n) _ d' (yx _) L n m 0 0 [] cs hw hda (fun r hr => ⟨hr, fun h => absurd rfl h⟩) ⟨rfl, fun h => absurd rfl h⟩ oM false; obtain ⟨kz, hcs, hkz⟩ := hda.cells; have hsl := p4 d'; have hsy' : ∀ s ∈ qm d', ((qm f).any (fun o => jV o (qL s) (x9 s)) = true) ∨ ∃ j o, own[j]? = some o ∧ qL s = qV .i64 (Int.add (.ofNat (1000 + nx)) (.ofNat j)) ∧ x9 s = x9 o := hsy; have hsF := fun {L n} m (hw : WfA L n) => @Xt O h6 (fun _ => False) _ f (yx _) L n m 0 0 [] _ hw (DAt.of _) (fun _ h => h.elim) ⟨rfl, fun h => absurd rfl h⟩ oM false; have hlF := p4 f; simp only [gSl] at hsF; generalize qm f = SF at *; generalize qm d' = SD at *; subst hcc; obtain ⟨fk, fn, ft, fks, fp⟩ := f; obtain ⟨pk, pn, pt, pks, pp⟩ := p; obtain ⟨tk, tn, tx, tks, tq⟩ := t; simp only [xo, y9, zmy] at g0 hsF; generalize xE d' = k1 at *; generalize qL d' = k2 at *; generalize x9 d' = k3 at *; generalize plD d' = k4 at *; simp only [gSl] at hs1; rw [hcs] at hs1 gq; clear hd hi2 hcs hap hsy hda; refine xB ?_; refine xJ (uy ?_); refine wL (hs1 _) fun v1 t hv => ?_; obtain ⟨id1, gs1, L1, n1, m1, rfl, rfl, hw1, hn1, hl1, hsy1, hid1, hmk1, hfr1⟩ := hv; simp only [yy, zmy] at hl1 hid1; have g0' := (hfr1 n0 h0 fun h => absurd rfl h).trans g0; have hga1 : GAt 25 xu L1 0 n1 oid own := hga.ext (zL _) hn1 fun j _ hj => hfr1 j hj fun h => absurd rfl h; clear hs1 hmk1 hfr1 g0 gq hga hw; refine xB ?_; refine xJ (xJ (xB ?_)); refine xQ ?_; refine wS (fun i : Nat => SD.length - i) (fun i fr s => ∃ T L' n' m', fr = ⟨tmL T, []⟩ ∧ s = KL L' n' m' false [] none ∧ TG T (ltB n0 q oid own.length nx) ∧ (tmL T).get 16 = some (gSl 5 id1 SD.length) ∧ (tmL T).get 17 = some (.int .i64 (.ofNat i)) ∧ i ≤ SD.length ∧ WfA L' n' ∧ n1 ≤ n' ∧ ∀ j, j < n1 → xx L' j = xx L1 j) (fun i fr s hI => ?_) 0 ⟨_, L1, n1, _, rfl, rfl, (by repeat (first | exact hT | refine wF ?_ rfl)), sW, sW, oM, hw1, zp _, fun _ _ => rfl⟩
  clear t2 t9 t10 t11 t14 hT hlt; obtain ⟨T, L2, n2, m2, rfl, rfl, hT, t16, t17, hi, hw2, hn2, hfr2⟩ := hI; have hT' := hT; simp only [TG, ltB] at hT'; obtain ⟨t2, t9, t10, t11, _⟩ := hT'; rcases x8 SD i with ⟨hi2, hd⟩ | ⟨s, hi2, hd⟩
  ·have hlt : ¬ i < SD.length := oM; clear hfr2; refine xB ?_; refine xw ?_; refine jN (r := .ret) ?_; show Cv _ _; refine x7 ?_; rfl
  ·have hx := @kR 5 id1 SD.length i hi2; obtain ⟨hc1, hc2, kx, px, hkx, hc5⟩ := hsy1.cut hd; obtain ⟨hidn, hg⟩ := hl1.2 oM; rw [← hfr2 _ hidn] at hg; rw [← hfr2 n0 oM] at g0'; replace hfr2 : ∀ j, j < n1 → xx L1 j = xx L2 j := fun j hj => (hfr2 j hj).symm; have hss := hsy' s (zmC (by rw [hd]; simp))
   clear hd hsy'; refine xw ?_; refine xJ (xQ ?_); rcases hss with hss | ⟨j, o, hj1, hj2, hj3⟩
   ·have hlt1 : ltD (qL s) (.ofNat 1000) = true := by
     obtain ⟨o, ho, hl⟩ := List.any_eq_true.1 hss; simp only [jV, zl, decide_eq_true_eq] at hl; have e : qL o = qL s := of_decide_eq_true hl.2; rw [← e]; exact hold o ho
    refine xw ?_; refine xw ?_; refine xJ (uy ?_); refine Vl (hsF _ hw2) fun v1 t hv => ?_; obtain ⟨id5, gs5, L5, n5, m5, rfl, rfl, hw5, hn5, hl5, hsy5, hid5, hmk5, hfr5⟩ := hv; simp only [yy, zmy] at hl5 hid5; have hm5 : m5 % 2 ^ n2 = 0 := WG fun j hj h => (hmk5 j hj h).elim (fun h => by simp at h) fun h => absurd rfl h.1
    have hhid := ztc (a := n2) (b := n5) (j := id1) oM; have hg5 := (hfr5 id1 oM fun h => absurd rfl h).trans hg; have hfr6 : ∀ j, j < n1 → xx L5 j = xx L1 j := fun j hj => by rw [hfr5 j oM fun h => absurd rfl h, hfr2 j hj]
    have hst := fun m b => zsm h9 hl5 hsy5 oM hkx m b (kk := xE s) (nn := qL s) (tt := x9 s) (pp := px); rw [hss] at hst; clear hmk5 hfr5 hl5 hsy5 hid5 hfr2 hsF hl1 hsy1; rw [yy]; refine xB ?_; refine xB ?_; refine xB ?_; exact ⟨i + 1, ⟨_, L5, n5, _, rfl, rfl, (by repeat (first | exact hT | refine wF ?_ rfl)), sV, sV, oM, hw5, oM, hfr6⟩, oM⟩
   ·have hjo : j < own.length := by
     rcases Nat.lt_or_ge j own.length with h | h
     ·exact h
     ·rw [List.getElem?_eq_none h] at hj1; cases hj1
    have hdo : own.drop j = o :: own.drop (j + 1) := by
     rw [zmL hjo]; rw [yl hjo] at hj1; cases hj1; rfl
    have hnum : qL s = .ofNat (1000 + nx + j) := by
     rw [hj2]; show qV .i64 (.ofNat (1000 + nx + j)) = _; rw [Yw oM]
    have hsub2 : qV .i64 (Int.sub (.ofNat (1000 + nx + j)) (.ofNat (1000 + nx))) = .ofNat j := by
     rw [zwN oM, Yw oM]
     congr 1; omega
    have hia2 := @kR 5 oid own.length j hjo; obtain ⟨_, hc4, _⟩ := (Yz own).cut hdo; obtain ⟨_, hon, hgo⟩ := hga1 (by intro e; rw [e] at hjo; simp at hjo)
    rw [hfr2 _ hon] at hgo; rw [hnum] at hc1; rw [hj3] at hc2; have hlt1 : ltD (.ofNat (1000 + nx + j)) (.ofNat 1000) = false := by rw [lN]; exact decide_eq_false oM
    clear hj1 hj2 hj3 hnum hdo hsF hga1 hl1 hsy1 hc5; refine xw ?_; refine xw ?_; refine xw ?_; refine xB ?_; refine xB ?_; exact ⟨i + 1, ⟨_, L2, n2, _, rfl, rfl, (by repeat (first | exact hT | refine wF ?_ rfl)), sV, sV, oM, hw2, oM, fun j hj => (hfr2 j hj).symm⟩, oM⟩
 ·have hT' := hT; simp only [TG, ltB] at hT'; obtain ⟨t2, t9, t10, t11, _⟩ := hT'; have hx := @kR 5 oid own.length i hi2; obtain ⟨hc1, hc2, _⟩ := (Yz own).cut hd; obtain ⟨_, hidn, hg⟩ := hga (by intro e; rw [e] at hi2; simp at hi2)
  refine xw ?_; refine xJ (xQ ?_); refine xJ (xB ?_); refine xQ ?_; refine wS (fun k : Nat => i - k) (fun k fr s => ∃ T m', fr = ⟨tmL T, []⟩ ∧ s = KL L n m' false [] none ∧ TG T (ltB n0 q oid own.length nx) ∧ (tmL T).get 14 = some (.int .i64 (.ofNat i)) ∧ (tmL T).get 15 = some (.int .i64 (.ofNat k)) ∧ k ≤ i) (fun k fr s hI => ?_) 0 ⟨_, _, rfl, rfl, (by repeat (first | exact hT | refine wF ?_ rfl)), sV, sV, oM⟩
  clear t2 t9 t10 t11 t14 hT; obtain ⟨T, m', rfl, rfl, hT, t14, t15, hk⟩ := hI; have hT' := hT; simp only [TG, ltB] at hT'; obtain ⟨t2, t9, t10, t11, _⟩ := hT'; by_cases hki : k < i
  ·obtain ⟨o2, hd2⟩ : ∃ o2, own.drop k = o2 :: own.drop (k + 1) := ⟨_, zmL oM⟩; have hx2 := @kR 5 oid own.length k oM; obtain ⟨hc3, hc4, _⟩ := (Yz own).cut hd2; have hlk := zvq hap hd2 hd hki; clear hd hd2 hga hap hda hsy; simp only [vR, decide_eq_false_iff_not, not_and] at hlk; by_cases htx : x9 o = x9 o2
   ·have hnn : eqD (qL o) (qL o2) = false := decide_eq_false fun e => hlk htx.symm e.symm; rw [htx] at hc2; clear hlk htx; refine xB ?_; exact ⟨k + 1, ⟨_, _, rfl, rfl, (by repeat (first | exact hT | refine wF ?_ rfl)), sV, sV, oM⟩, oM⟩
   ·clear hlk; refine xB ?_; exact ⟨k + 1, ⟨_, _, rfl, rfl, (by repeat (first | exact hT | refine wF ?_ rfl)), sV, sV, oM⟩, oM⟩
  ·refine xB ?_; refine xB ?_; exact ⟨i + 1, ⟨_, _, rfl, rfl, (by repeat (first | exact hT | refine wF ?_ rfl)), sV, oM⟩, oM⟩
end
def caseA (ls : wa) (p f t : DT) : AV := .agg (qR ls :: (xu p ++ (xu f ++ xu t)))
section
variable {O : Orc}
attribute [local go_sem] caseA qR xo xH xF wc ltF gtF wz wg zmP zmQ zmU zmR ue qB vf in
theorem ztl (h3 : O 3 = none) (h4 : O 4 = none) (h10 : O 10 = none) {N : Nat} (h11 : O 11 = some (Ps N)) (hN : 300 < N) (h6 : O 6 = none) (haw : ∀ s, (evW env O).call 5 [] s = some (.bool true, s)) {ls : wa} {p f t : DT} {nx : Nat} (hnx : nx < 256) (hls : ls.length < 1000000000) (xp : TxD p) (xf : TxD f) (xt : TxD t)
  (hmid : xq p ≤ 300 → xq f ≤ 300 → xq t ≤ 300 → wI p = true → wI t = true → ∀ (T : List (Nat × AV)) (L : List (Nat × Option AObj)) (n0 n m : Nat) (b : Bool), (∀ s ∈ qm f, ltD (qL s) (.ofNat 1000) = true) → (tmL T).get 1 = some (.int .u8 (.ofNat nx)) → (tmL T).get 2 = some (.ptr n0 0) → n0 < n → xx L n0 = some (.row 27 (.lst ls.length false (vb ls) :: (xu p ++ (xu f ++ xu t))) false false) → WfA L n → Ev (evC env (evW env O) none laT ⟨tmL T, []⟩ (KL L n m false [] none)) fun r fr t => Cv (mdR b (wR env.globs [.t 4] (some (r, fr, t)))) fun v _ => v = .bool true) {L : List (Nat × Option AObj)} {n m : Nat} (hw : WfA L n) (b : Bool) :
  Ev (evC env (evW env O) none f3.body ⟨wN (tmL []) 0 [caseA ls p f t, .int .u8 (.ofNat nx)], []⟩ (KL L n m false [] none)) fun r fr t => Cv (mdR b (wR env.globs f3.res (some (r, fr, t)))) fun v _ => v = .bool true := by
 have hla := fun {L n id q} (hid : id < n) (hg : xx L id = some (.row 25 (xz xu [p, f, t]) false false)) m => @ztk O h4 h10 N h11 hN [p, f, t] (by simp) (by simp [xp, xf, xt]) L n id _ q false false hid hg m false
 have hbn := fun x (hx : x ∈ [p, f, t]) (h : [p, f, t].any ZX = false) => zvw (by rw [List.any_eq_false] at h; simpa using h x hx)
 generalize hbg : [p, f, t].any ZX = big at *; unfold f3; simp only [Ko, Kg, Kn, Kd, Ke, Ki]; generalize hp0 : p = p0 at *; generalize hf0 : f = f0 at *; generalize ht0 : t = t0 at *; obtain ⟨pk, pn, pt, pks, pp⟩ := p; obtain ⟨fk, fn, ft, fks, fp⟩ := f; obtain ⟨tk, tn, tx, tks, tq⟩ := t; subst hp0; subst hf0; subst ht0; simp only [xz, xo, y9, zmy, zmw, y8, y7, yy, Nat.reduceAdd] at hla; refine xw ?_; have hla1 := fun (L : List (Nat × Option AObj)) => @hla ((n + 1, some (.row 25 [.int .i64 pk, .int .i64 pn, .str pt, .lst pks.length false (xC pks), .int .i64 pp, .int .i64 fk, .int .i64 fn, .str ft, .lst fks.length false (xC fks), .int .i64 fp, .int .i64 tk, .int .i64 tn, .str tx, .lst tks.length false (xC tks), .int .i64 tq] false false)) :: L) (n + 1 + 1) (n + 1) 3 oM (by rw [xi, if_pos rfl])
 clear hla; cases big with
 | true =>
  refine xw ?_; refine x7 ?_; rfl
 | false =>
  by_cases h20 : 20 < ls.length
  ·refine xw ?_; refine x7 ?_; rfl
  ·obtain ⟨np, mp⟩ := hbn (.mk pk pn pt pks pp) (by simp) rfl
   obtain ⟨nf, mf⟩ := hbn (.mk fk fn ft fks fp) (by simp) rfl
   obtain ⟨nt, mt⟩ := hbn (.mk tk tn tx tks tq) (by simp) rfl
   refine xw ?_; clear hla1 hbn hbg; have hw2 : ∀ o1 o2 : Option AObj, WfA ((n + 1, o1) :: (n, o2) :: L) (n + 1 + 1) := fun o1 o2 => (hw.cons (yx _) (zmO _)).cons (yx _) (zmO _); have hs1 := fun o1 o2 m => @Xt O h6 (fun _ => False) _ (.mk fk fn ft fks fp) (yx _) ((n + 1, o1) :: (n, o2) :: L) (n + 1 + 1) m 0 0 [] _ (hw2 o1 o2) (DAt.of _) (fun _ h => h.elim) ⟨rfl, fun h => absurd rfl h⟩ oM false; have hs2 := fun {L n m id k gs} (a1 : WfA L n) a2 a3 => @Xt O h6 (fun _ => False) _ (.mk tk tn tx tks tq) (yx _) L n m id k gs _ a1 (DAt.of _) (fun _ h => h.elim) a2 a3 false; have hsl1 := p4 (.mk fk fn ft fks fp); have hsl2 := p4 (.mk tk tn tx tks tq); generalize hF : qm (.mk fk fn ft fks fp) = SF at *; generalize hT : qm (.mk tk tn tx tks tq) = ST at *; simp only [xo, gSl] at hs1; simp only [xo] at hs2; refine xJ (uy ?_); refine Vl (hs1 _ _ _) fun v1 t hv => ?_; obtain ⟨id1, gs1, L1, n1, m1, rfl, rfl, hw1, hn1, hl1, hsy1, hid1, hmk1, hfr1⟩ := hv; simp only [yy, zmy] at hl1 hid1; have hm1 : m1 % 2 ^ (n + 1 + 1) = 0 := WG fun j hj h => (hmk1 j hj h).elim (fun h => by simp at h) fun h => absurd rfl h.1
   have g0 := hfr1 n oM fun h => absurd rfl h; simp (disch := first | exact dis | fail) only [go_sem, seval, -rO, -rN] at g0
   have hs2' := fun m => hs2 (m := m) hw1 hl1 oM; have hhid := ztc (a := n + 1 + 1) (b := n1) (j := n) oM; clear hs1 hs2 hmk1; rw [yy]; refine uy ?_; refine Vl (hs2' _) fun v1 t hv => ?_; obtain ⟨id2, gs2, L2, n2, m2, rfl, rfl, hw2', hn2, hl2, hsy2, hid2, hmk2, hfr2⟩ := hv; have hid1n : SF.length ≠ 0 → n + 2 ≤ id1 := fun h => (hid1 h).elim (fun h => absurd rfl h.1) id; rw [← hfr2 n oM (fun h => by have := hid1n h; omega)] at g0
   have hsO := hsy1.app hsy2; have hlO : SF.length + ST.length = (SF ++ ST).length := by rw [yd]
   rw [hlO] at hl2 hid2 ⊢; have hlb : (SF ++ ST).length < 1000 := by rw [yd]; omega
   have hSF : ∀ s ∈ SF, s ∈ SF ++ ST := fun s h => zmN _ h; clear hhid hfr1 hfr2 hmk2 hs2' hsy1 hsy2 hl1 hid1 hid2 hlO hid1n; generalize hSS : SF ++ ST = SO at *; generalize gs1 ++ gs2 = gO at *; refine xB ?_; refine xJ (xJ (xB ?_)); refine xQ ?_; refine wS (fun i : Nat => SO.length - i) (fun i fr s => ∃ T m', fr = ⟨tmL T, []⟩ ∧ s = KL L2 n2 m' false [] none ∧ (tmL T).get 1 = some (.int .u8 (.ofNat nx)) ∧ (tmL T).get 2 = some (.ptr n 0) ∧ (tmL T).get 5 = some (gSl 5 id2 SO.length) ∧ (tmL T).get 6 = some (.int .i64 (.ofNat i)) ∧ i ≤ SO.length ∧ ∀ s ∈ SO.take i, ltD (qL s) (.ofNat 1000) = true) (fun i fr s hI => ?_) 0 ⟨_, _, rfl, rfl, sW, sW, sW, sW, oM, fun s hs => absurd hs (by simp)⟩
   obtain ⟨T, m', rfl, rfl, t1, t2, t5, t6, hi, hlo⟩ := hI; rcases x8 SO i with ⟨hi2, hd⟩ | ⟨o, hi2, hd⟩
   ·rw [zG hi2] at hlo; have hlt : ¬ i < SO.length := oM; have hm2 := hmid np nf nt mp mt; simp only [xo, y9, zmy] at hm2; refine xB ?_; exact hm2 _ L2 n n2 _ b (fun s hs => hlo s (hSF s hs)) sV sV oM g0 hw2'
   ·have hx := @kR 5 id2 SO.length i hi2; obtain ⟨hc1, hc2, _⟩ := hsO.cut hd; obtain ⟨hidn, hg⟩ := hl2.2 oM; have htk := jd hd; clear hd hsO hl2 hSF hSS; cases hq : ltD (qL o) (.ofNat 1000) with
    | true =>
     have hlo' : ∀ s ∈ SO.take (i + 1), ltD (qL s) (.ofNat 1000) = true := fun s hs => by
      rw [htk] at hs; rcases List.mem_append.1 hs with hs | hs
      ·exact hlo s hs
      ·simp only [zmE, zmD, or_false] at hs; subst hs; exact hq
     clear htk hlo; refine xB ?_; exact ⟨i + 1, ⟨_, _, rfl, rfl, sV, sV, sV, sV, oM, hlo'⟩, oM⟩
    | false =>
     clear htk hlo; refine xB ?_; refine x7 ?_; rfl
end
set_option maxRecDepth 1000000
theorem zp5 (h : gm P E) (p : Nat → Bool) : gm P { E with pure := p } := h
def zp6 : Env := { env with pure := fun _ => false }
theorem zrd (h : gm P env) : gm P zp6 := zp5 h (fun _ => false)
theorem zpS : okV (.bool true) ((evT zp6 noO 100000).call 5 [] s0) = true := by decide +kernel
noncomputable def zr9 : List AV → St → Option (AV × St) := uu (fun _ : Unit => []) (fun _ => True) (fun _ => .bool true)
theorem zvt (h : O 5 = some zr9) (s : St) : (evW env O).call 5 [] s = some (.bool true, s) := by
 rw [qC h, zr9, uJ (fun _ _ _ => rfl) s () trivial rfl]
theorem zpT (B : Bx P w0) : ∃ s1, SC P w0 5 [] (s00 0 false) (.bool true) s1 :=
 znR (E := zp6) (n := 100000) (KY P w0) B.mixed B.glob (zrd B.env) zpS
theorem zyK (B : Bx P w0) (hO : OrcOk P w0 O) : OrcOk P w0 (withG 5 zr9 O) :=
 hO.withG kY (VD false (fun _ => rfl) (fun _ => rfl) fun _ _ => zpT B)
open Go.RowKit (Below)
theorem WX {α : Type} {f : Nat} {enc : α → List AV} {Pre : α → Prop} {F : α → AV} (hO : OrcOk P w0 O) (hp1 : ∀ x, xK (enc x) = true) (hp2 : ∀ x, x0 (F x) = true) (h : ∀ x, Pre x → SC P w0 f (enc x) (H [] 0 true) (F x) (H [] 0 true)) : OrcOk P w0 (withG f (uu enc Pre F) O) :=
 hO.withG kY (VD true hp1 hp2 fun x hx => ⟨_, h x hx⟩)
theorem zxm (c : Int) : xK (L7 c) = true := rfl
theorem zxp (c : Nat) : xK (Pb c) = true := rfl
noncomputable def oA : Orc := withG 21 gIs (withG 74 zu0 (withG 73 G8 (withG 20 G6 (withG 32 Uy (withG 18 Uy noO)))))
noncomputable def oB : Orc := withG 19 KN (withG 46 G5 (withG 59 zu1 oA))
section
variable {P : Program} {w0 : World} (B : Bx P w0)
include B
theorem zty : OrcOk P w0 oA := by
 have h0 := KY P w0; have h1 := zx1 B h0; have h6 : OrcOk P w0 (withG 20 G6 _) := WX h1 U5 (fun _ => rfl) fun x hx => zwd B h0 x hx.1 hx.2; have h9 : OrcOk P w0 (withG 73 G8 _) := WX h6 U3 (fun _ => rfl) fun x hx => zq6 B h0 x hx.1 hx.2.1 hx.2.2; have h10 : OrcOk P w0 (withG 74 zu0 _) := WX h9 zxp (fun _ => zx5 _) fun x hx => zpX B h0 x hx; exact WX h10 zxm (fun _ => rfl) fun x _ => zt2 B h0 x
theorem zpA : OrcOk P w0 oB := by
 have h0 := zty B; have h5 : OrcOk P w0 (withG 59 zu1 _) := WX h0 LY (fun _ => zxU _) fun x hx => zoq B h0 rfl rfl rfl x.1 x.2 hx.1 hx.2.1 hx.2.2; have h2 : OrcOk P w0 (withG 46 G5 _) := WX h5 U3 Lp fun x hx => zsS B h5 rfl x hx.1 hx.2; exact WX h2 U5 GC fun x hx => zy5 B h2 rfl x hx.1 hx.2
theorem zz0 : ∀ (N : Nat), N ≤ 100000 → OrcOk P w0 (withG 11 (Ps N) oB)
 | 0, _ => WX (zpA B) uw (fun _ => rfl) fun x hx => absurd hx.2 (zms _)
 | N + 1, h => by
  have ih := zz0 N oM; exact WX (zpA B) uw (fun _ => rfl) fun x hx => zww B ih rfl rfl rfl rfl rfl oM x hx.1 hx.2
theorem HG : ∀ (N : Nat), N ≤ 1000000 → OrcOk P w0 (withG 28 (Y6 N) oA)
 | 0, _ => WX (zty B) Q9 (fun _ => rfl) fun x hx => absurd hx (zms _)
 | N + 1, h => by
  have ih := HG N oM; have hi : OrcOk P w0 (withG 53 (zqa N) (withG 28 (Y6 N) oA)) := WX ih (L6 _) (fun _ => rfl) fun x hx => zoa B ih rfl oM x.1 x.2 hx; exact WX (zty B) Q9 (fun _ => rfl) fun x hx => zqQ B hi rfl rfl rfl x.1 x.2 hx
end
noncomputable def oC : Orc := withG 35 gKn (withG 27 kQ (withG 36 Qa (withG 29 Y5 (withG 25 Qb (withG 24 zxR (withG 26 zxQ (withG 72 zoo (withG 28 (Y6 180001) oA))))))))
noncomputable def oD : Orc := withG 33 gBh (withG 31 zqb (withG 30 gPa oC))
noncomputable def oE : Orc := withG 13 (gMt 400) (withG 14 (gVs 180001) oD)
noncomputable def oF : Orc := withG 7 (gMa 400) (withG 15 (gTm 400) (withG 11 (Ps 400) (withG 5 zr9 oC)))
section
variable {P : Program} {w0 : World} (B : Bx P w0)
include B
theorem zpB : OrcOk P w0 oC := by
 have c0 := HG B 180001 oM; have c1 : OrcOk P w0 (withG 72 zoo _) := kn c0 L9 (fun _ => rfl) fun x hx => zqS B c0 x.1 x.2 hx; have c2 : OrcOk P w0 (withG 26 zxQ _) := kn c1 Z1 (fun _ => rfl) fun x hx => zox B c1 rfl rfl x.1 x.2 hx; have c3 : OrcOk P w0 (withG 24 zxR _) := kn c2 Z1 (fun _ => rfl) fun x hx => zo5 B c2 rfl x.1 x.2 hx; have c4 : OrcOk P w0 (withG 25 Qb _) := kn c3 Z1 (fun _ => rfl) fun x hx => zp4 B c3 rfl rfl x.1 x.2 hx; have c5 : OrcOk P w0 (withG 29 Y5 _) := kn c4 uw (fun x => zxY x) fun x hx => zor B c4 rfl x hx; have c6 : OrcOk P w0 (withG 36 Qa _) := kn c5 uw (fun _ => rfl) fun x hx => zp3 B c5 x; have c7 : OrcOk P w0 (withG 27 kQ _) := kn c6 uw (fun _ => rfl) fun x hx => zqt B c6 x; exact kn c7 L8 (fun _ => rfl) fun x hx => ztj B c7 rfl rfl rfl x.1 x.2 hx
theorem znC : OrcOk P w0 oD := by
 have c8 := zpB B; have c9 : OrcOk P w0 (withG 30 gPa _) := kn c8 Pc (fun x => PU x) fun x hx => ztW B c8 rfl rfl x.1 x.2 hx.1 hx.2; have c10 : OrcOk P w0 (withG 31 zqb _) := kn c9 Pd (fun x => zwA x) fun x hx => zoI B c9 x hx; exact kn c10 LZ (fun x => vw _) fun x hx => zyL B c10 x.1 x.2 hx
theorem znD : OrcOk P w0 oE := by
 have c11 := Ll B (znC B) rfl rfl rfl rfl 180001; exact Jv B c11 rfl rfl rfl rfl rfl rfl rfl rfl rfl rfl rfl rfl oM oM 400
theorem znF : OrcOk P w0 oF := by
 have c8 := zpB B; have c9 := zyK B c8; have c10 := c9.withG kY ((zz0 B 400 oM).ok 11 _ rfl); have c11 := c10.withG kY ((zst B c8 rfl rfl rfl rfl rfl rfl 400).ok 15 _ rfl); exact kn c11 Pa (fun x => ztp x) fun x hx => znu B (znD B) rfl rfl oM x.1 x.2.1 x.2.2 hx
end
theorem zyw {us : List VT} {K : Nat} (h : ∀ v ∈ us, szV v ≤ K) (hK : 1 ≤ K) : ∀ l : List Nat, gk us l ≤ l.length * K
 | [] => zL _
 | i :: r => by
  have h1 := zyw h hK r; have h2 : szV (wAt us i) ≤ K := by
   unfold wAt; cases hi : us[i]? with
   | none => exact hK
   | some v => exact h v (List.mem_of_getElem? hi)
  simp only [gk, y8, Nat.succ_mul]; omega
theorem zov (B : Bx P w0) {ls : wa} {p f t : DT} {nx : Nat} (hnx : nx < 256) (hls : ls.length < 1000000000) (xp : TxD p) (xf : TxD f) (xt : TxD t) : ∃ s1, SC P w0 3 [caseA ls p f t, .int .u8 (.ofNat nx)] (s00 0 true) (.bool true) s1 := by
 have hO := znF B; have haw := fun s => zvt (O := oF) rfl s; refine V6 hO B.mixed B.glob B.env (znh (F := f3) rfl rfl (zmv rfl) ((ztl (O := oF) rfl rfl rfl (N := 400) rfl oM rfl haw hnx hls xp xf xt (fun np nf nt mp mt T L n0 n m b hold t1 t2 h0 g0 hw => zqs (N := 400) rfl oM haw hnx hls np nf nt mp (fun vs us L n m h1 h2 h3 h4 => zuL (N := 400) rfl rfl rfl rfl rfl rfl rfl rfl rfl rfl rfl rfl rfl rfl rfl rfl rfl rfl rfl rfl rfl rfl h1 (by have := ka t; omega) mt oM (K := 300) oM h2 (fun _ => ?_) h4 false) rfl t1 t2 h0 g0 hw fun T2 L2 n2 m2 own oid d' cs a1 a2 a3 a4 a5 a6 a7 a8 => ztm rfl rfl haw hnx nf hold rfl a1 a2 a3 a4 a5 a6 a7 a8) (L := []) (n := 0) (m := 0) Qq true).mono fun r fr s h => h.mono fun v s1 hv => by subst hv; exact xM _ _))
 have e1 := (lc (vs := vs) _ t (yx _) (.inl mt)).2; have e2 := zyw h3 oM (wG vs t); have e3 : sD vs us t ≤ 90000 := by
  unfold sD; have : (wG vs t).length * 300 ≤ 300 * 300 := Nat.mul_le_mul_right _ oM; omega
 unfold bD
 calc (300 + 2) * xq t * sD vs us t ≤ 302 * 300 * 90000 := Nat.mul_le_mul (Nat.mul_le_mul_left _ nt) e3
  _ ≤ 500000000000 := by decide
structure Mu (H0 : Type) (μ : DataW H0 → Nat) : Prop where
 str : ∀ b : List UInt8, b.length ≤ μ (.lit (.string b))
 sl : ∀ es sp : List (DataW H0), (∀ d ∈ es, μ d ≤ μ (.slice es sp)) ∧ es.length ≤ μ (.slice es sp)
 ag : ∀ ps : List (DataW H0), ∀ d ∈ ps, μ d ≤ μ (.agg ps)
section
variable {H0 : Type} {enc : TypeId × Value → H0} {P : Program} {W : World} {sp : Nat → Bool} {held : Bool} {tD tI tS tK tE : TypeId} {fs : Array Field} {α : Type} {f : α → List AV} {k N : Nat} {μ : DataW H0 → Nat}
theorem Qx {a : Addr} {n : Nat} (h0 : 0 < k) (hk : P.cellsOf tE = k) (hsp : a.spot = none)
  (ih : ∀ cs x, DataW.trod enc P W 0 sp held n tE cs = some x → μ x.1 ≤ N → ∃ d, VRL (UE W) (f d) cs) :
  ∀ (len : Nat), (∀ i, i < len → ∃ x, (W.cells? 0 (a.add (i * k)) k).bind (DataW.trod enc P W 0 sp held n tE) = some x ∧ μ x.1 ≤ N) →
   ∃ ds ys, ds.length = len ∧ ys.length = len * k ∧ VRL (UE W) (xz f ds) ys ∧ ∀ i y, ys[i]? = some y → (UE W).z a.block (a.off + i) = some y
 | 0, _ => ⟨[], [], rfl, by simp, VRL.nil _, fun i y h => by simp at h⟩
 | len + 1, h => by
  obtain ⟨ds, ys, h1, h2, h3, h4⟩ := Qx h0 hk hsp ih len (fun i hi => h i oM); obtain ⟨x, hx, hm⟩ := h len oM; cases hc : W.cells? 0 (a.add (len * k)) k with
  | none => rw [hc] at hx; cases hx
  | some cs =>
   rw [hc] at hx; obtain ⟨d, hd⟩ := ih cs x hx hm; obtain ⟨_, hl, hg⟩ := World.cells?_some hc; refine ⟨ds ++ [d], ys ++ cs, by simp [h1], by rw [yd, h2, hl, Nat.succ_mul], by rw [xY, XS]; exact VRL.append h3 hd, fun i y hy => ?_⟩
   by_cases hi : i < ys.length
   ·rw [List.getElem?_append_left hi] at hy; exact h4 i y hy
   ·rw [List.getElem?_append_right oM] at hy; have hj : i - ys.length < k := by
     rw [← hl]; exact (List.getElem?_eq_some_iff.1 hy).1
    have := hg (i - ys.length) hj; rw [hy, Gk hsp, Gk rfl] at this; show W.cell? ⟨a.block, a.off + i, none⟩ = some y; rw [← this]
    congr 2
    simp only; omega
theorem Qy (hM : Mu H0 μ) (h0 : 0 < k) (hk : P.cellsOf tE = k) (hK : P.underlying tK = some (.slice tE)) (hp : ∀ d, xK (f d) = true)
  (ih : ∀ m, m < n → ∀ cs x, DataW.trod enc P W 0 sp held m tE cs = some x → μ x.1 ≤ N → ∃ d, VRL (UE W) (f d) cs)
  (hs : sp = fun _ => true) {cs : List Value} {x : DataW H0 × List MemPlace} (h : DataW.trod enc P W 0 sp held n tK cs = some x) (hN : μ x.1 ≤ N) :
  ∃ ds v, cs = [v] ∧ VR (UE W) (.lst ds.length false (xz f ds)) v ∧ ds.length ≤ N := by
 rcases DataW.trod_slice hK h with ⟨rfl, _⟩ | ⟨a, len, cap, elems, rest, m, rfl, rfl, rfl, _, hlc, hcm, hel, hsl, hspare, _⟩
 ·exact ⟨[], _, rfl, by simp only [VR]; exact ⟨rfl, .inl ⟨rfl, _, rfl⟩⟩, zL _⟩
 ·rw [hk] at hsl hspare; have hsm := hM.sl (elems.map (·.1)) (rest.map (·.1)); replace hN : μ (DataW.slice (elems.map (·.1)) (rest.map (·.1))) ≤ N := hN; by_cases hcap : cap = 0
  ·subst hcap; obtain rfl : len = 0 := oM; exact ⟨[], _, rfl, by simp only [VR]; exact ⟨rfl, .inl ⟨rfl, _, rfl⟩⟩, zL _⟩
  ·have hcell : ∃ x, (W.cells? 0 (a.add (0 * k)) k) = some x := by
    by_cases hl : 0 < len
    ·have := hsl 0 hl; rw [yl oM] at this; cases hc : W.cells? 0 (a.add (0 * k)) k with
     | none => rw [hc] at this; cases this
     | some y => exact ⟨y, rfl⟩
    ·obtain rfl : len = 0 := oM; obtain ⟨hr, hj⟩ := hspare (by rw [hs])
     have := hj 0 oM; rw [yl oM] at this; rw [yy] at this; cases hc : W.cells? 0 (a.add (0 * k)) k with
     | none => rw [hc] at this; cases this
     | some y => exact ⟨y, rfl⟩
   obtain ⟨y, hy⟩ := hcell; have hspot : a.spot = none := by
    obtain ⟨_, hl, hg⟩ := World.cells?_some hy; have h1 := hg 0 h0; rw [yl oM] at h1; obtain ⟨_, _, _, _, h2, _⟩ := zzB h1
    simpa [Addr.add] using h2
   obtain ⟨ds, ys, g1, _, g3, g4⟩ := Qx (W := W) (enc := enc) (sp := sp) (held := held) (μ := μ) (N := N) h0 hk hspot (ih m oM) len fun i hi => by
    have := hsl i hi; rw [yl oM] at this; exact ⟨_, this, zt (hsm.1 _ (List.mem_map.2 ⟨_, zlc oM, rfl⟩)) hN⟩
   refine ⟨ds, _, rfl, ?_, ?_⟩
   ·simp only [VR]; refine ⟨qr hp ds, .inr ⟨a.block, a.off, cap, ys, ?_, by simp, oM, ZC.of g4, g3⟩⟩
    rw [g1]; cases a; simp only at hspot; subst hspot; rfl
   ·have := hsm.2; rw [List.length_map] at this; omega
def DTx := { d : DT // TxD d }
def QT (d : DTx) : List AV := xu d.1
theorem zyA : ∀ l : List DTx, TxL (l.map (·.1))
 | [] => by simp only [zV, TxL]
 | d :: r => by simp only [zA, TxL]; exact ⟨d.2, zyA r⟩
theorem QU : ∀ l : List DTx, xC (l.map (·.1)) = xz QT l
 | [] => by simp only [zV, xC, xz]
 | d :: r => by simp only [zA, xC, xz, QU r, QT]
theorem ztv (s : ByteArray) : (qK s).length = s.data.toList.length := by simp [qK]
theorem ZU (hM : Mu H0 μ) (hN2 : N < 2000000) (T : DatumTy P tD tI tS tK fs) (hs : sp = fun _ => true) : ∀ (n : Nat) (cs : List Value) (x : DataW H0 × List MemPlace), DataW.trod enc P W 0 sp held n tD cs = some x → μ x.1 ≤ N → ∃ d : DTx, VRL (UE W) (QT d) cs := by
 intro n
 induction n using Nat.strongRecOn with
 | ind n ih =>
 intro cs x h hN; obtain ⟨xs, m, rfl, rfl, hl, hlen, hf⟩ := DataW.trod_struct T.d h; rw [T.cd] at hl; obtain ⟨c0, c1, c2, c3, c4, rfl⟩ := zno hl; have hfs := T.fs; obtain ⟨f0, f1, f2, f3, f4, hfe⟩ := zno (l := fs.toList) (by have := congrArg yC hfs; simpa using this)
 rw [hfe] at hfs; simp only [zA, zV, xe, Prod.mk.injEq, and_true] at hfs; obtain ⟨⟨a0, b0⟩, ⟨a1, b1⟩, ⟨a2, b2⟩, ⟨a3, b3⟩, ⟨a4, b4⟩⟩ := hfs; have hag := hM.ag (xs.map (·.1)); have hat : ∀ (i : Nat) (f : Field), fs.toList[i]? = some f → ∃ y, DataW.trod enc P W 0 sp held m f.type (([c0, c1, c2, c3, c4].drop f.offset).take (P.cellsOf f.type)) = some y ∧ μ y.1 ≤ N := fun i f hi => by
  have h1 := hf i f (by rw [← zy]; exact hi)
  have hlt : i < fs.toList.length := (List.getElem?_eq_some_iff.1 hi).1; rw [yl (by rw [hlen]; simpa using hlt)] at h1
  exact ⟨_, h1, zt (hag _ (List.mem_map.2 ⟨_, zlc _, rfl⟩)) hN⟩
 obtain ⟨y0, g0, _⟩ := hat 0 f0 (by rw [hfe]; rfl)
 obtain ⟨y1, g1, _⟩ := hat 1 f1 (by rw [hfe]; rfl)
 obtain ⟨y2, g2, m2⟩ := hat 2 f2 (by rw [hfe]; rfl)
 obtain ⟨y3, g3, m3⟩ := hat 3 f3 (by rw [hfe]; rfl)
 obtain ⟨y4, g4, _⟩ := hat 4 f4 (by rw [hfe]; rfl)
 rw [a0, b0, T.ci] at g0; rw [a1, b1, T.ci] at g1; rw [a2, b2, T.cs] at g2; rw [a3, b3, T.ck] at g3; rw [a4, b4, T.ci] at g4; obtain ⟨n0, e0, _, _⟩ := DataW.trod_int T.i g0; obtain ⟨n1, e1, _, _⟩ := DataW.trod_int T.i g1; obtain ⟨s2, e2, z2, _⟩ := DataW.trod_string T.s g2; obtain ⟨n4, e4, _, _⟩ := DataW.trod_int T.i g4; subst z2; have hst := hM.str s2.data.toList; replace m2 : μ (DataW.lit (.string s2.data.toList)) ≤ N := m2; simp at e0 e1 e2 e4; subst e0; subst e1; subst e2; subst e4; obtain ⟨ds, v, q1, q2, q3⟩ := Qy hM (f := QT) oM T.cd T.k (fun d => qZ d.1) (n := m) (fun k hk cs x h hm => ih k oM cs x h hm) hs g3 m3; simp at q1; subst q1; refine ⟨⟨.mk n0 n1 (qK s2) (ds.map (·.1)) n4, ?_⟩, ?_⟩
 ·simp only [TxD]; exact ⟨zvN s2, by rw [ztv]; omega, zyA ds⟩
 ·simp only [QT, xu, List.length_map, QU]; exact VRL.cons (by simp [VR]) (VRL.cons (by simp [VR]) (VRL.cons (by simp only [VR]; exact ⟨s2, rfl, rfl⟩) (VRL.cons q2 (VRL.cons (by simp [VR]) (VRL.nil _)))))
structure CaseTy (P : Program) (tC tL tD tS : TypeId) (gs : Array Field) : Prop where
 c : P.underlying tC = some (.struct gs)
 fs : gs.toList.map (fun f => (f.type, f.offset)) = [(tL, 0), (tD, 1), (tD, 6), (tD, 11)]
 l : P.underlying tL = some (.slice tS)
 cc : P.cellsOf tC = 16
 cl : P.cellsOf tL = 1
theorem zmg {α : Type} {l : List α} (h : l.length = 4) : ∃ a b c d, l = [a, b, c, d] := by
 match l, h with
 | [a, b, c, d], _ => exact ⟨a, b, c, d, rfl⟩
theorem JN : ∀ ls : wa, xz (fun s => [AV.str s]) ls = vb ls
 | [] => rfl
 | s :: r => by simp only [xz, JN r, vb, zA, y9, zmy]
theorem abs_case {tC tL : TypeId} {gs : Array Field} (hM : Mu H0 μ) (hN2 : N < 2000000) (T : DatumTy P tD tI tS tK fs) (C : CaseTy P tC tL tD tS gs) (hs : sp = fun _ => true) {cs : List Value} {x : DataW H0 × List MemPlace} (h : DataW.trod enc P W 0 sp held n tC cs = some x) (hN : μ x.1 ≤ N) :
  ∃ (ls : wa) (p f t : DT), ls.length < 1000000000 ∧ TxD p ∧ TxD f ∧ TxD t ∧ VRL (UE W) (qR ls :: (xu p ++ (xu f ++ xu t))) cs := by
 obtain ⟨xs, m, rfl, rfl, hl, hlen, hf⟩ := DataW.trod_struct C.c h; rw [C.cc] at hl; have hfs := C.fs; obtain ⟨f0, f1, f2, f3, hfe⟩ := zmg (l := gs.toList) (by have := congrArg yC hfs; simpa using this)
 rw [hfe] at hfs; simp only [zA, zV, xe, Prod.mk.injEq, and_true] at hfs; obtain ⟨⟨a0, b0⟩, ⟨a1, b1⟩, ⟨a2, b2⟩, ⟨a3, b3⟩⟩ := hfs; have hag := hM.ag (xs.map (·.1)); have hat : ∀ (i : Nat) (f : Field), gs.toList[i]? = some f → ∃ y, DataW.trod enc P W 0 sp held m f.type ((cs.drop f.offset).take (P.cellsOf f.type)) = some y ∧ μ y.1 ≤ N := fun i f hi => by
  have h1 := hf i f (by rw [← zy]; exact hi)
  have hlt : i < gs.toList.length := (List.getElem?_eq_some_iff.1 hi).1; rw [yl (by rw [hlen]; simpa using hlt)] at h1
  exact ⟨_, h1, zt (hag _ (List.mem_map.2 ⟨_, zlc _, rfl⟩)) hN⟩
 obtain ⟨y0, g0, m0⟩ := hat 0 f0 (by rw [hfe]; rfl)
 obtain ⟨y1, g1, m1⟩ := hat 1 f1 (by rw [hfe]; rfl)
 obtain ⟨y2, g2, m2⟩ := hat 2 f2 (by rw [hfe]; rfl)
 obtain ⟨y3, g3, m3⟩ := hat 3 f3 (by rw [hfe]; rfl)
 rw [a0, b0, C.cl] at g0; rw [a1, b1, T.cd] at g1; rw [a2, b2, T.cd] at g2; rw [a3, b3, T.cd] at g3; obtain ⟨d1, r1⟩ := ZU hM hN2 T hs _ _ _ g1 m1; obtain ⟨d2, r2⟩ := ZU hM hN2 T hs _ _ _ g2 m2; obtain ⟨d3, r3⟩ := ZU hM hN2 T hs _ _ _ g3 m3; obtain ⟨ls, v, q1, q2, q3⟩ := Qy hM (f := fun s : List Nat => [AV.str s]) (k := 1) oM T.cs C.l (fun d => rfl) (n := m) (fun k hk cs x h hm => by
  obtain ⟨s, rfl, _, _⟩ := DataW.trod_string T.s h; exact ⟨qK s, VRL.cons (by simp only [VR]; exact ⟨s, rfl, rfl⟩) (VRL.nil _)⟩) hs g0 m0
 refine ⟨ls, d1.1, d2.1, d3.1, oM, d1.2, d2.2, d3.2, ?_⟩; have hcs : cs = (cs.drop 0).take 1 ++ ((cs.drop 1).take 5 ++ ((cs.drop 6).take 5 ++ (cs.drop 11).take 5)) := by
  have e3 : (cs.drop 11).take 5 = cs.drop 11 := zG (by rw [zmB, hl]; exact zp _)
  have e2 : (cs.drop 6).take 5 ++ cs.drop 11 = cs.drop 6 := by
   have := zmT 5 (cs.drop 6); rwa [List.drop_drop] at this
  have e1 : (cs.drop 1).take 5 ++ cs.drop 6 = cs.drop 1 := by
   have := zmT 5 (cs.drop 1); rwa [List.drop_drop] at this
  rw [e3, e2, e1]; exact (zmT 1 cs).symm
 rw [hcs, q1, y9, zmy]; refine VRL.cons ?_ (VRL.append r1 (VRL.append r2 r3)); rw [JN] at q2; exact q2
end
theorem names_calls (B : Bx P w) {ls : wa} {p f t : DT} {nx : Nat} (hnx : nx < 256) (hls : ls.length < 1000000000) (xp : TxD p) (xf : TxD f) (xt : TxD t) {cs : Array Value} (hv : VRL (UE w) (qR ls :: (xu p ++ (xu f ++ xu t))) cs.toList) :
  Calls P 3 #[.agg cs, .int .u8 (.ofNat nx)] w fun e w' => e = .returned (.bool true) ∧ Below w.heap.size w w' := by
 obtain ⟨s1, h⟩ := zov B hnx hls xp xf xt; have hx : VRL (UE w) [caseA ls p f t, .int .u8 (.ofNat nx)] [.agg cs, .int .u8 (.ofNat nx)] := VRL.cons (by simp only [caseA, VR]; exact ⟨cs.toList, by simp, hv⟩) (VRL.cons (by simp only [VR]) (VRL.nil _))
 refine callsIn_wide.1 (CallsIn.mono (h.2 _ w _ (zwx P w true) (show Wf (s00 0 true) from znc [] 0 true) (fun _ _ => rfl) hx Fence.wide 0 ⟨fun _ => trivial, rfl, rfl⟩) ?_)
 rintro e w' ⟨φ', x, rfl, k1, k2⟩
 simp only [VR] at k2; exact ⟨by rw [k2], k1.rel.base⟩
end Go.Proofs.YtionbncghjdeoaaGreatDoor.Ev

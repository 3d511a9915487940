/- Contracts of functions that MatchNames calls: what a call answers, for all data, by symbolic evaluation. No conditions of its own. -/
import Derived.Test.YtionbncghjdeoaaGreatDoorWB
import Derived.Test.YtionbncghjdeoaaGreatDoorEvH
set_option linter.unusedSimpArgs false
set_option linter.unusedVariables false
set_option linter.defProp false
set_option maxHeartbeats 4000000
open List renaming length_append → yd, length_cons → y8, length_nil → y7, mem_cons_of_mem → yD, not_mem_nil → zmD, mem_cons → zmE, cons_append → y9, append_nil → zmw, getElem?_eq_none → z5, getElem?_append_right → yw, flatMap_cons → zmF, map_cons → zA, pairwise_append → zmG, pairwise_cons → zmH, append_assoc → zmI, flatMap_append → zmK, drop_eq_getElem_cons → zmL, getElem?_append_left → ye, getElem?_cons_succ → yN, getElem?_cons_zero → yJ, length_map → zmM, drop_eq_nil_of_le → zmz, mem_append_left → zmN, map_nil → zV
open Bool renaming and_self → xb, and_eq_true → zl
open Option.some renaming injEq → zv
open List.cons renaming injEq → xe
open Nat renaming lt_of_not_le → yK, lt_succ_self → yx, zero_le → zL, le_of_ble_eq_true → zmv, le_refl → zp, add_zero → yB, zero_add → yy
open Int.ofNat renaming injEq → zmJ
namespace Go.Proofs.YtionbncghjdeoaaGreatDoor.Ev
variable {P : Program} {w0 : World} {O : Orc} {s : St} {v : AV} {d : DT} {id n : Nat} {o : AObj}
open T
set_option maxRecDepth 100000
abbrev wa := List (List Nat)
def Wv : List Nat := [46, 46, 46]
def jC : wa → List Nat → Bool
 | [], _ => false
 | x :: r, t => eqS t x || jC r t
def wl (d : DT) : Bool := eqD (xE d) (.ofNat 5) && eqS (x9 d) Wv
def vm (ls : wa) (d : DT) : Bool := wl d && !jC ls (x9 d)
def lq (ls : wa) (d : DT) : Bool := eqD (xE d) (.ofNat 5) && (!jC ls (x9 d) && (!eqS (x9 d) [95] && !eqS (x9 d) Wv))
def wE (d : DT) : Bool := eqD (xE d) (.ofNat 6) || eqD (xE d) (.ofNat 7)
def wO : DT := .mk (.ofNat 0) (.ofNat 0) [] [] (.ofNat 0)
noncomputable def xr (d : DT) : List DT × DT := if eqD (xE d) (.ofNat 7) = true then (wi d, wO) else xL d
abbrev wy := DT × Nat
def gN : List wy → List wy
 | [] => []
 | [p] => [(p.1, p.2 + 1)]
 | p :: q :: r => p :: gN (q :: r)
def xS (e : DT → Bool) : List DT → List wy → Bool → List wy × Bool
 | [], out, ok => (out, ok)
 | d :: r, out, ok => if e d = false then xS e r (out ++ [(d, 0)]) ok else if out = [] then xS e r out false else xS e r (gN out) ok
def lS : List wy → Nat → Int → Int × Bool
 | [], _, a => (a, true)
 | p :: r, i, a => if p.2 = 0 then lS r (i + 1) a else if ltD a (.ofNat 0) = false ∨ 1 < p.2 then (-1, false) else lS r (i + 1) (.ofNat i)
structure VarT where
 t : List Nat
 n : Int
 dp : Nat
def wd (v : VarT) : List AV := [.str v.t, .int .i64 v.n, .int .i64 (.ofNat v.dp)]
def xA (p : wy) : List AV := xu p.1 ++ [.int .i64 (.ofNat p.2)]
inductive VT where
 | mk (dp : Nat) (d : DT) (ms : List VT)
mutual
def qY : VT → List AV
 | .mk dp d ms => .int .i64 (.ofNat dp) :: (xu d ++ [.lst ms.length false (xI ms)])
def xI : List VT → List AV
 | [] => []
 | v :: r => qY v ++ xI r
end
def dpV : VT → Nat | .mk dp _ _ => dp
def dV : VT → DT | .mk _ d _ => d
def msV : VT → List VT | .mk _ _ ms => ms
noncomputable def lr : Nat → wa → DT → Nat → List VarT
 | 0, _, _, _ => []
 | k + 1, ls, d, dp => if lq ls d = true then [⟨x9 d, qL d, dp⟩] else if wE d = false then [] else
  ((xS (vm ls) (xr d).1 [] true).1.flatMap fun p => lr k ls p.1 (dp + min p.2 1)) ++ lr k ls (xr d).2 dp
noncomputable def qa (ls : wa) (d : DT) (dp : Nat) : List VarT := lr (xq d) ls d dp
def ul : Nat → DT → DT
 | 0, d => d
 | k + 1, d => ul k ((wi d).getD 1 wO)
def jl (vs : List VarT) (rows : List (List VT)) : Nat → List VT
 | j => match vs with
  | [] => []
  | v :: r => .mk v.dp wO (rows.filterMap (·[j]?)) :: jl r rows (j + 1)
def kc (M : DT → DT → Option (List VT)) (p : DT) : List DT → Option (List (List VT))
 | [] => some []
 | x :: r => match M p x with
  | none => none
  | some v => match kc M p r with
   | none => none
   | some vs => some (v :: vs)
noncomputable def jZ (M : DT → DT → Option (List VT)) (ls : wa) (a : Int) (c : Nat) : Nat → List wy → List DT → Option (List VT)
 | _, [], _ => some []
 | i, p :: ps, l => if eqD (.ofNat i) a = false then (match l with
   | [] => none
   | x :: r => match M p.1 x with
    | none => none
    | some vs => match jZ M ls a c (i + 1) ps r with
     | none => none
     | some ws => some (vs ++ ws))
  else match kc M p.1 (l.take c) with
   | none => none
   | some rows => match jZ M ls a c (i + 1) ps (l.drop c) with
    | none => none
    | some ws => some (jl (qa ls p.1 1) rows 0 ++ ws)
def j7 (a : Int) (n : Nat) : Nat := if ltD a (.ofNat 0) = true then n else n - 1
def ZN (ok fine v : Bool) (a : Int) (n least : Nat) : Bool := ok && (fine && (!decide (n < least) && !(v && (ltD a (.ofNat 0) && decide (least < n)))))
noncomputable def v8 (v : Bool) (f : DT) : List DT := if v = true then wi f else (xL f).1
noncomputable def Uf (R : DT → DT → Option (List VT)) (v : Bool) (out : List VT) (e rest : DT) : Option (List VT) := if v = true then some out else match R e rest with
 | none => none
 | some vs => some (out ++ vs)
noncomputable def gS (R : DT → DT → Option (List VT)) (ls : wa) (v : Bool) (a : Int) (ps : List wy) (data : List DT) (e rest : DT) (c : Nat) : Option (List VT) := match jZ R ls a c 0 ps data with
 | none => none
 | some out => Uf R v out e rest
noncomputable def Ye (R : DT → DT → Option (List VT)) (ls : wa) (v : Bool) (P : List wy × Bool) (A : Int × Bool) (e f : DT) : Option (List VT) :=
 if ZN P.2 A.2 v A.1 (v8 v f).length (j7 A.1 P.1.length) = false then none
 else if (!v && ltD A.1 (.ofNat 0)) = true then gS R ls v A.1 P.1 ((v8 v f).take (j7 A.1 P.1.length)) e (ul (j7 A.1 P.1.length) f) ((v8 v f).length + 1 - P.1.length)
 else gS R ls v A.1 P.1 (v8 v f) e (xL f).2 ((v8 v f).length + 1 - P.1.length)
noncomputable def kV (R : DT → DT → Option (List VT)) (ls : wa) (p f : DT) : Option (List VT) :=
 Ye R ls (eqD (xE p) (.ofNat 7)) (xS (vm ls) (xr p).1 [] true) (lS (xS (vm ls) (xr p).1 [] true).1 0 (-1)) (xr p).2 f
noncomputable def uB (R : DT → DT → Option (List VT)) (ls : wa) (p f : DT) : Option (List VT) :=
 if lq ls p = true then some [.mk 0 f []]
 else if vm ls p = true then none
 else if (eqD (xE p) (.ofNat 5) && jC ls (x9 p)) = true then (if (eqD (xE f) (.ofNat 5) && eqS (x9 f) (x9 p)) = true then some [] else none)
 else if eqD (xE p) (.ofNat 5) = true then some []
 else if wE p = false then (if ud p f = true then some [] else none)
 else if (eqD (xE p) (.ofNat 7) && !eqD (xE f) (.ofNat 7)) = true then none
 else kV R ls p f
noncomputable def Yd : Nat → wa → DT → DT → Option (List VT)
 | 0, _, _, _ => none
 | k + 1, ls, p, f => uB (Yd k ls) ls p f
noncomputable def wu (ls : wa) (p f : DT) : Option (List VT) := Yd (xq p) ls p f
theorem vz (v : VarT) : (wd v).length = 3 := rfl
theorem uR (v : VarT) : xK (wd v) = true := by simp only [wd, xP, xU, qx, kC, xb]
theorem Wp (v : VarT) : wkL (wd v) = wd v := by simp only [wd, wkL, wkV]
theorem Kb : ∀ v w : VarT, wd v = wd w → v = w := fun v w h => by
 obtain ⟨t, n, d⟩ := v; obtain ⟨t', n', d'⟩ := w; simp only [wd, xe, AV.str.injEq, AV.int.injEq, true_and, and_true, zmJ] at h; obtain ⟨rfl, rfl, rfl⟩ := h; rfl
theorem q8 (p : wy) : (xA p).length = 6 := by simp only [xA, yd, wj, y8, y7]
theorem QR (p : wy) : xK (xA p) = true := by simp only [xA, vD, qZ, xP, xU, qx, xb]
theorem l6 : ∀ a b : List AV, wkL (a ++ b) = wkL a ++ wkL b
 | [], _ => rfl
 | v :: a, b => by simp only [y9, wkL, l6 a b]
theorem Ka (p : wy) : wkL (xA p) = xA p := by simp only [xA, l6, qQ, wkL, wkV]
theorem Ur : ∀ p q : wy, xA p = xA q → p = q := fun p q h => by
 obtain ⟨d, n⟩ := p; obtain ⟨d', n'⟩ := q; simp only [xA] at h; obtain ⟨h1, h2⟩ := List.append_inj h (by rw [wj, wj])
 simp only [xe, AV.int.injEq, true_and, and_true, zmJ] at h2; rw [ZZ h1, h2]
theorem jQ : xI [] = [] := by simp only [xI]
theorem vU (v : VT) (r : List VT) : xI (v :: r) = qY v ++ xI r := by simp only [xI]
theorem qo : ∀ l : List VT, xI l = xz qY l
 | [] => by simp only [xI, xz]
 | v :: r => by simp only [xI, xz, qo r]
theorem vc (dp : Nat) (d : DT) (ms : List VT) : qY (.mk dp d ms) = .int .i64 (.ofNat dp) :: (xu d ++ [.lst ms.length false (xI ms)]) := by simp only [qY]
theorem ju : ∀ v : VT, (qY v).length = 7
 | .mk _ _ _ => by simp only [qY, y8, yd, wj, y7]
theorem Wn : ∀ v : VT, xK (qY v) = true
 | .mk _ _ _ => by simp only [qY, vD, qZ, xP, xU, qx, ww, xb]
theorem uH (l : List VT) : xK (xI l) = true := by rw [qo]; exact qr Wn l
theorem q9 (l : List VT) : (xI l).length = l.length * 7 := by rw [qo]; exact qb ju l
theorem vN (l m : List VT) : xI (l ++ m) = xI l ++ xI m := by simp only [qo]; exact xY l m
mutual
theorem zyZ : ∀ v : VT, wkL (qY v) = qY v
 | .mk dp d ms => by simp only [qY, wkL, wkV, l6, qQ, kG ms]
theorem kG : ∀ l : List VT, wkL (xI l) = xI l
 | [] => by simp only [xI, wkL]
 | v :: r => by simp only [xI, l6, zyZ v, kG r]
end
def vb (ls : wa) : List AV := ls.map .str
def qR (ls : wa) : AV := .lst ls.length false (vb ls)
def jx (ls : wa) : AV := .agg [qR ls]
def wD (vs : List VarT) : AV := .lst vs.length false (xz wd vs)
def vA (ps : List wy) : AV := .lst ps.length false (xz xA ps)
def vJ (vs : List VT) : AV := .lst vs.length false (xI vs)
theorem j1 : ∀ ls : wa, wkL (vb ls) = vb ls
 | [] => rfl
 | t :: r => by
  have := j1 r; simp only [vb, zA, wkL, wkV] at this ⊢; rw [this]
theorem JM : ∀ {a b : wa}, vb a = vb b → a = b
 | [], [], _ => rfl
 | [], _ :: _, h => by simp [vb] at h
 | _ :: _, [], h => by simp [vb] at h
 | x :: a, y :: b, h => by
  simp only [vb, zA, xe, AV.str.injEq] at h; rw [h.1, JM (a := a) (b := b) h.2]
theorem ku {a b : wa} (h : qR a = qR b) : a = b := by
 simp only [qR, AV.lst.injEq] at h; exact JM h.2.2
theorem qO {d : DT} (h : wI d = true) (hm : wE d = true) : (∀ x ∈ (xr d).1, wI x = true ∧ xq x < xq d) ∧ ((xr d).2 = wO ∨ (wI (xr d).2 = true ∧ xq (xr d).2 < xq d)) := by
 unfold xr; cases hk : we d with
 | some p =>
  obtain ⟨x, y⟩ := p; have h7 : eqD (xE d) (.ofNat 7) = false := by
   obtain ⟨kd, n, t, ks, p⟩ := d; obtain ⟨rfl, rfl⟩ := wW hk; rfl
  rw [h7, if_neg (by simp)]
  have key : ∀ (k : Nat) (d : DT), xq d < k → wI d = true → (∀ x ∈ (xL d).1, wI x = true ∧ xq x < xq d) ∧ (wI (xL d).2 = true ∧ xq (xL d).2 ≤ xq d ∧ (we d ≠ none → xq (xL d).2 < xq d)) := by
   intro k
   induction k with
   | zero => intro d h; omega
   | succ k ih =>
    intro d hd hmay; cases hkd : we d with
    | none => rw [qi hkd]; exact ⟨fun x hx => (by cases hx), hmay, zp _, fun h => absurd rfl h⟩
    | some p =>
     obtain ⟨x, y⟩ := p; have hn := vq hkd; have hp := xR x; rw [Jw hkd, zl] at hmay; obtain ⟨i1, i2, i3, i4⟩ := ih y oM hmay.2; rw [w7 hkd]; refine ⟨fun z hz => ?_, i2, by simp only; omega, fun _ => by simp only; omega⟩
     rcases List.mem_cons.1 hz with rfl | hz
     ·exact ⟨hmay.1, oM⟩
     ·have := i1 z hz; exact ⟨this.1, oM⟩
  obtain ⟨k1, k2, _, k4⟩ := key _ d (yx _) h; exact ⟨k1, .inr ⟨k2, k4 (by rw [hk]; simp)⟩⟩
 | none =>
  rw [Zr hk] at h; split at h
  ·rename_i h7
   have h7' : eqD (xE d) (.ofNat 7) = true := by rw [h7]; rfl
   rw [h7', if_pos rfl]; refine ⟨fun x hx => ?_, .inl rfl⟩; have hx : x ∈ wi d := hx; have := qF hx; have := wx d; exact ⟨List.all_eq_true.1 h x hx, oM⟩
  ·rename_i h7
   exfalso
   have h6 : xE d = .ofNat 6 := by
    simp only [wE, Bool.or_eq_true, eqD, decide_eq_true_eq] at hm; exact hm.resolve_right h7
   rw [zl, Gq, h6] at h; exact absurd h.2 (by simp [Gr])
theorem vG {e : DT → Bool} : ∀ (l : List DT) (out : List wy) (ok : Bool) (p : wy), p ∈ (xS e l out ok).1 → (p.1 ∈ l ∨ ∃ q ∈ out, q.1 = p.1)
 | [], out, ok, p, h => .inr ⟨p, h, rfl⟩
 | d :: r, out, ok, p, h => by
  have hb : ∀ (l : List wy) (p : wy), p ∈ gN l → ∃ q ∈ l, q.1 = p.1 := by
   intro l
   induction l with
   | nil => intro p h; cases h
   | cons a l ih =>
    intro p h; cases l with
    | nil => simp only [gN, zmE, zmD, or_false] at h; subst h; exact ⟨a, by simp, rfl⟩
    | cons b l =>
     simp only [gN] at h; rcases List.mem_cons.1 h with rfl | h
     ·exact ⟨p, by simp, rfl⟩
     ·obtain ⟨q, hq, e⟩ := ih p h; exact ⟨q, yD _ hq, e⟩
  simp only [xS] at h; split at h
  ·rcases vG r _ ok p h with h | ⟨q, hq, e⟩
   ·exact .inl (yD _ h)
   ·rcases List.mem_append.1 hq with hq | hq
    ·exact .inr ⟨q, hq, e⟩
    ·simp only [zmE, zmD, or_false] at hq; subst hq; exact .inl (by simp [← e])
  ·split at h
   ·rcases vG r _ _ p h with h | h
    ·exact .inl (yD _ h)
    ·exact .inr h
   ·rcases vG r _ _ p h with h | ⟨q, hq, e⟩
    ·exact .inl (yD _ h)
    ·obtain ⟨q', hq', e'⟩ := hb _ _ hq; exact .inr ⟨q', hq', e'.trans e⟩
theorem u6 {e : DT → Bool} : ∀ (l : List DT) (out : List wy) (ok : Bool), (xS e l out ok).1.length ≤ out.length + l.length
 | [], out, ok => by simp [xS]
 | d :: r, out, ok => by
  have hb : ∀ l : List wy, (gN l).length = l.length := by
   intro l
   induction l with
   | nil => rfl
   | cons a l ih => cases l with
    | nil => rfl
    | cons b l => simp only [gN, y8] at ih ⊢; omega
  simp only [xS]; split
  ·have := u6 (e := e) r (out ++ [(d, 0)]) ok; simp only [yd, y8, y7] at this ⊢; omega
  ·split
   ·have := u6 (e := e) r out false; simp only [y8]; omega
   ·have := u6 (e := e) r (gN out) ok; rw [hb] at this; simp only [y8]; omega
theorem pH {α β : Type} {f g : α → List β} : ∀ {l : List α}, (∀ x ∈ l, f x = g x) → l.flatMap f = l.flatMap g
 | [], _ => rfl
 | x :: r, h => by simp only [zmF, h x (by simp), pH (l := r) fun y hy => h y (by simp [hy])]
theorem je (k : Nat) (ls : wa) (dp : Nat) : lr k ls wO dp = [] := by
 cases k <;> rfl
theorem Xy {ls : wa} : ∀ {k m : Nat} {d : DT} {dp : Nat}, wI d = true → xq d ≤ k → xq d ≤ m → lr k ls d dp = lr m ls d dp
 | 0, _, d, _, _, h, _ => by have := xR d; omega
 | _ + 1, 0, d, _, _, _, h => by have := xR d; omega
 | k + 1, m + 1, d, dp, hmay, h, h' => by
  simp only [lr]; split
  ·rfl
  ·split
   ·rfl
   ·rename_i hm
    obtain ⟨h1, h2⟩ := qO hmay (by simpa using hm)
    congr 1
    ·refine pH fun p hp => ?_; rcases vG _ _ _ _ hp with hp | ⟨q, hq, _⟩
     ·have := h1 p.1 hp; exact Xy this.1 oM oM
     ·cases hq
    ·rcases h2 with h2 | ⟨h2, h3⟩
     ·rw [h2, je, je]
     ·exact Xy h2 oM oM
open Nat (reduceEqDiff reduceLeDiff reduceLT reduceAdd reduceMul reduceSub reduceMod reducePow reduceDiv reduceOr reduceShiftLeft reduceGT reduceSucc)
open List (length_cons length_nil length_take length_drop)
open Int (reduceOfNat reduceNegSucc)
theorem be (B : Bx P w0) (hO : OrcOk P w0 O) {f : Nat} (F : IFunc) {args : List AV} (h : Ev (evC env (evW env O) none F.body ⟨wN (tmL []) 0 args, []⟩ (KL [] 0 0 true [] none)) fun r fr t => Cv (lQ (KL [] 0 0 true [] none) (wR env.globs F.res (some (r, fr, t)))) fun v0 s1 => Fz s1 v0 v) (hF : env.funs.get f = some F := by exact rfl) (hp : env.pure f = true := by exact rfl) (ha : args.length ≤ F.ntmps := by exact Nat.le_of_ble_eq_true rfl) : ∃ s1, SC P w0 f args (s00 0 true) v s1 :=
 V6 hO B.mixed B.glob B.env (cvF hF hp ha h)
theorem xM (s : St) (b : Bool) : Fz s (.bool b) (.bool b) := by simp only [Fz, wkV]
theorem vV (s : St) (k : IntKind) (n : Int) : Fz s (.int k n) (.int k n) := by simp only [Fz, wkV]
theorem Pr (s : St) (l : List Nat) : Fz s (.str l) (.str l) := by simp only [Fz, wkV]
def He : Nat → wa → List Nat → Int
 | _, [], _ => -1
 | i, x :: r, t => if eqS t x = true then .ofNat i else He (i + 1) r t
theorem zzV : ∀ (i : Nat) (ls : wa) (t : List Nat), (!ltD (He i ls t) (.ofNat 0)) = jC ls t
 | i, [], t => rfl
 | i, x :: r, t => by
  simp only [He, jC]; cases h : eqS t x with
  | true => rw [if_pos rfl, lN]; simp
  | false => rw [if_neg (by simp), zzV (i + 1) r t]; rfl
def YV (x : wa × List Nat) : List AV := [qR x.1, .str x.2]
theorem zxn : ∀ x y, YV x = YV y → x = y := fun ⟨a, b⟩ ⟨c, d⟩ h => by
 simp only [YV, xe, AV.str.injEq, and_true] at h; rw [ku h.1, h.2]
theorem L9 (x : wa × List Nat) : xK (YV x) = true := by simp only [YV, qR, xP, ww, kC, xU, xb]
theorem zqk {ls : wa} {i : Nat} {x : List Nat} (h : ls[i]? = some x) : vIa 1 (.lst ls.length false (vb ls)) (.int .i64 (.ofNat i)) = some (.vp (.str x :: vb (ls.drop (i + 1)))) := by
 have hi : i < ls.length := by
  apply yK; intro hle; rw [z5 hle] at h; cases h
 simp only [vIa, Ya .i64 hi, vl, Nat.mul_eq, Nat.mul_one]; have : vb ls = ls.map AV.str := rfl; rw [this, ← List.map_drop]; have h2 : ls.drop i = x :: ls.drop (i + 1) := by
  rw [zmL hi]; rw [List.getElem?_eq_getElem hi] at h; cases h; rfl
 rw [h2]; rfl
attribute [local go_sem] YV qR in
theorem zqS (B : Bx P w0) (hO : OrcOk P w0 O) (ls : wa) (t : List Nat) (hl : ls.length < 1000000000) :
  ∃ s1, SC P w0 72 (YV (ls, t)) (s00 0 true) (.int .i64 (He 0 ls t)) s1 := by
 refine be B hO f72 ?_; unfold f72; simp only [Ko, Ki]; refine xw ?_; refine xJ (xw (xQ ?_)); refine wS (fun i : Nat => ls.length - i) (fun i fr s => ∃ T L n m, fr = ⟨tmL T, []⟩ ∧ s = KL L n m true [] none ∧ (tmL T).get 0 = some (.lst ls.length false (vb ls)) ∧ (tmL T).get 1 = some (.str t) ∧ (tmL T).get 7 = some (.int .i64 (.ofNat ls.length)) ∧ (tmL T).get 8 = some (.int .i64 (.ofNat i)) ∧ i ≤ ls.length ∧ He 0 ls t = He i (ls.drop i) t) (fun i fr s hI => ?_) 0 ⟨_, _, _, _, rfl, rfl, sW, sW, sW, sW, oM, rfl⟩; obtain ⟨T, L, n, m, rfl, rfl, h0, h1, h7, h8, hi, he⟩ := hI; rcases x8 ls i with ⟨hi, hd⟩ | ⟨y, hi, hd⟩
 ·have hlt : ¬ i < ls.length := oM; rw [hd] at he; refine xB ?_; refine xw ?_; refine xB ?_; refine x7 ?_; rw [he]; exact vV _ _ _
 ·have hy : ls[i]? = some y := by
   have := congrArg (fun l => l[0]?) hd
   simpa using this
  have hx := zqk hy; rw [hd] at he; simp only [He] at he; by_cases hq : t = y
  ·subst hq; rw [kM, if_pos rfl] at he; refine xB ?_; refine x7 ?_; rw [he]; exact vV _ _ _
  ·have hq' : eqS t y = false := by
    cases h : eqS t y with
    | false => rfl
    | true => exact absurd (jM h) hq
   have hq2 := decide_eq_false hq; rw [hq', if_neg (by simp)] at he
   refine xB ?_; exact ⟨i + 1, ⟨_, _, _, _, rfl, rfl, sV, sV, sV, sV, oM, he⟩, oM⟩
theorem kn {f : Nat} {α : Type} {enc : α → List AV} {Pre : α → Prop} {F : α → AV} (hO : OrcOk P w0 O) (hp1 : ∀ x, xK (enc x) = true) (hp2 : ∀ x, x0 (F x) = true) (h : ∀ x, Pre x → ∃ s1, SC P w0 f (enc x) (s00 0 true) (F x) s1) : OrcOk P w0 (withG f (uu enc Pre F) O) := hO.withG kY (VD true hp1 hp2 h)
theorem oc {f : Nat} {α : Type} {enc : α → List AV} {Pre : α → Prop} {F : α → AV} (h : O f = some (uu enc Pre F)) (inj : ∀ x y, enc x = enc y → x = y) (x : α) (hp : Pre x) {args : List AV} (ha : wkL args = enc x) (s : St) : (evW env O).call f args s = some (F x, s) := by
 rw [qC h, uJ inj s x hp ha]
noncomputable def zoo : List AV → St → Option (AV × St) := uu YV (fun x => x.1.length < 1000000000) (fun x => .int .i64 (He 0 x.1 x.2))
def jn (x : wa × DT) : List AV := [jx x.1, wU x.2]
theorem jw : ∀ x y, jn x = jn y → x = y := fun ⟨a, b⟩ ⟨c, d⟩ h => by
 simp only [jn, jx, xe, AV.agg.injEq, and_true] at h; rw [ku h.1, v9 h.2]
theorem Z1 (x : wa × DT) : xK (jn x) = true := by simp only [jn, jx, qR, xP, jb, ww, vw, xU, xb]
theorem GS (ls : wa) (d : DT) : wkL [jx ls, .agg (xu d)] = jn (ls, d) := by simp only [jn, jx, qR, wU, wkL, wkV, j1, qQ]
def zpK (x : wa × DT) : Prop := x.1.length < 1000000000
noncomputable def zxR : List AV → St → Option (AV × St) := uu jn zpK (fun x => .bool (lq x.1 x.2))
noncomputable def Qb : List AV → St → Option (AV × St) := uu jn zpK (fun x => .bool (vm x.1 x.2))
noncomputable def zxQ : List AV → St → Option (AV × St) := uu jn zpK (fun x => .bool (jC x.1 (x9 x.2)))
attribute [go_sem] Ko Kg Kn Kh Kd Ke Kf Kk Ki
section
variable {P : Program} {w0 : World} (B : Bx P w0) {O : Orc} (hO : OrcOk P w0 O)
include B hO
attribute [local go_sem] jn jx qR wU xo xH xF f51 in
theorem zox (h72 : O 72 = some zoo) (h51 : O 51 = none) (ls : wa) (d : DT) (hl : ls.length < 1000000000) : ∃ s1, SC P w0 26 (jn (ls, d)) (s00 0 true) (.bool (jC ls (x9 d))) s1 := by
 refine be B hO f26 ?_; obtain ⟨kd, n, t, ks, p⟩ := d; have c51 := ci f51 h51; have hx := fun s => oc h72 zxn (ls, t) hl (args := [.lst ls.length false (vb ls), .str t]) (by simp only [YV, qR, wkL, wkV, j1]) s
 unfold f26; simp only [x9]; rw [← zzV 0 ls t]; refine xw ?_; refine xB ?_; refine x7 ?_; exact xM _ _
attribute [local go_sem] jn jx qR wU xo xH xF in
theorem zo5 (h26 : O 26 = some zxQ) (ls : wa) (d : DT) (hl : ls.length < 1000000000) : ∃ s1, SC P w0 24 (jn (ls, d)) (s00 0 true) (.bool (lq ls d)) s1 := by
 refine be B hO f24 ?_; obtain ⟨kd, n, t, ks, p⟩ := d; have hx := fun s => oc h26 jw (ls, .mk kd n t ks p) hl (args := [.agg [.lst ls.length false (vb ls)], .agg (xu (.mk kd n t ks p))]) (GS _ _) s; simp only [xo, x9] at hx; unfold f24; simp only [lq, x9, xE]; refine xw ?_; cases e1 : eqD kd (.ofNat 5) with
 | false =>
  refine xB ?_; refine x7 ?_; exact xM _ _
 | true =>
  cases e2 : jC ls t with
  | true =>
   refine xB ?_; refine x7 ?_; exact xM _ _
  | false =>
   rw [e2] at hx; by_cases e3 : t = [95]
   ·subst e3; refine xB ?_; refine x7 ?_; exact xM _ _
   ·by_cases e4 : t = Wv
    ·subst e4; refine xB ?_; refine x7 ?_; exact xM _ _
    ·have e3' : eqS t [95] = false := by
      cases h : eqS t [95] with
      | false => rfl
      | true => exact absurd (jM h) e3
     have e4' : eqS t Wv = false := by
      cases h : eqS t Wv with
      | false => rfl
      | true => exact absurd (jM h) e4
     simp only [Wv] at e4; rw [e3', e4']; refine xB ?_; refine x7 ?_; exact xM _ _
end
theorem lI {e : Bool} {cs ds : List AV} (hp : xK ds = true) (h : wkL cs = ds) : Fz s (.lst n e cs) (.lst n false ds) := by
 simp only [Fz, wkV, h]; exact ⟨hp, .inl trivial⟩
theorem qd : Fz s .nils (.lst 0 false []) := by simp only [Fz, wkV, xU, true_and]; exact .inl trivial
theorem xZ : FzL s [] [] := by simp only [FzL]
theorem xv {u w : AV} {us ws : List AV} (h : Fz s u w) (t : FzL s us ws) : FzL s (u :: us) (w :: ws) := by
 simp only [FzL]; exact ⟨u, us, rfl, h, t⟩
theorem KM {us ws : List AV} (h : FzL s us ws) : Fz s (.agg us) (.agg ws) := by simp only [Fz]; exact ⟨us, rfl, h⟩
theorem wQ {us ws : List AV} (h : FzL s us ws) : Fz s (.tup us) (.tup ws) := by simp only [Fz]; exact ⟨us, rfl, h⟩
theorem Z5 (s : St) : ∀ d : DT, FzL s (xu d) (xu d)
 | .mk k n t ks p => by
  rw [xo]; exact xv (vV _ _ _) (xv (vV _ _ _) (xv (Pr _ _) (xv (lI (qh ks) (vM ks)) (xv (vV _ _ _) xZ))))
theorem zzP (s : St) (d : DT) : Fz s (wU d) (wU d) := KM (Z5 s d)
theorem zuZ (s : St) : FzL s [.int .i64 (.ofNat 0), .int .i64 (.ofNat 0), .str [], .nils, .int .i64 (.ofNat 0)] (xu wO) := by
 simp only [wO, xo, vT]; exact xv (vV _ _ _) (xv (vV _ _ _) (xv (Pr _ _) (xv qd (xv (vV _ _ _) xZ))))
noncomputable def kS (d : DT) : AV := .tup [.lst (xr d).1.length false (xC (xr d).1), wU (xr d).2]
theorem zxY (d : DT) : x0 (kS d) = true := by simp only [kS, vx, xP, ww, vw, xU, xb]
noncomputable def Y5 : List AV → St → Option (AV × St) := uu vO (fun d => (xL d).1.length < 2000000) kS
def knF : Nat → List VarT → DT → Int
 | _, [], _ => -1
 | i, v :: r, d => if v.t = x9 d ∧ v.n = qL d then .ofNat i else knF (i + 1) r d
def vv (vs : List VarT) (d : DT) : Int := if eqD (xE d) (.ofNat 5) = true then knF 0 vs d else -1
def ZL (x : List VarT × DT) : List AV := [wD x.1, wU x.2]
theorem QS (vs : List VarT) : xK (xz wd vs) = true := qr uR vs
theorem lw (vs : List VarT) : wkL (xz wd vs) = xz wd vs := hU Wp vs
theorem Ww {a b : List VarT} (h : wD a = wD b) : a = b := by
 simp only [wD, AV.lst.injEq] at h; exact XR vz oM Kb h.2.2
theorem jv : ∀ x y, ZL x = ZL y → x = y := fun ⟨a, b⟩ ⟨c, d⟩ h => by
 simp only [ZL, xe, and_true] at h; rw [Ww h.1, v9 h.2]
theorem L8 (x : List VarT × DT) : xK (ZL x) = true := by simp only [ZL, wD, xP, ww, vw, xU, xb]
theorem kJ (vs : List VarT) (d : DT) : wkL [.lst vs.length false (xz wd vs), .agg (xu d)] = ZL (vs, d) := by simp only [ZL, wD, wU, wkL, wkV, lw, qQ]
noncomputable def gKn : List AV → St → Option (AV × St) := uu ZL (fun x => x.1.length < 1000000000) (fun x => .int .i64 (vv x.1 x.2))
theorem lM {α : Type} {f : α → List AV} {k : Nat} (hk : ∀ x, (f x).length = k) {l : List α} {i : Nat} {x : α} {r : List α} (hd : l.drop i = x :: r) (e : Bool) : vIa k (.lst l.length e (xz f l)) (.int .i64 (.ofNat i)) = some (.vp (f x ++ xz f r)) := by
 have hi : i < l.length := by
  apply yK; intro hle; rw [zmz hle] at hd; cases hd
 simp only [vIa, Ya .i64 hi]; rw [show Nat.mul i k = i * k from rfl, u1 hk, hd]; rfl
section
variable {P : Program} {w0 : World} (B : Bx P w0) {O : Orc} (hO : OrcOk P w0 O)
include B hO
attribute [local go_sem] jn jx qR wU xo xH xF f36 in
theorem zp4 (h26 : O 26 = some zxQ) (h36 : O 36 = none) (ls : wa) (d : DT) (hl : ls.length < 1000000000) : ∃ s1, SC P w0 25 (jn (ls, d)) (s00 0 true) (.bool (vm ls d)) s1 := by
 refine be B hO f25 ?_; obtain ⟨kd, n, t, ks, p⟩ := d; have c36 := ci f36 h36; have hx := fun s => oc h26 jw (ls, .mk kd n t ks p) hl (args := [.agg [.lst ls.length false (vb ls)], .agg (xu (.mk kd n t ks p))]) (GS _ _) s; simp only [xo, x9] at hx; unfold f25; simp only [vm, wl, x9, xE, Wv]; refine xw ?_; cases e1 : eqD kd (.ofNat 5) with
 | false =>
  refine xB ?_; refine x7 ?_; exact xM _ _
 | true =>
  by_cases e4 : t = [46, 46, 46]
  ·subst e4; cases e2 : jC ls [46, 46, 46] with
   | true =>
    rw [e2] at hx; refine xB ?_; refine x7 ?_; exact xM _ _
   | false =>
    rw [e2] at hx; refine xB ?_; refine x7 ?_; exact xM _ _
  ·have e4' : eqS t [46, 46, 46] = false := by
    cases h : eqS t [46, 46, 46] with
    | false => rfl
    | true => exact absurd (jM h) e4
   rw [e4']; refine xB ?_; refine x7 ?_; exact xM _ _
attribute [local go_sem] vO wU xo xH xF in
theorem zor (h32 : O 32 = some Uy) (d : DT) (hl : (xL d).1.length < 2000000) : ∃ s1, SC P w0 29 (vO d) (s00 0 true) (kS d) s1 := by
 refine be B hO f29 ?_; have hx := fun s => VC h32 hl s; obtain ⟨kd, n, t, ks, p⟩ := d; simp only [xo, itR] at hx; unfold f29; refine xw ?_; cases e1 : eqD kd (.ofNat 7) with
 | true =>
  have hin : xr (.mk kd n t ks p) = (ks, wO) := by simp only [xr, xE, e1, if_true, wi]
  simp only [kS, hin]; refine xw ?_; refine x7 ?_; exact wQ (xv (lI (qh _) (vM _)) (xv (KM (zuZ _)) xZ))
 | false =>
  have hin : xr (.mk kd n t ks p) = xL (.mk kd n t ks p) := by simp only [xr, xE, e1, Bool.false_eq_true, if_false]
  simp only [kS, hin]; revert hx hl; generalize xL (.mk kd n t ks p) = R; intro hl hx; obtain ⟨l, e⟩ := R; obtain ⟨ek, en, et, eks, ep⟩ := e; refine xw ?_; refine xB ?_; refine x7 ?_; exact wQ (xv (lI (qh _) (vM _)) (xv (zzP _ (.mk ek en et eks ep)) xZ))
end
open Int renaming reduceOfNat → rO, reduceNegSucc → rN
theorem zp7 {a c : List Nat} {b d : Int} : zzm (.flat [.s, .i]) false (.agg [.str a, .int .i64 b]) (.agg [.str c, .int .i64 d]) = some (.bool (decide (a = c ∧ b = d))) := by
 have e1 : eqS a c = decide (a = c) := by
  by_cases h : a = c
  ·subst h; rw [kM]; simp
  ·cases h2 : eqS a c with
   | true => exact absurd (jM h2) h
   | false => simp [h]
 have e2 : eqI b d = decide (b = d) := kK b d; simp only [zzm, eqV, gQ, eq1, vX, cond_true, cond_false, e1, e2]; by_cases h1 : a = c <;> by_cases h2 : b = d <;> simp only [h1, h2, decide_true, decide_false, and_self, and_true, and_false]
attribute [local go_sem] wD wd wU xo xH xF f55 f39 ltF gtF wz wg Nat.zero_mod Nat.zero_or zp7 in
theorem zns (h55 : O 55 = none) (h39 : O 39 = none) (v : VarT) (d : DT) {L : List (Nat × Option AObj)} {p : Nat} (hp : p < n) (hg : xx L p = some (xX d)) (m : Nat) (b : Bool) :
  (evW env O).call 55 [.agg (wd v), .ptr p 0] (KL L n m b [] none) = some (.bool (decide (v.t = x9 d ∧ v.n = qL d)), KL L n m b [] none) := by
 obtain ⟨kd, dn, t, ks, dp⟩ := d; have c39 := ci f39 h39; simp only [xX, xo] at hg; rw [ci f55 h55 rfl rfl _ _ _ _ _ _ _ (zmv rfl)]; simp only [x9, qL]; simp (disch := first | exact dis | fail) only [go_sem, seval, -rO, -rN, hg, c39]; rfl
theorem zxM {α : Type} {f : α → List AV} {k : Nat} (h : ∀ x, (f x).length = k) (x : α) (r : List AV) : wC k (f x ++ r) = some (f x) := jc (h x)
attribute [local go_sem] wD xX ltF gtF wz wg Nat.zero_mod Nat.zero_or in
theorem zot {O : Orc} (h54 : O 54 = none) (h55 : O 55 = none) (h39 : O 39 = none) (vs : List VarT) (d : DT) {L : List (Nat × Option AObj)} {n p : Nat} (hp : p < n) (hg : xx L p = some (xX d)) (hl : vs.length < 1000000000) (m : Nat) (b : Bool) :
  (evW env O).call 54 [wD vs, .fn 55 [] [.ptr p 0]] (KL L n m b [] none) = some (.int .i64 (knF 0 vs d), KL L n m b [] none) := by
 have key : Cv ((evW env O).call 54 [wD vs, .fn 55 [] [.ptr p 0]] (KL L n m b [] none)) fun v t => v = .int .i64 (knF 0 vs d) ∧ t = KL L n m b [] none := by
  refine YI (F := f54) h54 rfl rfl (zmv rfl) ?_; unfold f54; simp only [Ko, Ki]; refine xw ?_; refine xJ (xw (xQ ?_)); refine wS (fun i : Nat => vs.length - i) (fun i fr s => ∃ T L' m', fr = ⟨tmL T, []⟩ ∧ s = KL L' n m' true [] none ∧ (tmL T).get 0 = some (.lst vs.length false (xz wd vs)) ∧ (tmL T).get 1 = some (.fn 55 [] [.ptr p 0]) ∧ (tmL T).get 7 = some (.int .i64 (.ofNat vs.length)) ∧ (tmL T).get 8 = some (.int .i64 (.ofNat i)) ∧ xx L' p = some (xX d) ∧ m' % 2 ^ n = 0 ∧ i ≤ vs.length ∧ knF 0 vs d = knF i (vs.drop i) d) (fun i fr s hI => ?_) 0 ⟨_, _, _, rfl, rfl, sW, sW, sW, sW, hg, by simp, oM, rfl⟩
  obtain ⟨T, L', m', rfl, rfl, h0, h1, h7, h8, hg', hm, hi, he⟩ := hI; rcases x8 vs i with ⟨hi, hd⟩ | ⟨v, hi, hd⟩
  ·rw [hd] at he; have hlt : ¬ i < vs.length := oM; refine xB ?_; refine xw ?_; refine xB ?_; refine x7 ?_; exact ⟨by rw [he]; rfl, rfl⟩
  ·have hx := lM vz hd false; have ht := zxM vz v (xz wd (vs.drop (i + 1))); have hk := fun m b => zns h55 h39 v d hp hg' m b; rw [hd] at he; simp only [knF] at he; by_cases hq : v.t = x9 d ∧ v.n = qL d
   ·rw [if_pos hq] at he; have hq2 := decide_eq_true hq; refine xB ?_; refine x7 ?_; exact ⟨by rw [he], rfl⟩
   ·rw [if_neg hq] at he; have hq2 := decide_eq_false hq; refine xB ?_; exact ⟨i + 1, ⟨_, _, _, rfl, rfl, sV, sV, sV, sV, hg', hm, oM, he⟩, oM⟩
 obtain ⟨v, t, h, rfl, rfl⟩ := key; exact h
section
variable {P : Program} {w0 : World} (B : Bx P w0) {O : Orc} (hO : OrcOk P w0 O)
include B hO
attribute [local go_sem] ZL wD wU xo xH xF in
theorem ztj (h54 : O 54 = none) (h55 : O 55 = none) (h39 : O 39 = none) (vs : List VarT) (d : DT) (hl : vs.length < 1000000000) : ∃ s1, SC P w0 35 (ZL (vs, d)) (s00 0 true) (.int .i64 (vv vs d)) s1 := by
 refine be B hO f35 ?_; have hx := fun n L hp hg m b => @zot O h54 h55 h39 vs d L n 0 hp hg hl m b; generalize hr : vv vs d = R; obtain ⟨kd, n, t, ks, p⟩ := d; simp only [xX, xo, wD] at hx; unfold f35; simp only [Ko, Ki]; refine xw ?_; have hx1 := hx 1 [(0, some (.row 25 [.int .i64 kd, .int .i64 n, .str t, .lst ks.length false (xC ks), .int .i64 p] false false))] oM sW; cases e1 : eqD kd (.ofNat 5) with
 | true =>
  rw [show vv vs (.mk kd n t ks p) = knF 0 vs (.mk kd n t ks p) from if_pos e1] at hr; refine xw ?_; refine xB ?_; refine x7 ?_; rw [← hr]; exact vV _ _ _
 | false =>
  rw [show vv vs (.mk kd n t ks p) = -1 from if_neg (by rw [show eqD (xE (.mk kd n t ks p)) (.ofNat 5) = false from e1]; simp)] at hr
  refine xw ?_; refine x7 ?_; rw [← hr]; exact vV _ _ _
end
def pf (id : Nat) (ps : List wy) : AV := match ps with
 | [] => .nils
 | _ :: _ => .sl id 0 ps.length (.opn 6)
def XM : Option wa → AV
 | some ls => .fn 25 [jx ls] []
 | none => .fn 36 [] []
def YR : Option wa → DT → Bool
 | some ls => vm ls
 | none => wl
def l9 (x : List DT × Option wa) : List AV := [.lst x.1.length false (xC x.1), XM x.2]
theorem zv8 : ∀ {a b : Option wa}, XM a = XM b → a = b
 | some a, some b, h => by
  simp only [XM, jx, AV.fn.injEq, xe, AV.agg.injEq, and_true, true_and] at h; rw [ku h]
 | some _, none, h => by simp [XM] at h
 | none, some _, h => by simp [XM] at h
 | none, none, _ => rfl
theorem zxk (a : Option wa) : x0 (XM a) = true := by
 cases a with
 | none => rfl
 | some a => simp only [XM, jx, qR, Xk, xP, jb, ww, xU, xb]
theorem U4 : ∀ x y, l9 x = l9 y → x = y := fun ⟨a, b⟩ ⟨c, d⟩ h => by
 simp only [l9, xe, AV.lst.injEq, and_true] at h; rw [kF h.1.2.2, zv8 h.2]
theorem Pc (x : List DT × Option wa) : xK (l9 x) = true := by simp only [l9, xP, ww, zxk, xU, xb]
noncomputable def WJ (x : List DT × Option wa) : AV := .tup [vA (xS (YR x.2) x.1 [] true).1, .bool (xS (YR x.2) x.1 [] true).2]
theorem PU (x : List DT × Option wa) : x0 (WJ x) = true := by simp only [WJ, vA, vx, xP, ww, u7, xU, xb]
noncomputable def gPa : List AV → St → Option (AV × St) := uu l9 (fun x => x.1.length < 2000000 ∧ ∀ ls, x.2 = some ls → ls.length < 1000000000) WJ
theorem bew (B : Bx P w0) (hO : OrcOk P w0 O) {f : Nat} (F : IFunc) {args : List AV} (h : Ev (evC env (evW env O) none F.body ⟨wN (tmL []) 0 args, []⟩ (KL [] 0 0 false [] none)) fun r fr t => Cv (mdR true (wR env.globs F.res (some (r, fr, t)))) fun v0 s1 => Fz s1 v0 v) (hF : env.funs.get f = some F := by exact rfl) (hp : env.pure f = false := by exact rfl) (ha : args.length ≤ F.ntmps := by exact Nat.le_of_ble_eq_true rfl) : ∃ s1, SC P w0 f args (s00 0 true) v s1 :=
 V6 hO B.mixed B.glob B.env (znh hF hp ha h)
theorem wc (d : DT) (r : List AV) : wC 5 (xu d ++ r) = some (xu d) := jc (wj d)
theorem YE : ∀ (l : List wy) (p : wy), gN (l ++ [p]) = l ++ [(p.1, p.2 + 1)]
 | [], _ => rfl
 | [a], p => rfl
 | a :: b :: l, p => by
  have := YE (b :: l) p; simp only [y9, gN] at this ⊢; rw [this]
theorem zoT {α : Type} {l : List α} (h : l ≠ []) : ∃ a x, l = a ++ [x] := ⟨l.dropLast, l.getLast h, (List.dropLast_concat_getLast h).symm⟩
noncomputable def Qa : List AV → St → Option (AV × St) := uu vO (fun _ => True) (fun d => .bool (wl d))
section
variable {P : Program} {w0 : World} (B : Bx P w0) {O : Orc} (hO : OrcOk P w0 O)
include B hO
attribute [local go_sem] vO wU xo xH xF in
theorem zp3 (d : DT) : ∃ s1, SC P w0 36 (vO d) (s00 0 true) (.bool (wl d)) s1 := by
 refine be B hO f36 ?_; obtain ⟨kd, n, t, ks, p⟩ := d; unfold f36; simp only [wl, x9, xE, Wv]; refine xw ?_; cases e1 : eqD kd (.ofNat 5) with
 | false =>
  refine xB ?_; refine x7 ?_; exact xM _ _
 | true =>
  by_cases e4 : t = [46, 46, 46]
  ·subst e4; refine xB ?_; refine x7 ?_; exact xM _ _
  ·have e4' : eqS t [46, 46, 46] = false := by
    cases h : eqS t [46, 46, 46] with
    | false => rfl
    | true => exact absurd (jM h) e4
   rw [e4']; refine xB ?_; refine x7 ?_; exact xM _ _
end
section
variable {O : Orc}
theorem zv5 (h25 : O 25 = some Qb) (h36 : O 36 = some Qa) (e : Option wa) (he : ∀ ls, e = some ls → ls.length < 1000000000) (d : DT) (s : St) : Uv (evW env O) (some (XM e)) (some [.agg (xu d)]) s = some (.bool (YR e d), s) := by
 cases e with
 | none => exact oc h36 wB d trivial (wT d) s
 | some ls => exact oc h25 jw (ls, d) (he ls rfl) (by simp only [jn, jx, qR, wU, y9, List.nil_append, wkL, wkV, j1, qQ]) s
end
theorem Pq {k t : Nat} {us cs : List AV} {c : Cap} {x f : Bool} (hg : s.get id = some (.row t us x f)) (hk : zpo k c) (hf : FzL s us cs) (hp : xK cs = true) : Fz s (.sl id 0 k c) (.lst k false cs) := by
 simp only [Fz]; refine ⟨hp, .inr ⟨by trivial, id, 0, c, t, us, x, f, us, rfl, hk, hg, ?_, hf⟩⟩
 rw [← hf.len, Kl]; exact uh rfl
theorem Vv {α : Type} {f : α → List AV} (s : St) (h : ∀ x, FzL s (f x) (f x)) : ∀ l : List α, FzL s (xz f l) (xz f l)
 | [] => xZ
 | x :: r => (h x).append (Vv s h r)
theorem zuY (s : St) (p : wy) : FzL s (xA p) (xA p) := (Z5 s p.1).append (xv (vV _ _ _) xZ)
theorem jT {l : List DT} {i : Nat} {r : List DT} (hd : l.drop i = d :: r) (e : Bool) : vIa 5 (.lst l.length e (xC l)) (.int .i64 (.ofNat i)) = some (.vp (xu d ++ xC r)) := by
 rw [qX, lM wj hd, ← qX]
theorem jK {ps : List wy} (h : ps ≠ []) : pf id ps = .sl id 0 ps.length (.opn 6) := by
 cases ps with
 | nil => exact absurd rfl h
 | cons a r => rfl
def PaI (l : List DT) (e : Option wa) (x : Nat × List wy × Bool) (fr : Fr) (s : St) : Prop :=
 ∃ T L n m id, fr = ⟨tmL T, []⟩ ∧ s = KL L n m false [] none ∧ (tmL T).get 1 = some (XM e) ∧ (tmL T).get 8 = some (.lst l.length false (xC l)) ∧ (tmL T).get 9 = some (.int .i64 (.ofNat l.length)) ∧ (tmL T).get 10 = some (.int .i64 (.ofNat x.1)) ∧ (tmL T).get 4 = some (pf id x.2.1) ∧ (tmL T).get 5 = some (.bool x.2.2) ∧ (x.2.1 ≠ [] → id < n ∧ xx L id = some (.row 79 (xz xA x.2.1) true false)) ∧ x.1 ≤ l.length ∧ x.2.1.length ≤ x.1 ∧ (∀ p ∈ x.2.1, p.2 ≤ x.1) ∧ xS (YR e) l [] true = xS (YR e) (l.drop x.1) x.2.1 x.2.2
section
variable {P : Program} {w0 : World} (B : Bx P w0) {O : Orc} (hO : OrcOk P w0 O)
include B hO
attribute [local go_sem] xH xF wc ltF gtF in
theorem ztW (h25 : O 25 = some Qb) (h36 : O 36 = some Qa) (l : List DT) (e : Option wa) (hl : l.length < 2000000) (he : ∀ ls, e = some ls → ls.length < 1000000000) : ∃ s1, SC P w0 30 (l9 (l, e)) (s00 0 true) (WJ (l, e)) s1 := by
 refine bew B hO f30 ?_; have hc := zv5 h25 h36 e he; unfold f30; simp only [l9]; refine xw ?_; refine xw ?_; refine xJ (xJ (xB ?_)); refine xQ ?_; refine wS (fun x : Nat × List wy × Bool => l.length - x.1) (PaI l e) (fun x fr s hI => ?_) (0, [], true) ⟨_, _, _, _, 0, rfl, rfl, sW, sW, sW, sW, by simp (disch := first | exact dis | fail) only [go_sem, seval, -rO, -rN, pf], sW, fun h => absurd rfl h, zL _, zL _, (fun p hp => absurd hp (by simp)), rfl⟩
 ·obtain ⟨i, out, ok⟩ := x; obtain ⟨T, L, n, m, id, rfl, rfl, h1, h8, h9, h10, h4, h5, hrow, hi, hlen, hdt, hp⟩ := hI; simp only at h10 h4 h5 hrow hi hlen hdt hp; rcases x8 l i with ⟨hi, hd⟩ | ⟨d, hi, hd⟩
  ·have hlt : ¬ i < l.length := oM; rw [hd] at hp; refine xB ?_; refine xw ?_; refine xB ?_; refine x7 ?_; simp only [WJ, hp, xS]; refine wQ (xv ?_ (xv (xM _ _) xZ)); cases out with
   | nil => exact qd
   | cons p ps =>
    obtain ⟨hid, hg⟩ := hrow (by simp)
    exact Pq (by rw [qc]; exact hg) trivial (Vv _ (zuY _) _) (qr QR _)
  ·have hx := jT hd false; have hce := hc d; rw [hd] at hp; simp only [xS] at hp; obtain ⟨kd, dn, dt, dk, dp⟩ := d; simp only [xo] at hx hce; cases hE : YR e (.mk kd dn dt dk dp) with
   | false =>
    rw [if_pos hE] at hp; rw [hE] at hce; cases out with
    | nil =>
     have ha := fun L n m e x f => @QF L n m 79 e 6 72 [.int .i64 kd, .int .i64 dn, .str dt, .lst dk.length false (xC dk), .int .i64 dp, .int .i64 (.ofNat 0)] x f rfl oM oM; simp only [pf] at h4; refine xB ?_; refine ⟨(i + 1, [(.mk kd dn dt dk dp, 0)], ok), ⟨_, _, _, _, _, rfl, rfl, sV, sV, sV, sV, by simp (disch := first | exact dis | fail) only [go_sem, seval, -rO, -rN, *, pf], sV, fun _ => ⟨yx _, by simp (disch := first | exact dis | fail) only [go_sem, seval, -rO, -rN, *, xz, xA, xo]⟩, by simp only; omega, by simp only [y8, y7]; omega, fun p hp => (by simp only [zmE, zmD, or_false] at hp; subst hp; exact zL _), hp⟩, by simp only; omega⟩
    | cons p ps =>
     obtain ⟨hid, hg⟩ := hrow (by simp)
     generalize hout : p :: ps = out at *; have hne : out ≠ [] := by rw [← hout]; simp
     rw [jK hne] at h4; have hgx : xx ((n, some (.row 25 [.int .i64 kd, .int .i64 dn, .str dt, .lst dk.length false (xC dk), .int .i64 dp] false false)) :: (n, some (.row 25 [.int .i64 (.ofNat 0), .int .i64 (.ofNat 0), .str [], .nils, .int .i64 (.ofNat 0)] false false)) :: L) id = some (.row 79 (xz xA out) true false) := sV; have ha := fun m => @J1 _ (n + 1) m 79 79 6 72 id out.length false _ [.int .i64 kd, .int .i64 dn, .str dt, .lst dk.length false (xC dk), .int .i64 dp, .int .i64 (.ofNat 0)] false false oM hgx (qb q8 out) rfl oM rfl oM oM; refine xB ?_; refine ⟨(i + 1, out ++ [(.mk kd dn dt dk dp, 0)], ok), ⟨_, _, _, _, _, rfl, rfl, sV, sV, sV, sV, by rw [jK (by simp)]; simp (disch := first | exact dis | fail) only [go_sem, seval, -rO, -rN, *, yd], sV, fun _ => ⟨yx _, by rw [xY]; simp (disch := first | exact dis | fail) only [go_sem, seval, -rO, -rN, *, xz, xA, xo]⟩, by simp only; omega, by simp only [yd, y8, y7]; omega, fun p hp => (by
      rcases List.mem_append.1 hp with hp | hp
      ·have := hdt p hp; simp only; omega
      ·simp only [zmE, zmD, or_false] at hp; subst hp; exact zL _), hp⟩, by simp only; omega⟩
   | true =>
    rw [if_neg (by rw [hE]; simp)] at hp
    rw [hE] at hce; by_cases hne : out = []
    ·rw [if_pos hne] at hp; subst hne; simp only [pf] at h4; refine xB ?_; refine ⟨(i + 1, [], false), ⟨_, _, _, _, 0, rfl, rfl, sV, sV, sV, sV, by simp (disch := first | exact dis | fail) only [go_sem, seval, -rO, -rN, *, pf], sV, fun h => absurd rfl h, by simp only; omega, zL _, fun p hp => (by cases hp), hp⟩, by simp only; omega⟩
    ·rw [if_neg hne] at hp; obtain ⟨hid, hg⟩ := hrow hne; clear hrow; rw [jK hne] at h4; obtain ⟨ini, ⟨q, c⟩, rfl⟩ := zoT hne; rw [YE] at hp; rw [yd, y8, y7] at h4 hlen; rw [xY, show xz xA [(q, c)] = xu q ++ [.int .i64 (.ofNat c)] by simp only [xz, xA, zmw]] at hg
     have hl6 : (xz xA ini ++ xu q).length = ini.length * 6 + 5 := by rw [yd, qb q8, wj]
     have hcut : wC 1 (wP (ini.length * 6 + 5) (xz xA ini ++ (xu q ++ [.int .i64 (.ofNat c)]))) = some [.int .i64 (.ofNat c)] := by
      rw [← zmI]; exact gw (b := [.int .i64 (.ofNat c)]) (c := []) hl6 rfl
     have hpas : vr (xz xA ini ++ (xu q ++ [.int .i64 (.ofNat c)])) (ini.length * 6 + 5) [.int .i64 (.ofNat (c + 1))] = some (xz xA ini ++ (xu q ++ [.int .i64 (.ofNat (c + 1))])) := by
      rw [← zmI, ← zmI]; exact ja (b := [.int .i64 (.ofNat c)]) (c := []) (v := [.int .i64 (.ofNat (c + 1))]) hl6 rfl
     have hcb : c ≤ i := hdt (q, c) (by simp)
     refine xB ?_; refine ⟨(i + 1, ini ++ [(q, c + 1)], ok), ⟨_, _, _, _, id, rfl, rfl, sV, sV, sV, sV, by rw [jK (by simp)]; simp (disch := first | exact dis | fail) only [go_sem, seval, -rO, -rN, *, yd], sV, fun _ => ⟨oM, by rw [xY, show xz xA [(q, c + 1)] = xu q ++ [.int .i64 (.ofNat (c + 1))] by simp only [xz, xA, zmw]]; simp (disch := first | exact dis | fail) only [go_sem, seval, -rO, -rN, *]⟩, by simp only; omega, by simp only [yd, y8, y7]; omega, fun p hp => (by
      rcases List.mem_append.1 hp with hp | hp
      ·have := hdt p (zmN _ hp); simp only; omega
      ·simp only [zmE, zmD, or_false] at hp; subst hp; simp only; omega), hp⟩, by simp only; omega⟩
end
noncomputable def P2 (ps : List wy) : AV := .tup [.int .i64 (lS ps 0 (-1)).1, .bool (lS ps 0 (-1)).2]
def YW (ps : List wy) : List AV := [vA ps]
theorem KA {a b : List wy} (h : vA a = vA b) : a = b := by
 simp only [vA, AV.lst.injEq] at h; exact XR q8 oM Ur h.2.2
theorem zxq : ∀ x y, YW x = YW y → x = y := fun a b h => by
 simp only [YW, xe, and_true] at h; exact KA h
theorem Pd (x : List wy) : xK (YW x) = true := by simp only [YW, vA, xP, ww, xU, xb]
theorem zwA (x : List wy) : x0 (P2 x) = true := by simp only [P2, vx, xP, qx, u7, xU, xb]
noncomputable def zqb : List AV → St → Option (AV × St) := uu YW (fun ps => ps.length < 2000000) P2
theorem Qm {ps : List wy} {i : Nat} {c : Nat} {r : List wy} (hd : ps.drop i = (d, c) :: r) (e : Bool) : vIa 6 (.lst ps.length e (xz xA ps)) (.int .i64 (.ofNat i)) = some (.vp (xu d ++ (.int .i64 (.ofNat c) :: xz xA r))) := by
 rw [lM q8 hd]; simp only [xA, zmI, y9, List.nil_append]
section
variable {P : Program} {w0 : World} (B : Bx P w0) {O : Orc} (hO : OrcOk P w0 O)
include B hO
attribute [local go_sem] YW vA xo xH xF in
theorem zoI (ps : List wy) (hl : ps.length < 2000000) : ∃ s1, SC P w0 31 (YW ps) (s00 0 true) (P2 ps) s1 := by
 refine be B hO f31 ?_; unfold f31; simp only [P2]; refine xw ?_; refine xw ?_; refine xJ (xw (xQ ?_)); refine wS (fun x : Nat × Int => ps.length - x.1) (fun x fr s => ∃ T L n m, fr = ⟨tmL T, []⟩ ∧ s = KL L n m true [] none ∧ (tmL T).get 6 = some (.lst ps.length false (xz xA ps)) ∧ (tmL T).get 7 = some (.int .i64 (.ofNat ps.length)) ∧ (tmL T).get 8 = some (.int .i64 (.ofNat x.1)) ∧ (tmL T).get 2 = some (.int .i64 x.2) ∧ x.1 ≤ ps.length ∧ lS ps 0 (-1) = lS (ps.drop x.1) x.1 x.2) (fun x fr s hI => ?_) (0, .negSucc 0) ⟨_, _, _, _, rfl, rfl, sW, sW, sW, sW, oM, rfl⟩; obtain ⟨i, a⟩ := x; obtain ⟨T, L, n, m, rfl, rfl, h6, h7, h8, h2, hi, he⟩ := hI; simp only at h8 h2 hi he; rcases x8 ps i with ⟨hi, hd⟩ | ⟨⟨d, c⟩, hi, hd⟩
 ·have hlt : ¬ i < ps.length := oM; rw [hd] at he; refine xB ?_; refine xw ?_; refine xB ?_; refine x7 ?_; rw [he]; exact wQ (xv (vV _ _ _) (xv (xM _ _) xZ))
 ·have hx := Qm hd false; obtain ⟨kd, dn, dt, dk, dp⟩ := d; simp only [xo] at hx; rw [hd] at he; simp only [lS] at he; by_cases hc : c = 0
  ·subst hc; rw [if_pos rfl] at he; refine xB ?_; exact ⟨(i + 1, a), ⟨_, _, _, _, rfl, rfl, sV, sV, sV, sV, by simp only; omega, he⟩, by simp only; omega⟩
  ·rw [if_neg hc] at he; have hc1 := decide_eq_false hc; cases ha : ltD a (.ofNat 0) with
   | false =>
    rw [if_pos (.inl ha)] at he; refine xB ?_; refine x7 ?_; rw [he]; exact wQ (xv (vV _ _ _) (xv (xM _ _) xZ))
   | true =>
    by_cases hc2 : 1 < c
    ·rw [if_pos (.inr hc2)] at he; refine xB ?_; refine x7 ?_; rw [he]; exact wQ (xv (vV _ _ _) (xv (xM _ _) xZ))
    ·rw [if_neg (by rw [ha]; simp [hc2])] at he
     refine xB ?_; exact ⟨(i + 1, .ofNat i), ⟨_, _, _, _, rfl, rfl, sV, sV, sV, sV, by simp only; omega, he⟩, by simp only; omega⟩
end
def pD (x : wa × DT × Nat) : List AV := [jx x.1, wU x.2.1, .int .i64 (.ofNat x.2.2)]
theorem g8 : ∀ x y, pD x = pD y → x = y := fun ⟨a, b, c⟩ ⟨a', b', c'⟩ h => by
 simp only [pD, jx, xe, AV.agg.injEq, AV.int.injEq, true_and, and_true, zmJ] at h; rw [ku h.1, v9 h.2.1, h.2.2]
theorem Vb (x : wa × DT × Nat) : xK (pD x) = true := by simp only [pD, jx, qR, xP, jb, ww, qx, vw, xU, xb]
theorem pE (ls : wa) (d : DT) (k : Nat) : wkL [.agg [.lst ls.length false (vb ls)], .agg (xu d), .int .i64 (.ofNat k)] = pD (ls, d, k) := by simp only [pD, jx, qR, wU, wkL, wkV, j1, qQ]
def mz (d : DT) : Nat := if wE d = true then xq d else 0
theorem ka (d : DT) : mz d ≤ xq d := by unfold mz; split <;> omega
theorem gF (h : wE d = true) : mz d = xq d := if_pos h
def zzs (N : Nat) (x : wa × DT × Nat) : Prop := x.1.length < 1000000000 ∧ mz x.2.1 < N ∧ xq x.2.1 ≤ 180000 ∧ (wI x.2.1 = true ∨ x.2.1 = wO) ∧ x.2.2 + xq x.2.1 < 1000000000
noncomputable def gVs (N : Nat) : List AV → St → Option (AV × St) := uu pD (zzs N) (fun x => wD (qa x.1 x.2.1 x.2.2))
theorem lB (vs : List VarT) : x0 (wD vs) = true := by simp only [wD, ww]
theorem ZG (v : VarT) : xT (wd v) = true := by simp only [wd, xT, scal, cond_true]
theorem Wd {ls : wa} {k : Nat} (h : lq ls d = true) : qa ls d k = [⟨x9 d, qL d, k⟩] := by
 unfold qa; obtain ⟨q, hq⟩ : ∃ q, xq d = q + 1 := ⟨xq d - 1, by have := xR d; omega⟩
 rw [hq]; exact if_pos h
theorem Yv {ls : wa} {k : Nat} (h : lq ls d = false) (hm : wE d = false) : qa ls d k = [] := by
 unfold qa; obtain ⟨q, hq⟩ : ∃ q, xq d = q + 1 := ⟨xq d - 1, by have := xR d; omega⟩
 rw [hq, lr, if_neg (by rw [h]; simp), if_pos hm]
theorem l5 {ls : wa} {k : Nat} (hmay : wI d = true) (h : lq ls d = false) (hm : wE d = true) : qa ls d k = ((xS (vm ls) (xr d).1 [] true).1.flatMap fun p => qa ls p.1 (k + min p.2 1)) ++ qa ls (xr d).2 k := by
 obtain ⟨h1, h2⟩ := qO hmay hm; unfold qa; obtain ⟨q, hq⟩ : ∃ q, xq d = q + 1 := ⟨xq d - 1, by have := xR d; omega⟩
 rw [hq, lr, if_neg (by rw [h]; simp), if_neg (by rw [hm]; simp)]
 congr 1
 ·refine pH fun p hp => ?_; rcases vG _ _ _ _ hp with hp | ⟨r, hr, _⟩
  ·have := h1 p.1 hp; exact Xy this.1 oM (zp _)
  ·cases hr
 ·rcases h2 with h2 | ⟨h2, h3⟩
  ·rw [h2, je, je]
  ·exact Xy h2 oM (zp _)
theorem kD {ls : wa} : ∀ (N : Nat) (d : DT) (k : Nat), xq d < N → (wI d = true ∨ d = wO) → (qa ls d k).length ≤ xq d
 | 0, d, k, h, _ => by omega
 | N + 1, d, k, h, hmay => by
  rcases hmay with hmay | rfl
  ·cases hv : lq ls d with
   | true => rw [Wd hv]; have := xR d; simp only [y8, y7]; omega
   | false =>
    cases hm : wE d with
    | false => rw [Yv hv hm]; simp
    | true =>
     obtain ⟨h1, h2⟩ := qO hmay hm; rw [l5 hmay hv hm, yd]; have key : ∀ (l : List DT) (out : List wy) (ok : Bool), (∀ x ∈ l, wI x = true ∧ xq x < xq d) → (((xS (vm ls) l out ok).1.flatMap fun p => qa ls p.1 (k + min p.2 1)).length ≤ (out.map fun p => xq p.1).sum + xO l ∨ ∃ p ∈ out, ¬ (∀ c, (qa ls p.1 c).length ≤ xq p.1)) := by
      have hbs : ∀ out : List wy, ((gN out).map fun p => xq p.1) = out.map fun p => xq p.1 := by
       intro out
       induction out with
       | nil => rfl
       | cons a out ih => cases out with
        | nil => rfl
        | cons b out => simp only [gN, zA] at ih ⊢; rw [ih]
      have hbm : ∀ (out : List wy) (p : wy), p ∈ gN out → ∃ q ∈ out, q.1 = p.1 := by
       intro out
       induction out with
       | nil => intro p h; cases h
       | cons a out ih => cases out with
        | nil => intro p h; simp only [gN, zmE, zmD, or_false] at h; subst h; exact ⟨a, by simp, rfl⟩
        | cons b out =>
         intro p h; simp only [gN, zmE] at h; rcases h with rfl | h
         ·exact ⟨p, by simp, rfl⟩
         ·obtain ⟨q, hq, e⟩ := ih p (by simpa [gN] using h); exact ⟨q, yD _ hq, e⟩
      intro l
      induction l with
      | nil =>
       intro out ok _; simp only [xS, xO, yB]; by_cases hb : ∃ p ∈ out, ¬ (∀ c, (qa ls p.1 c).length ≤ xq p.1)
       ·exact .inr hb
       ·left
        have hall : ∀ p ∈ out, ∀ c, (qa ls p.1 c).length ≤ xq p.1 := fun p hp => Classical.not_not.1 fun hn => hb ⟨p, hp, hn⟩; clear hb
        induction out with
        | nil => simp
        | cons a out ih =>
         have := ih fun p hp => hall p (yD _ hp); have := hall a (by simp) (k + min a.2 1)
         simp only [zmF, yd, zA, List.sum_cons]; omega
      | cons x l ih =>
       intro out ok hl; have hx := hl x (by simp)
       simp only [xS, xO]; split
       ·rcases ih (out ++ [(x, 0)]) ok (fun y hy => hl y (yD _ hy)) with h | ⟨p, hp, hn⟩
        ·left; simp only [List.map_append, zA, zV, List.sum_append, List.sum_cons, List.sum_nil] at h; omega
        ·rcases List.mem_append.1 hp with hp | hp
         ·exact .inr ⟨p, hp, hn⟩
         ·simp only [zmE, zmD, or_false] at hp; subst hp; exact absurd (fun c => kD N x c oM (.inl hx.1)) hn
       ·split
        ·rcases ih out false (fun y hy => hl y (yD _ hy)) with h | h
         ·left; omega
         ·exact .inr h
        ·rcases ih (gN out) ok (fun y hy => hl y (yD _ hy)) with h | ⟨p, hp, hn⟩
         ·left; rw [hbs] at h; omega
         ·obtain ⟨q, hq, e⟩ := hbm _ _ hp; exact .inr ⟨q, hq, by rw [e]; exact hn⟩
     have hin : xO (xr d).1 + xq (xr d).2 ≤ xq d ∨ (xr d).2 = wO ∧ xO (xr d).1 ≤ xq d := by
      unfold xr; split
      ·exact .inr ⟨rfl, by have := wx d; simp only; omega⟩
      ·exact .inl (va d)
     rcases key (xr d).1 [] true h1 with h | ⟨p, hp, _⟩
     ·simp only [zV, List.sum_nil, yy] at h; rcases hin with hin | ⟨hz, hin⟩
      ·rcases h2 with h2 | ⟨h2, h3⟩
       ·rw [h2] at hin ⊢; have : qa ls wO k = [] := je _ _ _; rw [this]; simp only [y7]; omega
       ·have := kD (ls := ls) N (xr d).2 k oM (.inl h2); omega
      ·rw [hz]; have : qa ls wO k = [] := je _ _ _; rw [this]; simp only [y7]; omega
     ·cases hp
  ·have : qa ls wO k = [] := je _ _ _; rw [this]; simp
theorem Zm (ls : wa) (d : DT) : wkL [.agg [.lst ls.length false (vb ls)], .agg (xu d)] = jn (ls, d) := by simp only [jn, jx, qR, wU, wkL, wkV, j1, qQ]
theorem lK (d : DT) : (xr d).1.length ≤ xq d := by
 unfold xr; split
 ·have := v3 (wi d); have := wx d; simp only; omega
 ·have := v3 (xL d).1; have := va d; omega
theorem lL (d : DT) : (xL d).1.length ≤ xq d := by
 have := v3 (xL d).1; have := va d; omega
theorem Qk {e : DT → Bool} : ∀ (l : List DT) (out : List wy) (ok : Bool) (K : Nat), (∀ p ∈ out, p.2 ≤ K) → ∀ p ∈ (xS e l out ok).1, p.2 ≤ K + l.length
 | [], out, ok, K, h, p, hp => by have := h p hp; simpa using this
 | d :: r, out, ok, K, h, p, hp => by
  simp only [xS] at hp; split at hp
  ·have := Qk r _ ok K (fun q hq => by
    rcases List.mem_append.1 hq with hq | hq
    ·exact h q hq
    ·simp only [zmE, zmD, or_false] at hq; subst hq; exact zL _) p hp
   simp only [y8]; omega
  ·split at hp
   ·have := Qk r _ _ K h p hp; simp only [y8]; omega
   ·have hb : ∀ q ∈ gN out, q.2 ≤ K + 1 := by
     intro q hq; by_cases hne : out = []
     ·subst hne; cases hq
     ·obtain ⟨a, x, rfl⟩ := zoT hne; rw [YE] at hq; rcases List.mem_append.1 hq with hq | hq
      ·have := h q (zmN _ hq); omega
      ·simp only [zmE, zmD, or_false] at hq; subst hq; have := h x (by simp); simp only; omega
    have := Qk r _ ok (K + 1) hb p hp; simp only [y8]; omega
theorem znZ (c : Nat) : vMn false [.int .i64 (.ofNat c), .int .i64 (.ofNat 1)] = some (.int .i64 (.ofNat (min c 1))) := by
 by_cases h : 1 < c
 ·have : ltI (.ofNat 1) (.ofNat c) = true := wb.2 h; simp only [vMn, VM, this, cond_true, cond_false]; rw [Nat.min_eq_right oM]
 ·have : ltI (.ofNat 1) (.ofNat c) = false := by
   cases hb : Nat.blt 1 c with
   | true => exact absurd (wb.1 hb) h
   | false => exact hb
  simp only [vMn, VM, this, cond_false]; rw [Nat.min_eq_left oM]
theorem v4 {e : DT → Bool} {d : DT} (hmay : wI d = true) (hm : wE d = true) : ∀ p ∈ (xS e (xr d).1 [] true).1, wI p.1 = true ∧ xq p.1 < xq d ∧ p.2 ≤ xq d := fun p hp => by
 obtain ⟨h1, h2⟩ := qO hmay hm; have hd := Qk (xr d).1 [] true 0 (fun p hp => by cases hp) p hp
 have := lK d; rcases vG _ _ _ _ hp with hp | ⟨q, hq, _⟩
 ·have := h1 _ hp; exact ⟨this.1, this.2, oM⟩
 ·cases hq
theorem jd {α : Type} {l r : List α} {i : Nat} {x : α} (hd : l.drop i = x :: r) : l.take (i + 1) = l.take i ++ [x] := by
 have hi : i < l.length := by
  apply yK; intro hle; rw [zmz hle] at hd; cases hd
 rw [zmL hi] at hd; cases hd; rw [List.take_append_getElem hi]
theorem Ux {l : List wy} (f : wy → List VarT) (i : Nat) : ((l.take i).flatMap f).length ≤ (l.flatMap f).length := by
 conv => rhs; rw [← List.take_append_drop i l, zmK, yd]
 omega
noncomputable def kQ : List AV → St → Option (AV × St) := uu vO (fun _ => True) (fun d => .bool (wE d))
section
variable {P : Program} {w0 : World} (B : Bx P w0) {O : Orc} (hO : OrcOk P w0 O)
include B hO
attribute [local go_sem] vO wU xo xH xF in
theorem zqt (d : DT) : ∃ s1, SC P w0 27 (vO d) (s00 0 true) (.bool (wE d)) s1 := by
 refine be B hO f27 ?_; obtain ⟨kd, n, t, ks, p⟩ := d; unfold f27; simp only [wE, xE]; refine xw ?_; cases e1 : eqD kd (.ofNat 6) with
 | false =>
  refine xB ?_; refine x7 ?_; exact xM _ _
 | true =>
  refine xB ?_; refine x7 ?_; exact xM _ _
end
def VsI (ls : wa) (ps : List wy) (k : Nat) (d9 : DT) (x : Nat × List VarT) (fr : Fr) (s : St) : Prop :=
 ∃ T L n m id, fr = ⟨tmL T, []⟩ ∧ s = KL L n m true [] none ∧ (tmL T).get 2 = some (.int .i64 (.ofNat k)) ∧ (tmL T).get 3 = some (.ptr 0 0) ∧ (tmL T).get 8 = some (.ptr 2 0) ∧ (tmL T).get 40 = some (.lst ps.length false (xz xA ps)) ∧ (tmL T).get 41 = some (.int .i64 (.ofNat ps.length)) ∧ (tmL T).get 42 = some (.int .i64 (.ofNat x.1)) ∧ (tmL T).get 6 = some (QA wd 3 id x.2) ∧ 3 ≤ n ∧
  xx L 0 = some (.row 46 [.lst ls.length false (vb ls)] false false) ∧ xx L 2 = some (xX d9) ∧ 3 ≤ id ∧ zvg 77 wd L n id x.2 ∧ x.1 ≤ ps.length ∧ ((ps.take x.1).flatMap fun p => qa ls p.1 (k + min p.2 1)) = x.2
section
variable {P : Program} {w0 : World} (B : Bx P w0) {O : Orc} (hO : OrcOk P w0 O)
include B hO
attribute [local go_sem] pD jx qR wU xo xH xF wc kS wD vA ltF gtF in
theorem zpi (h24 : O 24 = some zxR) (h27 : O 27 = some kQ) (h29 : O 29 = some Y5) (h30 : O 30 = some gPa) {N : Nat} (h14 : O 14 = some (gVs N)) (ls : wa) (d : DT) (k : Nat) (hp : zzs (N + 1) (ls, d, k)) : ∃ s1, SC P w0 14 (pD (ls, d, k)) (s00 0 true) (wD (qa ls d k)) s1 := by
 refine be B hO f14 ?_; obtain ⟨hls, hN, hN2, hmay, hk⟩ := hp; simp only at hls hN hN2 hmay hk; have cmany := fun s => oc h27 wB d trivial (wT d) s; have hvr := fun s => oc h24 jw (ls, d) hls (Zm ls d) s; have hin := fun s => oc h29 wB d (by have := lL d; omega) (wT d) s
 have hpl := u6 (e := vm ls) (xr d).1 [] true; have hil := lK d; simp only [y7, yy] at hpl; have hpa := fun s => oc h30 U4 ((xr d).1, some ls) ⟨by simp only; omega, fun l h => by cases h; exact hls⟩ (args := [.lst (xr d).1.length false (xC (xr d).1), .fn 25 [.agg [.lst ls.length false (vb ls)]] []]) (by simp only [l9, XM, jx, qR, wkL, wkV, vM]) s
 simp only [WJ, YR] at hpa; generalize hres : qa ls d k = R; obtain ⟨kd, dn, dt, dk, dp⟩ := d; simp only [xo] at hvr hin cmany; unfold f14; simp only [Ko, Kn, Ki]; refine xw ?_; cases hv : lq ls (.mk kd dn dt dk dp) with
 | true =>
  rw [hv] at hvr; rw [Wd hv] at hres; refine xw ?_; refine x7 ?_; rw [← hres]; exact lI (qr uR _) (by simp only [xz, wd, wkL, wkV, zmw, x9, qL])
 | false =>
  rw [hv] at hvr; cases hm : wE (.mk kd dn dt dk dp) with
  | false =>
   rw [Yv hv hm] at hres; rw [hm] at cmany; refine xw ?_; refine x7 ?_; rw [← hres]; exact qd
  | true =>
   rw [hm] at cmany; rcases hmay with hmay | hz
   ·have hitem := v4 (e := vm ls) hmay hm; have hend := (qO hmay hm).2; have hvl := kD (ls := ls) _ (.mk kd dn dt dk dp) k (yx _) (.inl hmay); rw [gF hm] at hN; rw [hres] at hvl; rw [l5 hmay hv hm] at hres; simp only [kS] at hin; generalize (xS (vm ls) (xr (.mk kd dn dt dk dp)).1 [] true).2 = ok at *; generalize (xS (vm ls) (xr (.mk kd dn dt dk dp)).1 [] true).1 = ps at *; generalize xr (.mk kd dn dt dk dp) = I at *; have hnd : 0 < xq (.mk kd dn dt dk dp) := xR _; generalize xq (.mk kd dn dt dk dp) = nd at *; obtain ⟨l, e⟩ := I; obtain ⟨ek, en, et, es, ep⟩ := e; simp only [xo] at hin hpa hil hpl; refine xw ?_; refine xw ?_; refine xw ?_; refine xJ (xw ?_); refine xQ ?_; refine wS (fun x : Nat × List VarT => ps.length - x.1) (VsI ls ps k (.mk ek en et es ep)) (fun x fr s hI => ?_) (0, []) ⟨_, _, _, _, 3, rfl, rfl, sW, sW, sW, sW, sW, sW, by simp (disch := first | exact dis | fail) only [go_sem, seval, -rO, -rN, QA], oM, sW, by simp (disch := first | exact dis | fail) only [go_sem, seval, -rO, -rN, xX], oM, fun h => absurd rfl h, zL _, rfl⟩
    obtain ⟨i, out⟩ := x; obtain ⟨T, L, n, m, id, rfl, rfl, h2, h3, h8, h40, h41, h42, h6, hn3, hL0, hL2, hid3, hok, hi, hout⟩ := hI; simp only at h42 h6 hid3 hok hi hout; rcases x8 ps i with ⟨hi, hd⟩ | ⟨⟨q, c⟩, hi, hd⟩
    ·have hlt : ¬ i < ps.length := oM; have htk : ps.take i = ps := by rw [List.take_of_length_le oM]
     rw [htk] at hout; refine xB ?_; have hpre : zzs N (ls, (.mk ek en et es ep), k) := by
      refine ⟨hls, ?_⟩; rcases hend with hz | ⟨hm2, hn2⟩
      ·simp only at hz; simp only [hz]; exact ⟨by show 0 < N; omega, by show 1 + 0 ≤ 180000; omega, .inr trivial, by show k + (1 + 0) < _; omega⟩
      ·simp only at hn2; have := ka (.mk ek en et es ep); exact ⟨by simp only; omega, by simp only; omega, .inl hm2, by simp only; omega⟩
     have hse := fun s => oc h14 g8 (ls, (.mk ek en et es ep), k) hpre (pE ls (.mk ek en et es ep) k) s; simp only [xo] at hse; simp only [xX, xo] at hL2; have hvl2 := hvl; rw [← hres, yd, hout] at hvl2; refine xJ (uy ?_); refine wL (J3 vz uR ZG oM hok (by simp only at hvl2; omega) (by simp only at hvl2; omega)) fun v t hv => ?_
     obtain ⟨id', L', n', m', rfl, rfl, hok', hn', hid', hfr⟩ := hv; refine xB ?_; refine xB ?_; obtain ⟨v0, hf1, hf2⟩ := zr8 (id := id') (esz := 3) (s := KL [] 0 0 true [] none) uR Wp (out ++ qa ls (.mk ek en et es ep) k); refine x7 ?_; rw [← hres, hout]; exact hf2
    ·have hx := Qm hd false; have hit := hitem (q, c) (by
      have : (q, c) ∈ ps.drop i := by rw [hd]; simp
      exact List.mem_of_mem_drop this)
     simp only at hit; have hmzq := ka q; have hpre : zzs N (ls, q, k + min c 1) := ⟨hls, by simp only; omega, by simp only; omega, .inl hit.1, by simp only; omega⟩
     have hse := fun s => oc h14 g8 (ls, q, k + min c 1) hpre (pE ls q (k + min c 1)) s; have hmn := znZ c; have htk := jd hd; have hlen2 : (out ++ qa ls q (k + min c 1)).length ≤ R.length := by
      rw [← hres, ← hout]; have := Ux (l := ps) (fun p => qa ls p.1 (k + min p.2 1)) (i + 1); rw [htk, zmK] at this; simp only [zmF, List.flatMap_nil, zmw, yd] at this ⊢; omega
     rw [yd] at hlen2; clear hend; obtain ⟨qk, qn, qt, qs, qp⟩ := q; simp only [xo] at hx hse; refine xw ?_; refine xw ?_; refine xJ (xQ (xw ?_)); refine uy ?_; refine wL (J3 vz uR ZG oM (id := id) (vs := out) (fun hne => ?_) oM oM) fun v t hv => ?_
     ·obtain ⟨a1, a2⟩ := hok hne; exact ⟨oM, sV⟩
     obtain ⟨id', L', n', m', rfl, rfl, hok', hn', hid', hfr⟩ := hv; refine xB ?_; refine xB ?_; have g0 := hfr 0 oM (fun _ => oM); have g2 := hfr 2 oM (fun _ => oM); refine ⟨(i + 1, out ++ qa ls (.mk qk qn qt qs qp) (k + min c 1)), ⟨_, _, _, _, id', rfl, rfl, sV, sV, sV, sV, sV, sV, sV, oM, by rw [g0]; simp (disch := first | exact dis | fail) only [go_sem, seval, -rO, -rN, *], by rw [g2]; simp (disch := first | exact dis | fail) only [go_sem, seval, -rO, -rN, *], by rcases hid' with h | h <;> omega, hok', by simp only; omega, ?_⟩, by simp only; omega⟩
     ·simp only; rw [htk, zmK, hout]; simp only [zmF, List.flatMap_nil, zmw]
   ·rw [hz] at hm; cases hm
end
theorem Ll {P : Program} {w0 : World} (B : Bx P w0) {O : Orc} (hO : OrcOk P w0 O) (h24 : O 24 = some zxR) (h27 : O 27 = some kQ) (h29 : O 29 = some Y5) (h30 : O 30 = some gPa) : ∀ N, OrcOk P w0 (withG 14 (gVs N) O)
 | 0 => kn hO Vb (fun x => lB _) fun x hx => absurd hx.2.1 (Nat.not_lt_zero _)
 | N + 1 => kn hO Vb (fun x => lB _) fun x hx => zpi B (Ll B hO h24 h27 h29 h30 N) h24 h27 h29 h30 rfl x.1 x.2.1 x.2.2 hx
def ZJ (x : DT × Nat) : List AV := [wU x.1, .int .i64 (.ofNat x.2)]
theorem zxj : ∀ x y, ZJ x = ZJ y → x = y := fun ⟨a, b⟩ ⟨a', b'⟩ h => by
 simp only [ZJ, xe, AV.int.injEq, true_and, and_true, zmJ] at h; rw [v9 h.1, h.2]
theorem LZ (x : DT × Nat) : xK (ZJ x) = true := by simp only [ZJ, xP, qx, vw, xU, xb]
theorem zv6 (d : DT) (k : Nat) : wkL [.agg (xu d), .int .i64 (.ofNat k)] = ZJ (d, k) := by simp only [ZJ, wU, wkL, wkV, qQ]
def zpr (x : DT × Nat) : Prop := x.2 ≤ (xL x.1).1.length ∧ x.2 < 1000000000
noncomputable def gBh : List AV → St → Option (AV × St) := uu ZJ zpr (fun x => wU (ul x.2 x.1))
section
variable {P : Program} {w0 : World} (B : Bx P w0) {O : Orc} (hO : OrcOk P w0 O)
include B hO
attribute [local go_sem] ZJ wU xo xH xF lv ltF gtF in
theorem zyL (d : DT) (k : Nat) (hp : zpr (d, k)) : ∃ s1, SC P w0 33 (ZJ (d, k)) (s00 0 true) (wU (ul k d)) s1 := by
 refine be B hO f33 ?_; obtain ⟨h1, h2⟩ := hp; simp only at h1 h2; generalize hres : ul k d = R; unfold f33; simp only [Ko, Kn, Ki]; obtain ⟨kd, dn, dt, dk, dp⟩ := d; refine xw ?_; refine xJ (xw ?_); refine xQ ?_; refine wS (fun x : Nat × DT => k - x.1) (fun x fr s => ∃ T L n m, fr = ⟨tmL T, []⟩ ∧ s = KL L n m true [] none ∧ (tmL T).get 2 = some (.ptr 0 0) ∧ (tmL T).get 4 = some (.ptr 1 0) ∧ (tmL T).get 5 = some (.int .i64 (.ofNat k)) ∧ (tmL T).get 6 = some (.int .i64 (.ofNat x.1)) ∧ 2 ≤ n ∧ xx L 0 = some (xX x.2) ∧ xx L 1 = some um ∧ x.1 ≤ k ∧ k - x.1 ≤ (xL x.2).1.length ∧ ul (k - x.1) x.2 = R) (fun x fr s hI => ?_) (0, .mk kd dn dt dk dp) ⟨_, _, _, _, rfl, rfl, sW, sW, sW, sW, oM, by simp (disch := first | exact dis | fail) only [go_sem, seval, -rO, -rN, xX], by simp (disch := first | exact dis | fail) only [go_sem, seval, -rO, -rN, um], zL _, h1, hres⟩
 obtain ⟨i, c⟩ := x; obtain ⟨T, L, n, m, rfl, rfl, t2, t4, t5, t6, hn, g0, g1, hi, hle, he⟩ := hI; simp only at t6 g0 hi hle he; by_cases hik : i < k
 ·obtain ⟨r, hr⟩ : ∃ r, k - i = r + 1 := ⟨k - i - 1, oM⟩; have hr2 : k - (i + 1) = r := oM; rw [hr] at hle he; cases hk : we c with
  | none => rw [qi hk] at hle; simp at hle
  | some xy =>
   obtain ⟨x, y⟩ := xy; rw [w7 hk] at hle; obtain ⟨ck, cn, ct, cs, cp⟩ := c; obtain ⟨rfl, rfl⟩ := wW hk; simp only [ul, wi, List.getD_cons_succ, List.getD_cons_zero] at he; obtain ⟨xk, xn, xt, xs, xp⟩ := x; obtain ⟨yk, yn, yt, ys, yp⟩ := y; simp only [xX, xo, y8, y7] at g0; simp only [um] at g1; refine xB ?_; refine ⟨(i + 1, .mk yk yn yt ys yp), ⟨_, _, _, _, rfl, rfl, sV, sV, sV, sV, oM, by simp (disch := first | exact dis | fail) only [go_sem, seval, -rO, -rN, *, xX, xo], by simp (disch := first | exact dis | fail) only [go_sem, seval, -rO, -rN, *, um], by simp only; omega, by simp only; rw [hr2]; simp only [y8] at hle; omega, by simp only; rw [hr2]; exact he⟩, by simp only; omega⟩
 ·have hz : k - i = 0 := oM; rw [hz] at he; obtain ⟨ck, cn, ct, cs, cp⟩ := c; simp only [ul] at he; simp only [xX, xo] at g0; simp only [um] at g1; refine xB ?_; refine xw ?_; refine xB ?_; refine x7 ?_; rw [← he]; exact zzP _ (.mk ck cn ct cs cp)
end
theorem WB {α : Type} {f g : α → List VarT} : ∀ {l : List α}, (∀ x ∈ l, (f x).length = (g x).length) → (l.flatMap f).length = (l.flatMap g).length
 | [], _ => rfl
 | x :: r, h => by simp only [zmF, yd, h x (by simp), WB (l := r) fun y hy => h y (by simp [hy])]
theorem Uo {ls : wa} : ∀ (m : Nat) (d : DT) (k k' : Nat), (lr m ls d k).length = (lr m ls d k').length
 | 0, _, _, _ => rfl
 | m + 1, d, k, k' => by
  simp only [lr]; split
  ·rfl
  ·split
   ·rfl
   ·rw [yd, yd, WB (g := fun p => lr m ls p.1 (k' + min p.2 1)) (fun p _ => Uo m p.1 _ _), Uo m (xr d).2 k k']
theorem Zb (ls : wa) (d : DT) (k k' : Nat) : (qa ls d k).length = (qa ls d k').length := Uo _ _ _ _
theorem WM {M M' : DT → DT → Option (List VT)} {p : DT} (h : ∀ x, M p x = M' p x) : ∀ l, kc M p l = kc M' p l
 | [] => rfl
 | x :: r => by simp only [kc, h x, WM h r]
theorem V1 {M M' : DT → DT → Option (List VT)} {ls : wa} {a : Int} {c : Nat} : ∀ {ps : List wy} {i : Nat} {l : List DT}, (∀ p ∈ ps, ∀ x, M p.1 x = M' p.1 x) → jZ M ls a c i ps l = jZ M' ls a c i ps l
 | [], _, _, _ => rfl
 | p :: ps, i, l, h => by
  have hp := h p (by simp)
  have ih := fun i l => V1 (M := M) (M' := M') (ls := ls) (a := a) (c := c) (ps := ps) (i := i) (l := l) fun q hq => h q (by simp [hq])
  simp only [jZ]; rw [WM hp]; cases l with
  | nil => simp only [ih]
  | cons x r => simp only [ih, hp]
theorem kW (h : wI d = true) (hm : wE d = true) (h7 : eqD (xE d) (.ofNat 7) = false) : wI (xr d).2 = true ∧ xq (xr d).2 < xq d := by
 rcases (qO h hm).2 with h2 | h2
 ·refine ⟨by rw [h2]; rfl, ?_⟩
  have h6 : xE d = .ofNat 6 := by
   rw [wE, h7, Bool.or_false] at hm; exact of_decide_eq_true hm
  have hk : we d ≠ none := fun hk => by
   rw [Zr hk, if_neg (by rw [h6]; simp), zl, Gq, h6] at h
   exact absurd h.2 (by simp [Gr])
  unfold xr; rw [h7, if_neg (by simp)]
  have h1 := va d; cases hkk : we d with
  | none => exact absurd hkk hk
  | some xy =>
   obtain ⟨x, y⟩ := xy; have h3 := xR x; rw [w7 hkk] at h1 ⊢; simp only [xO] at h1 ⊢; omega
 ·exact h2
theorem Xd {R R' : DT → DT → Option (List VT)} {ls : wa} {p f : DT} (h1 : ∀ q ∈ (xS (vm ls) (xr p).1 [] true).1, ∀ x, R q.1 x = R' q.1 x) (h2 : eqD (xE p) (.ofNat 7) = false → ∀ x, R (xr p).2 x = R' (xr p).2 x) : kV R ls p f = kV R' ls p f := by
 unfold kV; have hi : ∀ data e rest c, (eqD (xE p) (.ofNat 7) = false → ∀ x, R e x = R' e x) → gS R ls (eqD (xE p) (.ofNat 7)) (lS (xS (vm ls) (xr p).1 [] true).1 0 (-1)).1 (xS (vm ls) (xr p).1 [] true).1 data e rest c = gS R' ls (eqD (xE p) (.ofNat 7)) (lS (xS (vm ls) (xr p).1 [] true).1 0 (-1)).1 (xS (vm ls) (xr p).1 [] true).1 data e rest c := fun data e rest c he => by
  unfold gS Uf; rw [V1 h1]; cases hv : eqD (xE p) (.ofNat 7) with
  | true => simp only [if_true]
  | false => simp only [he hv]
 unfold Ye; rw [hi _ _ _ _ h2, hi _ _ _ _ h2]
theorem Xe {R R' : DT → DT → Option (List VT)} {ls : wa} {p f : DT} (h : wE p = true → kV R ls p f = kV R' ls p f) : uB R ls p f = uB R' ls p f := by
 unfold uB; cases hm : wE p with
 | true => rw [h hm]
 | false => simp only [if_true]
theorem Zq {ls : wa} : ∀ {k m : Nat} {p f : DT}, wI p = true → xq p ≤ k → xq p ≤ m → Yd k ls p f = Yd m ls p f
 | 0, _, p, _, _, h, _ => by have := xR p; omega
 | _ + 1, 0, p, _, _, _, h => by have := xR p; omega
 | k + 1, m + 1, p, f, hmay, h, h' => by
  show uB (Yd k ls) ls p f = uB (Yd m ls) ls p f; refine Xe fun hm => Xd (fun q hq x => ?_) fun hv x => ?_
  ·have := v4 (e := vm ls) hmay hm q hq; exact Zq this.1 oM oM
  ·have := kW hmay hm hv; exact Zq this.1 oM oM
theorem ug {ls : wa} {p f : DT} (hmay : wI p = true) : wu ls p f = uB (wu ls) ls p f := by
 obtain ⟨q, hq⟩ : ∃ q, xq p = q + 1 := ⟨xq p - 1, by have := xR p; omega⟩
 unfold wu; rw [hq]; show uB (Yd q ls) ls p f = _; refine Xe fun hm => Xd (fun r hr x => ?_) fun hv x => ?_
 ·have := v4 (e := vm ls) hmay hm r hr; exact Zq this.1 oM (zp _)
 ·have := kW hmay hm hv; exact Zq this.1 oM (zp _)
theorem XI : ∀ (vs : List VarT) (rows : List (List VT)) (j : Nat), (jl vs rows j).length = vs.length
 | [], _, _ => by simp only [jl, y7]
 | v :: r, rows, j => by simp only [jl, y8, XI r rows (j + 1)]
theorem HV {M : DT → DT → Option (List VT)} {ls : wa} {a : Int} {c : Nat} : ∀ {ps : List wy} {i : Nat} {l : List DT} {out : List VT}, (∀ p ∈ ps, ∀ x vs, M p.1 x = some vs → vs.length = (qa ls p.1 0).length) → jZ M ls a c i ps l = some out → out.length = (ps.flatMap fun p => qa ls p.1 (0 + min p.2 1)).length
 | [], _, _, out, _, h => by simp only [jZ, zv] at h; subst h; rfl
 | p :: ps, i, l, out, hM, h => by
  have hp := hM p (by simp)
  have ih := fun i l out => HV (M := M) (ls := ls) (a := a) (c := c) (ps := ps) (i := i) (l := l) (out := out) fun q hq => hM q (by simp [hq])
  simp only [jZ] at h; simp only [zmF, yd, Zb ls p.1 (0 + min p.2 1) 0]; split at h
  ·cases l with
   | nil => cases h
   | cons x r =>
    simp only at h; split at h
    ·cases h
    ·rename_i vs hvs
     split at h
     ·cases h
     ·rename_i ws hws
      simp only [zv] at h; subst h; rw [yd, hp x vs hvs, ih _ _ _ hws]
  ·split at h
   ·cases h
   ·split at h
    ·cases h
    ·rename_i ws hws
     simp only [zv] at h; subst h; rw [yd, XI, ih _ _ _ hws, Zb ls p.1 1 0]
theorem Un {ls : wa} (h : eqD (xE d) (.ofNat 5) = false) : lq ls d = false := by simp only [lq, h, Bool.false_and]
theorem lg {ls : wa} : ∀ (N : Nat) (p f : DT) (vs : List VT), xq p < N → wI p = true → wu ls p f = some vs → vs.length = (qa ls p 0).length
 | 0, p, _, _, h, _, _ => by omega
 | N + 1, p, f, vs, hN, hmay, h => by
  rw [ug hmay] at h; unfold uB at h; cases hv : lq ls p with
  | true => rw [hv, if_pos rfl] at h; simp only [zv] at h; subst h; rw [Wd hv]; rfl
  | false =>
   rw [hv, if_neg (by simp)] at h
   cases hm : wE p with
   | false =>
    rw [Yv hv hm]; have h0 : vs = [] := by
     split at h
     ·cases h
     ·split at h
      ·split at h
       ·simp only [zv] at h; exact h.symm
       ·cases h
      ·split at h
       ·simp only [zv] at h; exact h.symm
       ·split at h
        ·simp only [zv] at h; exact h.symm
        ·cases h
    rw [h0]; rfl
   | true =>
    have h5 : eqD (xE p) (.ofNat 5) = false := by
     cases h5 : eqD (xE p) (.ofNat 5) with
     | false => rfl
     | true =>
      simp only [eqD, decide_eq_true_eq] at h5; simp only [wE, h5] at hm; cases hm
    have hell : vm ls p = false := by simp only [vm, wl, h5, Bool.false_and]
    rw [hell, h5, hm, if_neg (by simp), if_neg (by simp), if_neg (by simp), if_neg (by simp)] at h
    rw [l5 hmay hv hm, yd]; have hit := v4 (e := vm ls) hmay hm; cases hvf : (eqD (xE p) (.ofNat 7) && !eqD (xE f) (.ofNat 7)) with
    | true => rw [hvf, if_pos rfl] at h; cases h
    | false =>
     rw [hvf, if_neg (by simp)] at h
     have key : ∃ data rest c, gS (wu ls) ls (eqD (xE p) (.ofNat 7)) (lS (xS (vm ls) (xr p).1 [] true).1 0 (-1)).1 (xS (vm ls) (xr p).1 [] true).1 data (xr p).2 rest c = some vs := by
      unfold kV Ye at h; split at h
      ·cases h
      ·split at h
       ·exact ⟨_, _, _, h⟩
       ·exact ⟨_, _, _, h⟩
     obtain ⟨data, rest, c, h⟩ := key; unfold gS at h; split at h
     ·cases h
     ·rename_i out hout
      have hr := HV (fun q hq x ws hws => lg N q.1 x ws (by have := hit q hq; omega) (hit q hq).1 hws) hout
      unfold Uf at h; cases hvec : eqD (xE p) (.ofNat 7) with
      | true =>
       rw [hvec, if_pos rfl, zv] at h; subst h; have hz : (xr p).2 = wO := by unfold xr; rw [if_pos hvec]
       have h0 : qa ls wO 0 = [] := je _ _ _; rw [hz, h0, y7, yB, hr]
      | false =>
       have he := kW hmay hm hvec; rw [hvec, if_neg (by simp)] at h
       split at h
       ·cases h
       ·rename_i ws hws
        simp only [zv] at h; subst h; rw [yd, hr, lg N _ _ ws oM he.1 hws]
def jY (id : Nat) : Nat → AV
 | 0 => .nils
 | k + 1 => .sl id 0 (k + 1) (.opn 7)
def WfA (L : List (Nat × Option AObj)) (n : Nat) : Prop := ∀ j, n ≤ j → xx L j = none
abbrev vty : Nat := 67
noncomputable def KS (L : List (Nat × Option AObj)) : St := KL L 0 0 true [] none
theorem XB (L : List (Nat × Option AObj)) (j : Nat) : (KS L).get j = xx L j := qc _ _ _ _ _
structure RowAt (L : List (Nat × Option AObj)) (lo n id : Nat) (vs : List VT) : Prop where
 lt : id < n
 row : vs ≠ [] → lo ≤ id ∧ ∃ us, xx L id = some (.row vty us true false) ∧ us.length = vs.length * 7 ∧ xT us = true ∧ FzL (KS ((id, none) :: L)) us (xI vs)
theorem znp (s : St) : ∀ v : VT, FzL s (qY v) (qY v)
 | .mk dp d ms => by
  rw [vc]; exact xv (vV _ _ _) ((Z5 s d).append (xv (lI (uH ms) (kG ms)) xZ))
theorem Pp (s : St) (l : List VT) : FzL s (xI l) (xI l) := by rw [qo]; exact Vv s (znp s) l
theorem pi : ∀ a b : List AV, xT (a ++ b) = (xT a && xT b)
 | [], _ => by simp [xT]
 | v :: a, b => by simp only [y9, kr, pi a b, Bool.and_assoc]
theorem Wo : ∀ v : VT, xT (qY v) = true
 | .mk dp d ms => by simp only [vc, kr, scal, pi, GA, Zf, xb]
theorem YG (l : List VT) : xT (xI l) = true := by rw [qo]; exact kP Wo l
theorem RowAt.ext {L L' : List (Nat × Option AObj)} {lo n' : Nat} {vs : List VT} (h : RowAt L lo n id vs) (hw : WfA L n) (hn : n ≤ n') (hf : ∀ j, lo ≤ j → j < n → xx L' j = xx L j) (hf2 : ∀ j, j < n → xx L' j = xx L j) : RowAt L' lo n' id vs := by
 refine ⟨by have := h.lt; omega, fun hne => ?_⟩
 obtain ⟨g0, us, g1, g2, g3, g4⟩ := h.row hne; refine ⟨g0, us, (hf id g0 h.lt).trans g1, g2, g3, FzL.mono (fun j o ho => ?_) g4⟩; rw [XB] at ho ⊢; rw [xi] at ho ⊢; split at ho
 ·cases ho
 ·rename_i hne'
  have hj : j < n := yK fun hle => by rw [hw j hle] at ho; cases ho
  rw [if_neg hne', hf2 j hj]; exact ho
theorem WfA.cons {L : List (Nat × Option AObj)} {n' i : Nat} {o : Option AObj} (h : WfA L n) (hi : i < n') (hn : n ≤ n') : WfA ((i, o) :: L) n' := fun j hj => by
 rw [xi, if_neg oM]; exact h j oM
theorem WfA.lt {L : List (Nat × Option AObj)} {j : Nat} (h : WfA L n) (hg : xx L j = some o) : j < n := yK fun hle => by rw [h j hle] at hg; cases hg
theorem zzv {L : List (Nat × Option AObj)} {m lo : Nat} {vs ws : List VT} {us2 : List AV} {y : AV} (hr : RowAt L lo n id vs) (hw : WfA L n) (hlo : lo ≤ n) (h1 : uO y = some ws.length) (h2 : ws ≠ [] → w6 (KL L n m false [] none) 7 ws.length y = some us2) (hl : us2.length = ws.length * 7) (hs : xT us2 = true) (hz : FzL (KS ((id, none) :: L)) us2 (xI ws)) (hb : vs.length + ws.length < 1000000000) (b : Bool) (hmd : b = false) :
  Cv (jg (KL L n m b [] none) vty 7 96 (jY id vs.length) y) fun v s => ∃ id' L' n' m', v = jY id' (vs ++ ws).length ∧ s = KL L' n' m' b [] none ∧ RowAt L' lo n' id' (vs ++ ws) ∧ WfA L' n' ∧ n ≤ n' ∧ (∀ j, j < lo → xx L' j = xx L j) ∧ (id' = id ∧ L' = L ∨ id' = n ∧ (∀ j, j < n → j ≠ id → xx L' j = xx L j)) := by
 subst hmd; cases ws with
 | nil =>
  refine ⟨jY id vs.length, KL L n m false [] none, ?_, id, L, n, m, by rw [zmw], rfl, by rw [zmw]; exact hr, hw, zp _, fun _ _ => rfl, .inl ⟨rfl, rfl⟩⟩
  simp only [jg, h1, y7]; cases vs <;> rfl
 | cons w ws =>
  have h2 := h2 (by simp)
  simp only [y8] at h1 h2 hl hb; cases vs with
  | nil =>
   refine ⟨_, _, zzu (q := ws.length) h1 h2 (.inl rfl) oM (by simp only [y7] at hb; omega) oM, n, _, _, _, rfl, rfl, ⟨yx _, fun _ => ⟨hlo, us2, by rw [xi, if_pos rfl], hl, hs, FzL.mono (fun j o h => ?_) hz⟩⟩, fun j hj => ?_, Nat.le_succ _, fun j hj => by rw [xi, if_neg oM], .inr ⟨rfl, fun j hj _ => by rw [xi, if_neg oM]⟩⟩
   ·rw [XB] at h ⊢; rw [xi] at h; split at h
    ·cases h
    ·have hj : j < n := yK fun hle => by rw [hw j hle] at h; cases h
     rw [xi, if_neg oM, xi, if_neg oM]; exact h
   ·rw [xi, if_neg oM]; exact hw j oM
  | cons u us =>
   obtain ⟨hlo2, us1, g1, g2, g3, g4⟩ := hr.row (by simp)
   have hid := hr.lt; have hb2 : us.length + 1 + (ws.length + 1) < 1000000000 := by simp only [y8] at hb; omega
   refine ⟨_, _, UO (q := ws.length) (by rw [qc]; exact g1) g2 h1 h2 hs oM oM oM, n, _, _, _, ?_, rfl, ⟨yx _, fun _ => ⟨hlo, us1 ++ us2, by rw [xi, if_pos rfl], ?_, ?_, ?_⟩⟩, fun j hj => ?_, Nat.le_succ _, fun j hj => by rw [xi, if_neg oM, xi, if_neg oM], .inr ⟨rfl, fun j hj hne => by rw [xi, if_neg oM, xi, if_neg hne]⟩⟩
   ·simp only [y9, y8, yd, jY]
    congr 1; omega
   ·rw [yd, g2, hl]; simp only [y9, y8, yd]; omega
   ·rw [pi, g3, hs]; rfl
   ·have hmono : ∀ j o, (KS ((id, none) :: L)).get j = some o → (KS ((n, none) :: (n, some (.row vty (us1 ++ us2) true false)) :: (id, none) :: L)).get j = some o := fun j o h => by
     rw [XB] at h ⊢; have hh := h; rw [xi] at hh; split at hh
     ·cases hh
     ·have hj : j < n := yK fun hle => by rw [hw j hle] at hh; cases hh
      rw [xi, if_neg oM, xi, if_neg oM]; exact h
    rw [vN]; exact (FzL.mono hmono g4).append (FzL.mono hmono hz)
   ·rw [xi, if_neg oM, xi]; split
    ·rfl
    ·exact hw j oM
def TG (T : List (Nat × AV)) : List (Nat × AV) → Prop
 | [] => True
 | p :: r => (tmL T).get p.1 = some p.2 ∧ TG T r
theorem wF {T : List (Nat × AV)} {i : Nat} {v : AV} : ∀ {b : List (Nat × AV)}, TG T b → (b.all fun p => !Nat.beq p.1 i) = true → TG ((i, v) :: T) b
 | [], _, _ => trivial
 | p :: r, h, hk => by
  simp only [List.all_cons, zl, Bool.not_eq_true'] at hk; refine ⟨?_, wF h.2 hk.2⟩; rw [lZ, if_neg (fun e => by rw [xG.2 e] at hk; cases hk.1)]
  exact h.1
structure Col where
 dp : Nat
 id : Nat
 ms : List VT
def qD (c : Col) : List AV := [.int .i64 (.ofNat c.dp), .int .i64 (.ofNat 0), .int .i64 (.ofNat 0), .str [], .nils, .int .i64 (.ofNat 0), jY c.id c.ms.length]
theorem kH (c : Col) : (qD c).length = 7 := rfl
structure ColsAt (L : List (Nat × Option AObj)) (lo n : Nat) (cols : List Col) : Prop where
 lt : lo < n
 row : xx L lo = some (.row vty (xz qD cols) false false)
 each : ∀ c ∈ cols, c.ms ≠ [] → lo < c.id ∧ c.id < n ∧ xx L c.id = some (.row vty (xI c.ms) true false)
 apart : cols.Pairwise fun c d => c.ms ≠ [] → d.ms ≠ [] → c.id ≠ d.id
theorem zws (id k : Nat) : scal (jY id k) = true := by cases k <;> rfl
theorem GD (c : Col) : xT (qD c) = true := by
 simp only [qD, kr, V7, V8, JI, zws, Zf, xb]
def zs3 (c : Col) : VT := .mk c.dp wO c.ms
theorem zzO {L : List (Nat × Option AObj)} {lo n q : Nat} {cols : List Col} (h : ColsAt L lo n cols) (hq : q ≤ lo) : ∀ {cs : List Col}, (∀ c ∈ cs, c ∈ cols) → FzL (KS ((q, none) :: L)) (xz qD cs) (xI (cs.map zs3))
 | [], _ => by rw [zV, jQ]; exact xZ
 | c :: cs, hm => by
  rw [zA, vU]; refine FzL.append ?_ (zzO h hq fun d hd => hm d (by simp [hd]))
  have hc := hm c (by simp)
  obtain ⟨dp, id, ms⟩ := c; simp only [zs3, vc, qD]; refine xv (vV _ _ _) (xv (vV _ _ _) (xv (vV _ _ _) (xv (Pr _ _) (xv qd (xv (vV _ _ _) (xv ?_ xZ)))))); cases ms with
  | nil => simp only [jY, y7, jQ]; exact qd
  | cons v ms =>
   obtain ⟨h1, h2, h3⟩ := h.each _ hc (by simp)
   simp only at h1 h2 h3; exact Pq (by rw [XB, xi, if_neg oM]; exact h3) trivial (Pp _ _) (uH _)
theorem ColsAt.push {L L' : List (Nat × Option AObj)} {lo n' q : Nat} {c1 c2 : List Col} {c : Col} {v : VT} (h : ColsAt L lo n (c1 ++ c :: c2)) (hq : n ≤ q) (hq' : q < n') (hn : n ≤ n') (hrow : xx L' lo = some (.row vty (xz qD (c1 ++ ⟨c.dp, q, c.ms ++ [v]⟩ :: c2)) false false)) (hnew : xx L' q = some (.row vty (xI (c.ms ++ [v])) true false)) (hfr : ∀ j, lo < j → j < n → (c.ms ≠ [] → j ≠ c.id) → xx L' j = xx L j) : ColsAt L' lo n' (c1 ++ ⟨c.dp, q, c.ms ++ [v]⟩ :: c2) := by
 have hap := h.apart; rw [zmG, zmH] at hap; obtain ⟨a1, ⟨a2, a3⟩, a4⟩ := hap; have hne : ∀ d, (d ∈ c1 ∨ d ∈ c2) → d.ms ≠ [] → c.ms ≠ [] → d.id ≠ c.id := fun d hd h1 h2 => by
  rcases hd with hd | hd
  ·exact a4 d hd c (by simp) h1 h2
  ·exact fun e => a2 d hd h2 h1 e.symm
 refine ⟨by have := h.lt; omega, hrow, fun d hd hm => ?_, ?_⟩
 ·rcases List.mem_append.1 hd with hd | hd
  ·obtain ⟨g1, g2, g3⟩ := h.each d (by simp [hd]) hm
   exact ⟨g1, oM, (hfr d.id g1 g2 (hne d (.inl hd) hm)).trans g3⟩
  ·rcases List.mem_cons.1 hd with rfl | hd
   ·exact ⟨by simp only; have := h.lt; omega, hq', hnew⟩
   ·obtain ⟨g1, g2, g3⟩ := h.each d (by simp [hd]) hm
    exact ⟨g1, oM, (hfr d.id g1 g2 (hne d (.inr hd) hm)).trans g3⟩
 ·rw [zmG, zmH]; refine ⟨a1, ⟨fun d hd _ hm => ?_, a3⟩, fun d hd e he hm hm2 => ?_⟩
  ·have := (h.each d (by simp [hd]) hm).2.1; simp only; omega
  ·rcases List.mem_cons.1 he with rfl | he
   ·have := (h.each d (by simp [hd]) hm).2.1; simp only; omega
   ·exact a4 d hd e (by simp [he]) hm hm2
def jk (C : Nat) (rows : List (List VT)) : List (List VT) := (List.range C).map fun j => rows.filterMap (·[j]?)
theorem XH (C : Nat) (rows : List (List VT)) : (jk C rows).length = C := by simp [jk]
theorem Zh {C : Nat} {rows : List (List VT)} {j : Nat} (h : j < C) : (jk C rows)[j]? = some (rows.filterMap (·[j]?)) := by simp [jk, h]
theorem LH {C : Nat} {rows : List (List VT)} {vals : List VT} {j : Nat} {v : VT} (hj : j < C) (hv : vals[j]? = some v) : (jk C (rows ++ [vals]))[j]? = some (((jk C rows)[j]?.getD []) ++ [v]) := by
 rw [Zh hj, Zh hj]; simp [List.filterMap_append, hv]
theorem zzE : ∀ (vs : List VarT) (rows : List (List VT)) (j : Nat), jl vs rows j = (vs.mapIdx fun q v => VT.mk v.dp wO (rows.filterMap (·[j + q]?)))
 | [], _, _ => by simp only [jl, List.mapIdx_nil]
 | v :: r, rows, j => by
  simp only [jl, List.mapIdx_cons, zzE r rows (j + 1), yB]
  congr 1
  congr 1
  funext q v
  rw [Nat.add_assoc, Nat.add_comm 1 q]
theorem JH : ∀ C : Nat, reps C [.int .i64 (.ofNat 0), .int .i64 (.ofNat 0), .int .i64 (.ofNat 0), .str [], .nils, .int .i64 (.ofNat 0), .nils] = xz qD (List.replicate C ⟨0, 0, []⟩)
 | 0 => rfl
 | C + 1 => by
  simp only [reps, List.replicate_succ, xz, JH C, qD, jY, y7]
theorem zzA {c1 c2 : List Col} {cc : Col} {C j dp : Nat} {rows : List (List VT)} {vals : List VT} {v : VT} (hc1 : c1.length = j) (hj : j < C) (hv : vals[j]? = some v) (h : ∀ q, q < C → ((c1 ++ cc :: c2).map (·.ms))[q]? = if q < j then (jk C (rows ++ [vals]))[q]? else (jk C rows)[q]?) : ∀ q, q < C → ((c1 ++ ⟨dp, id, cc.ms ++ [v]⟩ :: c2).map (·.ms))[q]? = if q < j + 1 then (jk C (rows ++ [vals]))[q]? else (jk C rows)[q]? := by
 intro q hq; have hq' := h q hq; rw [List.map_append, zA] at hq' ⊢; have hl : (c1.map (·.ms)).length = j := by rw [zmM]; exact hc1
 rcases Nat.lt_trichotomy q j with h1 | h1 | h1
 ·rw [ye oM] at hq' ⊢; rw [hq', if_pos h1, if_pos oM]
 ·subst h1; rw [yw oM, hl, Nat.sub_self, yJ] at hq' ⊢; rw [if_neg oM] at hq'; rw [if_pos oM, LH hj hv, ← hq']; rfl
 ·rw [yw oM, hl] at hq' ⊢; obtain ⟨r, hr⟩ : ∃ r, q - j = r + 1 := ⟨q - j - 1, oM⟩; rw [hr, yN] at hq' ⊢; rw [hq', if_neg oM, if_neg oM]
theorem zpZ {cols : List Col} {C : Nat} {rows : List (List VT)} {vals : List VT} (hl : cols.length = C) (h : ∀ q, q < C → (cols.map (·.ms))[q]? = if q < C then (jk C (rows ++ [vals]))[q]? else (jk C rows)[q]?) : cols.map (·.ms) = jk C (rows ++ [vals]) := by
 apply List.ext_getElem?; intro q; by_cases hq : q < C
 ·rw [h q hq, if_pos hq]
 ·rw [z5 (by rw [zmM]; omega), z5 (by rw [XH]; omega)]
theorem LG {c1 c2 : List Col} {c : Col} {j k : Nat} (h : c1.length = j) : vr (xz qD (c1 ++ c :: c2)) (j * 7) [.int .i64 (.ofNat k)] = some (xz qD (c1 ++ ⟨k, c.id, c.ms⟩ :: c2)) := by
 subst h; rw [xY, xY]; simp only [xz, qD]; exact @ja (xz qD c1) [.int .i64 (.ofNat c.dp)] ([.int .i64 (.ofNat 0), .int .i64 (.ofNat 0), .str [], .nils, .int .i64 (.ofNat 0), jY c.id c.ms.length] ++ xz qD c2) [.int .i64 (.ofNat k)] (c1.length * 7) (qb kH _) rfl
theorem ColsAt.setD {L L' : List (Nat × Option AObj)} {lo n' k : Nat} {c1 c2 : List Col} {c : Col} (h : ColsAt L lo n (c1 ++ c :: c2)) (hn : n ≤ n') (hrow : xx L' lo = some (.row vty (xz qD (c1 ++ ⟨k, c.id, c.ms⟩ :: c2)) false false)) (hfr : ∀ j, lo < j → j < n → xx L' j = xx L j) : ColsAt L' lo n' (c1 ++ ⟨k, c.id, c.ms⟩ :: c2) := by
 have hap := h.apart; rw [zmG, zmH] at hap; obtain ⟨a1, ⟨a2, a3⟩, a4⟩ := hap; have he : ∀ d, d ∈ c1 ++ c :: c2 → d.ms ≠ [] → lo < d.id ∧ d.id < n' ∧ xx L' d.id = some (.row vty (xI d.ms) true false) := fun d hd hm => by
  obtain ⟨g1, g2, g3⟩ := h.each d hd hm; exact ⟨g1, oM, (hfr d.id g1 g2).trans g3⟩
 refine ⟨by have := h.lt; omega, hrow, fun d hd hm => ?_, ?_⟩
 ·rcases List.mem_append.1 hd with hd | hd
  ·exact he d (by simp [hd]) hm
  ·rcases List.mem_cons.1 hd with rfl | hd
   ·exact he c (by simp) hm
   ·exact he d (by simp [hd]) hm
 ·rw [zmG, zmH]; refine ⟨a1, ⟨fun d hd => a2 d hd, a3⟩, fun d hd e he hm hm2 => ?_⟩; rcases List.mem_cons.1 he with rfl | he
  ·exact a4 d hd c (by simp) hm hm2
  ·exact a4 d hd e (by simp [he]) hm hm2
theorem zrb {c1 c2 : List Col} {c : Col} {C j k : Nat} {vs : List VarT} (hc1 : c1.length = j) (hv : (vs[j]?).map (·.dp) = some k) (h : ∀ q, q < C → ((c1 ++ c :: c2)[q]?).map (·.dp) = if q < j then (vs[q]?).map (·.dp) else some 0) : ∀ q, q < C → ((c1 ++ ⟨k, c.id, c.ms⟩ :: c2)[q]?).map (·.dp) = if q < j + 1 then (vs[q]?).map (·.dp) else some 0 := by
 intro q hq; have hq' := h q hq; rcases Nat.lt_trichotomy q j with h1 | h1 | h1
 ·rw [ye oM] at hq' ⊢; rw [hq', if_pos h1, if_pos oM]
 ·subst h1; rw [yw oM, hc1, Nat.sub_self, yJ, if_pos oM, hv]; rfl
 ·rw [yw oM, hc1] at hq' ⊢; obtain ⟨r, hr⟩ : ∃ r, q - j = r + 1 := ⟨q - j - 1, oM⟩; rw [hr, yN] at hq' ⊢; rw [hq', if_neg oM, if_neg oM]
theorem zvU {cols : List Col} {C : Nat} {vs : List VarT} {rows : List (List VT)} (hl : cols.length = C) (hv : vs.length = C) (h1 : cols.map (·.ms) = jk C rows) (h2 : ∀ q, q < C → (cols[q]?).map (·.dp) = if q < C then (vs[q]?).map (·.dp) else some 0) : cols.map zs3 = jl vs rows 0 := by
 rw [zzE]; apply List.ext_getElem?; intro q; by_cases hq : q < C
 ·have g1 := congrArg (fun l => l[q]?) h1; simp only [Zh hq, List.getElem?_map] at g1; have g2 := h2 q hq; rw [if_pos hq] at g2; rw [List.getElem?_map, List.getElem?_mapIdx]; cases hc : cols[q]? with
  | none => rw [hc] at g1; cases g1
  | some c =>
   cases hvq : vs[q]? with
   | none => rw [hc, hvq] at g2; cases g2
   | some v =>
    rw [hc] at g1; rw [hc, hvq] at g2; simp only [Option.map_some, zv] at g1 g2 ⊢; simp only [zs3, g1, g2, yy]
 ·rw [z5 (by rw [zmM]; omega), z5 (by rw [List.length_mapIdx]; omega)]
end Go.Proofs.YtionbncghjdeoaaGreatDoor.Ev

/- Part of a verified evaluator of the model's code, generic over the program: a run of the evaluator that answers shows what the model's run answers. No conditions of its own. -/
import Derived.Test.YthcmnajcjapjbaaGreatDoorEvF
import Derived.Attr
import Derived.ChangeArms
import Derived.DataReads
set_option linter.unusedSimpArgs false
set_option linter.unusedVariables false
set_option linter.defProp false
open Option.some renaming injEq → zy
open And renaming intro → yT
open Classical renaming choose → yU, choose_spec → yQ
open Int renaming reduceNegSucc → yV, reduceOfNat → yW
open List renaming length_nil → yX, length_cons → yY, length_append → ye, getElem?_eq_getElem → ym, cons_append → y8, take_succ_cons → xb, length → yB, drop_succ_cons → xg
open Nat renaming beq → za, ble → ze, mul → zb, mul_one → y7, testBit_shiftLeft → y9, add → zc, blt → zd, testBit_or → yC, le_refl → zq
open List.cons renaming injEq → yZ
open Bool renaming and_self → y6, and_eq_true → zm, false_and → xc, not_false → xd, and_true → xe, not_true → xf
namespace Go.Proofs.YthcmnajcjapjbaaGreatDoor.Ev
variable {P : Program} {w0 w : World} {E : Env} {O : Orc} {s s' : St} {φ : Phi} {v : AV} {b out : List Nat} {id n : Nat} {o : AObj} {disp : Bool}
noncomputable def osA : List (Nat × Option AObj) → Trie AObj
 | [] => .leaf
 | p :: r => match p.2 with
  | some o => (osA r).set p.1 o
  | none => (osA r).del p.1
noncomputable def KL (l : List (Nat × Option AObj)) (n m : Nat) (b : Bool) (hd : List (Nat × Nat)) (on : Option (Nat × List Nat)) : St := { objs := osA l, next := n, wm := m, hide := hd, only := on, md := b }
def getA : List (Nat × Option AObj) → Nat → Option AObj
 | [], _ => none
 | p :: r, i => if i = p.1 then p.2 else getA r i
theorem Xr : ∀ (l : List (Nat × Option AObj)) (i : Nat), (osA l).get i = getA l i
 | [], i => rfl
 | (j, o) :: r, i => by
  cases o with
  | some o => simp only [osA, getA]; rw [Trie.get_set, Xr r i]
  | none => simp only [osA, getA]; rw [Trie.get_del, Xr r i]
theorem J5 (i : Nat) : getA [] i = none := rfl
theorem uA (j : Nat) (o : Option AObj) (r : List (Nat × Option AObj)) (i : Nat) : getA ((j, o) :: r) i = if i = j then o else getA r i := rfl
def l8 : Nat → List (Option AObj) → List (Nat × Option AObj)
 | _, [] => []
 | n, o :: r => match o with
  | some o => (n, some o) :: l8 (n + 1) r
  | none => l8 (n + 1) r
theorem zyj (n : Nat) : l8 n [] = [] := rfl
theorem Hv (n : Nat) (o : AObj) (r : List (Option AObj)) : l8 n (some o :: r) = (n, some o) :: l8 (n + 1) r := rfl
theorem Hu (n : Nat) (r : List (Option AObj)) : l8 n (none :: r) = l8 (n + 1) r := rfl
theorem K6 : ∀ (l : List (Option AObj)) (n : Nat), osT n l = osA (l8 n l)
 | [], n => rfl
 | o :: r, n => by cases o <;> simp only [osT, l8, osA] <;> rw [K6 r]
theorem H_eq (os : List (Option AObj)) (m : Nat) (b : Bool) : H os m b = KL (l8 0 os) os.length m b [] none := by
 unfold H KL; rw [K6]
theorem zsq (l : List (Nat × Option AObj)) (n m : Nat) (b : Bool) (hd : List (Nat × Nat)) (on : Option (Nat × List Nat)) : (KL l n m b hd on).next = n := rfl
theorem zoK (l : List (Nat × Option AObj)) (n m : Nat) (b : Bool) (hd : List (Nat × Nat)) (on : Option (Nat × List Nat)) : (KL l n m b hd on).wm = m := rfl
theorem Jd (l : List (Nat × Option AObj)) (n m : Nat) (b : Bool) (hd : List (Nat × Nat)) (on : Option (Nat × List Nat)) : (KL l n m b hd on).md = b := rfl
theorem w8 (l : List (Nat × Option AObj)) (n m : Nat) (b : Bool) (i : Nat) : (KL l n m b [] none).get i = getA l i := by
 rw [← Xr]; rfl
theorem LS (l : List (Nat × Option AObj)) (n m : Nat) (b : Bool) (hd : List (Nat × Nat)) (k : Nat) (ks : List Nat) (i : Nat) : (KL l n m b hd (some (k, ks))).get i = bif hid hd i then none else bif Nat.ble k i then getA l i else bif memN i ks then getA l i else none := by
 rw [← Xr]; rfl
theorem zwq (l : List (Nat × Option AObj)) (n m : Nat) (b : Bool) (hd : List (Nat × Nat)) (on : Option (Nat × List Nat)) (i : Nat) (o : AObj) : (KL l n m b hd on).put i o = KL ((i, some o) :: l) n (mark m i) b hd on := rfl
theorem zpv (l : List (Nat × Option AObj)) (n m : Nat) (b : Bool) (hd : List (Nat × Nat)) (on : Option (Nat × List Nat)) (i : Nat) : (KL l n m b hd on).del i = KL ((i, none) :: l) n (mark m i) b hd on := rfl
theorem zwp (l : List (Nat × Option AObj)) (n m : Nat) (b : Bool) (hd : List (Nat × Nat)) (on : Option (Nat × List Nat)) (o : AObj) : (KL l n m b hd on).alloc o = KL ((n, some o) :: l) (n + 1) m b hd on := rfl
theorem zrY (m i : Nat) : mark m i = m ||| 1 <<< i := rfl
def zph (x : Option (Trie AV × St)) (k : Trie AV → St → Option (Trie AV × St)) : Option (Trie AV × St) :=
 match x with
 | some p => k p.1 p.2
 | none => none
theorem GY (tm : Trie AV) (s : St) (k : Trie AV → St → Option (Trie AV × St)) : zph (some (tm, s)) k = k tm s := rfl
theorem zrz (G : Env) (S : Self) (tm : Trie AV) (s : St) : evS G S [] tm s = some (tm, s) := rfl
theorem zvU (G : Env) (S : Self) (o : SOper) (r : List SOper) (tm : Trie AV) (s : St) : evS G S (o :: r) tm s = zph (jU G S o tm s) (evS G S r) := rfl
theorem zqv (G : Env) (S : Self) (d : Option Nat) (op : IOp) (tm : Trie AV) (s : St) : jU G S ⟨d, op, none⟩ tm s = stS tm d (evOp G S op tm s) := rfl
noncomputable def zuh (G : Env) (S : Self) (d : Option Nat) (op : IOp) (tm : Trie AV) (s : St) : Option Bool → Option (Trie AV × St)
 | some true => stS tm d (evOp G S op tm s)
 | some false => some (qp tm d ql, s)
 | none => none
def V7 (w : Bool) : Option AV → Option Bool
 | some (.bool b) => some (b == w)
 | some _ => some false
 | none => none
theorem zqu (G : Env) (S : Self) (d : Option Nat) (op : IOp) (i : Nat) (w : Bool) (tm : Trie AV) (s : St) : jU G S ⟨d, op, some (i, w)⟩ tm s = zuh G S d op tm s (V7 w (tm.get i)) := by
 unfold jU jo
 simp only
 generalize tm.get i = x
 cases x with
 | none => rfl
 | some v => cases v <;> first | rfl | (rename_i b; cases b <;> cases w <;> rfl)
theorem zq1 (b : Bool) : V7 true (some (.bool b)) = some b := by cases b <;> rfl
theorem zq0 (b : Bool) : V7 false (some (.bool b)) = some (!b) := by cases b <;> rfl
theorem zq2 (w : Bool) (l : List AV) : V7 w (some (.tup l)) = some false := rfl
theorem zx7 : ql = .tup [] := rfl
theorem zrG (G : Env) (S : Self) (d : Option Nat) (op : IOp) (tm : Trie AV) (s : St) : zuh G S d op tm s (some true) = stS tm d (evOp G S op tm s) := rfl
theorem zrF (G : Env) (S : Self) (d : Option Nat) (op : IOp) (tm : Trie AV) (s : St) : zuh G S d op tm s (some false) = some (qp tm d ql, s) := rfl
theorem ztS (tm : Trie AV) (d : Option Nat) (v : AV) (s : St) : stS tm d (some (v, s)) = some (qp tm d v, s) := rfl
theorem Gu (l : List (Nat × AV)) (i : Nat) (v : AV) : qp (tmL l) (some i) v = tmL ((i, v) :: l) := rfl
theorem Gt (tm : Trie AV) (v : AV) : qp tm none v = tm := rfl
theorem Gr (tm : Trie AV) (i : Nat) : wH tm i [] = tm := rfl
theorem U3 (l : List (Nat × AV)) (i : Nat) (v : AV) (r : List AV) : wH (tmL l) i (v :: r) = wH (tmL ((i, v) :: l)) (i + 1) r := rfl
theorem zxG (tm : Trie AV) : kN tm [] [] = some tm := rfl
theorem Lm (l : List (Nat × AV)) (p : Nat) (ps : List Nat) (v : AV) (vs : List AV) : kN (tmL l) (p :: ps) (v :: vs) = kN (tmL ((p, v) :: l)) ps vs := rfl
def zpg (x : Option (List LogE × Trie AV × St)) (k : List LogE → Trie AV → St → Option (Trie AV × St)) : Option (Trie AV × St) :=
 match x with
 | some p => k p.1 p.2.1 p.2.2
 | none => none
theorem GX (log : List LogE) (tm : Trie AV) (s : St) (k : List LogE → Trie AV → St → Option (Trie AV × St)) : zpg (some (log, tm, s)) k = k log tm s := rfl
theorem ztt (E : Env) (S : Self) (ops : List DOper) (tm : Trie AV) (df : List Nat) (l : List (Nat × Option AObj)) (n m : Nat) (b : Bool) (hd : List (Nat × Nat)) : Y8 E S ops ⟨tm, df⟩ (KL l n m b hd none) = uN df (evD E S ops 0 [] tm (KL l n m b hd none)) := rfl
theorem zsV (G : Env) (S : Self) (i : Nat) (log : List LogE) (tm : Trie AV) (s : St) : evD G S [] i log tm s = some (tm, s) := rfl
theorem zvv (G : Env) (S : Self) (o : DOper) (r : List DOper) (i : Nat) (log : List LogE) (tm : Trie AV) (s : St) : evD G S (o :: r) i log tm s = zpg (jT G S o i log tm s) (evD G S r (i + 1)) := rfl
noncomputable def opD (G : Env) (S : Self) (d : Option Nat) (op : IOp) (deps i : Nat) (log : List LogE) (tm : Trie AV) (l : List (Nat × Option AObj)) (n m : Nat) (b : Bool) (hd : List (Nat × Nat)) (on : Option (Nat × List Nat)) (tch : Option (List Nat)) : Option (List LogE × Trie AV × St) :=
 endS2 d deps i log tm n m hd on tch (evOp G S op tm (KL l n 0 b (wV deps log hd) (onOf n tch)))
 where
 onOf (n : Nat) : Option (List Nat) → Option (Nat × List Nat)
  | some l => some (n, l)
  | none => none
 endS2 (d : Option Nat) (deps i : Nat) (log : List LogE) (tm : Trie AV) (n m : Nat) (hd : List (Nat × Nat)) (on : Option (Nat × List Nat)) (tch : Option (List Nat)) : Option (AV × St) → Option (List LogE × Trie AV × St)
  | some p => bif vy deps tch (wd p.2.wm n) log then some ({ idx := i, lo := n, hi := p.2.next, tch := tch, wm := wd p.2.wm n } :: log, qp tm d p.1, { p.2 with hide := hd, only := on, wm := Nat.lor m p.2.wm }) else none
  | none => none
theorem zoa (G : Env) (S : Self) (d : Option Nat) (op : IOp) (deps i : Nat) (log : List LogE) (tm : Trie AV) (l : List (Nat × Option AObj)) (n m : Nat) (b : Bool) (hd : List (Nat × Nat)) (on : Option (Nat × List Nat)) (tch : Option (List Nat)) :
  opD G S d op deps i log tm l n m b hd on tch = opD.endS2 d deps i log tm n m hd on tch (evOp G S op tm (KL l n 0 b (wV deps log hd) (opD.onOf n tch))) := rfl
theorem zxd (n : Nat) (l : List Nat) : opD.onOf n (some l) = some (n, l) := rfl
theorem zxc (n : Nat) : opD.onOf n none = none := rfl
theorem zvk (d : Option Nat) (deps i : Nat) (log : List LogE) (tm : Trie AV) (n m : Nat) (hd : List (Nat × Nat)) (on : Option (Nat × List Nat)) (tch : Option (List Nat)) (v : AV) (l' : List (Nat × Option AObj)) (n' m' : Nat) (b' : Bool) (hd' : List (Nat × Nat)) (on' : Option (Nat × List Nat)) :
  opD.endS2 d deps i log tm n m hd on tch (some (v, KL l' n' m' b' hd' on')) = bif vy deps tch (wd m' n) log then some (⟨i, n, n', tch, wd m' n⟩ :: log, qp tm d v, KL l' n' (m ||| m') b' hd on) else none := rfl
theorem zqt (G : Env) (S : Self) (d : Option Nat) (op : IOp) (deps i : Nat) (log : List LogE) (tm : Trie AV) (l : List (Nat × Option AObj)) (n m : Nat) (b : Bool) (hd : List (Nat × Nat)) (on : Option (Nat × List Nat)) :
  jT G S ⟨⟨d, op, none⟩, deps⟩ i log tm (KL l n m b hd on) = opD G S d op deps i log tm l n m b hd on (wM op tm) := by
 simp only [jT, jo, endD, begD, opD]
 cases wM op tm <;> rfl
noncomputable def UE (G : Env) (S : Self) (d : Option Nat) (op : IOp) (deps i : Nat) (log : List LogE) (tm : Trie AV) (l : List (Nat × Option AObj)) (n m : Nat) (b : Bool) (hd : List (Nat × Nat)) (on : Option (Nat × List Nat)) : Option Bool → Option (List LogE × Trie AV × St)
 | some true => opD G S d op deps i log tm l n m b hd on (wM op tm)
 | some false => some (log, qp tm d ql, KL l n m b hd on)
 | none => none
theorem zqs (G : Env) (S : Self) (d : Option Nat) (op : IOp) (j : Nat) (w : Bool) (deps i : Nat) (log : List LogE) (tm : Trie AV) (l : List (Nat × Option AObj)) (n m : Nat) (b : Bool) (hd : List (Nat × Nat)) (on : Option (Nat × List Nat)) :
  jT G S ⟨⟨d, op, some (j, w)⟩, deps⟩ i log tm (KL l n m b hd on) = UE G S d op deps i log tm l n m b hd on (V7 w (tm.get j)) := by
 unfold jT jo
 simp only
 generalize tm.get j = x
 cases x with
 | none => rfl
 | some v =>
  cases v <;> first | rfl | skip
  rename_i c
  cases c <;> cases w <;> first | rfl | (simp only [UE, V7, endD, begD, opD]; cases wM op tm <;> rfl)
theorem zuj (G : Env) (S : Self) (d : Option Nat) (op : IOp) (deps i : Nat) (log : List LogE) (tm : Trie AV) (l : List (Nat × Option AObj)) (n m : Nat) (b : Bool) (hd : List (Nat × Nat)) (on : Option (Nat × List Nat)) : UE G S d op deps i log tm l n m b hd on (some true) = opD G S d op deps i log tm l n m b hd on (wM op tm) := rfl
theorem zui (G : Env) (S : Self) (d : Option Nat) (op : IOp) (deps i : Nat) (log : List LogE) (tm : Trie AV) (l : List (Nat × Option AObj)) (n m : Nat) (b : Bool) (hd : List (Nat × Nat)) (on : Option (Nat × List Nat)) : UE G S d op deps i log tm l n m b hd on (some false) = some (log, qp tm d ql, KL l n m b hd on) := rfl
theorem UG (deps : Nat) (h : List (Nat × Nat)) : wV deps [] h = h := rfl
theorem Qv (deps : Nat) (i lo hi : Nat) (tch : Option (List Nat)) (wm : Nat) (r : List LogE) (h : List (Nat × Nat)) : wV deps (⟨i, lo, hi, tch, wm⟩ :: r) h = bif za lo hi || deps.testBit i then wV deps r h else (lo, hi) :: wV deps r h := rfl
theorem G9 (deps : Nat) (tch : Option (List Nat)) (wm : Nat) : vy deps tch wm [] = true := rfl
theorem JC (deps : Nat) (tch : Option (List Nat)) (wm : Nat) (i lo hi : Nat) (tch' : Option (List Nat)) (wm' : Nat) (r : List LogE) :
  vy deps tch wm (⟨i, lo, hi, tch', wm'⟩ :: r) = bif deps.testBit i then vy deps tch wm r else bif (za wm 0 || offMask wm tch') && (za wm' 0 || offMask wm' tch) then vy deps tch wm r else false := rfl
theorem UV (m : Nat) : offMask m none = false := rfl
theorem K1 (m : Nat) : offMask m (some []) = true := rfl
theorem UU (m a : Nat) (l : List Nat) : offMask m (some (a :: l)) = bif m.testBit a then false else offMask m (some l) := rfl
theorem H4 (m n : Nat) : wd m n = m % 2 ^ n := rfl
theorem GE (m i : Nat) : m.testBit i = !(za (m / 2 ^ i % 2) 0) := by
 rw [Nat.testBit_eq_decide_div_mod_eq]
 rcases Nat.mod_two_eq_zero_or_one (m / 2 ^ i) with h | h <;> rw [h] <;> rfl
theorem zt4 (tm : Trie AV) (x : Opd) : wM (.mv x) tm = some [] := rfl
theorem zxZ (tm : Trie AV) (x : Opd) : wM (.nck x) tm = some [] := rfl
theorem zt1 (tm : Trie AV) (n : Nat) (x : Opd) : wM (.fa n x) tm = some [] := rfl
theorem zxV (tm : Trie AV) (op : BinOp) (x y : Opd) : wM (.bin op x y) tm = some [] := rfl
theorem zt6 (tm : Trie AV) (op : UnOp) (x : Opd) : wM (.un op x) tm = some [] := rfl
theorem Lv (tm : Trie AV) (a b c : Opd) : wM (.pick a b c) tm = some [] := rfl
theorem ztZ (tm : Trie AV) (k : IntKind) (x : Opd) : wM (.ci k x) tm = some [] := rfl
theorem zt0 (tm : Trie AV) (x : Opd) (i : Nat) : wM (.ex x i) tm = some [] := rfl
theorem zt2 (tm : Trie AV) (e : Nat) (x y : Opd) : wM (.ia e x y) tm = some [] := rfl
theorem zx0 (tm : Trie AV) (x : Opd) (a b : Option Opd) : wM (.sls x a b) tm = some [] := rfl
theorem zx1 (tm : Trie AV) (e : Nat) (x : Opd) (a b c : Option Opd) : wM (.slv e x a b c) tm = some [] := rfl
theorem zx2 (tm : Trie AV) (x : Opd) : wM (.usd x) tm = some [] := rfl
theorem zt3 (tm : Trie AV) (x : Opd) : wM (.ld x) tm = tPtr (x.ev tm) := rfl
theorem zxX (tm : Trie AV) (n : Nat) (x : Opd) : wM (.ldn n x) tm = tPtr (x.ev tm) := rfl
theorem zt5 (tm : Trie AV) (n : Nat) (x y : Opd) : wM (.st n x y) tm = tPtr (x.ev tm) := rfl
theorem zxY (tm : Trie AV) (k : LK) (x : Opd) : wM (.len k x) tm = tPtr (x.ev tm) := rfl
theorem zxW (tm : Trie AV) (x : Opd) : wM (.cbs x) tm = tPtr (x.ev tm) := rfl
theorem zx3 (tm : Trie AV) (e : Nat) (x y : Opd) : wM (.ust e x y) tm = tPtr (x.ev tm) := rfl
theorem Lu (tm : Trie AV) (f : Nat) (l : List Opd) : wM (.call f l) tm = none := rfl
theorem ztW (s : List Nat) : tPtr (some (.str s)) = some [] := rfl
theorem zxR  : tPtr (some (.nilp)) = some [] := rfl
theorem zxS  : tPtr (some (.nils)) = some [] := rfl
theorem ztU (n : Nat) (e : Bool) (l : List AV) : tPtr (some (.lst n e l)) = some [] := rfl
theorem zqx (l : List AV) : tPtr (some (.vp l)) = some [] := rfl
theorem ztV (i o : Nat) : tPtr (some (.ptr i o)) = some [i] := rfl
theorem zqw (i o n : Nat) (c : Cap) : tPtr (some (.sl i o n c)) = some [i] := rfl
theorem zru (G : Env) (S : Self) (tm : Trie AV) (s : St) (x : Opd) : evOp G S (.mv x) tm s = v1 tm s x some := rfl
theorem zyz (G : Env) (S : Self) (tm : Trie AV) (s : St) (c : Opd) (a : Opd) (b : Opd) : evOp G S (.pick c a b) tm s = ret1 s (V5 (c.ev tm) (a.ev tm) (b.ev tm)) := rfl
theorem HD (G : Env) (S : Self) (tm : Trie AV) (s : St) (e : Nat) (zs : List AV) : evOp G S (.alloc e zs) tm s = lk s e zs := rfl
theorem zvB (G : Env) (S : Self) (tm : Trie AV) (s : St) (e : Nat) (x : Opd) : evOp G S (.box e x) tm s = o1 tm x (oBox s e) := rfl
theorem HE (G : Env) (S : Self) (tm : Trie AV) (s : St) (zs : List AV) (ps : List (Nat × Nat × Opd)) : evOp G S (.build zs ps) tm s = ret1 s (aggO (uJ zs tm ps)) := rfl
theorem zvC (G : Env) (S : Self) (tm : Trie AV) (s : St) (e : Nat) (zs : List AV) (len : Nat) (ps : List (Nat × Nat × Opd)) : evOp G S (.bsl e zs len ps) tm s = oBsl s e len (uJ zs tm ps) := rfl
theorem zrs (G : Env) (S : Self) (tm : Trie AV) (s : St) (x : Opd) : evOp G S (.ld x) tm s = v1 tm s x (vLd G.globs s) := rfl
theorem zvL (G : Env) (S : Self) (tm : Trie AV) (s : St) (n : Nat) (x : Opd) : evOp G S (.ldn n x) tm s = v1 tm s x (vLdn G.globs s n) := rfl
theorem zrx (G : Env) (S : Self) (tm : Trie AV) (s : St) (n : Nat) (x : Opd) (v : Opd) : evOp G S (.st n x v) tm s = o2 tm x v (oSt s n) := rfl
theorem zvO (G : Env) (S : Self) (tm : Trie AV) (s : St) (x : Opd) : evOp G S (.nck x) tm s = v1 tm s x vNck := rfl
theorem zvA (G : Env) (S : Self) (tm : Trie AV) (s : St) (op : BinOp) (x : Opd) (y : Opd) : evOp G S (.bin op x y) tm s = v2 tm s x y (vBin op) := rfl
theorem zvI (G : Env) (S : Self) (tm : Trie AV) (s : St) (k : EqK) (neg : Bool) (x : Opd) (y : Opd) : evOp G S (.eqk k neg x y) tm s = v2 tm s x y (vEqk k neg) := rfl
theorem zry (G : Env) (S : Self) (tm : Trie AV) (s : St) (op : UnOp) (x : Opd) : evOp G S (.un op x) tm s = v1 tm s x (vUn op) := rfl
theorem zrn (G : Env) (S : Self) (tm : Trie AV) (s : St) (k : IntKind) (x : Opd) : evOp G S (.ci k x) tm s = v1 tm s x (vCi k) := rfl
theorem zvG (G : Env) (S : Self) (tm : Trie AV) (s : St) (e : Nat) (x : Opd) : evOp G S (.csb e x) tm s = o1 tm x (oCsb s e) := rfl
theorem zvH (G : Env) (S : Self) (tm : Trie AV) (s : St) (x : Opd) : evOp G S (.cup x) tm s = v1 tm s x (vCup s) := rfl
theorem zvF (G : Env) (S : Self) (tm : Trie AV) (s : St) (L : List (Nat × Nat)) (x : Opd) : evOp G S (.cpu L x) tm s = v1 tm s x (vCpu s L) := rfl
theorem zvD (G : Env) (S : Self) (tm : Trie AV) (s : St) (x : Opd) : evOp G S (.cbs x) tm s = v1 tm s x (vCbs s) := rfl
theorem zvE (G : Env) (S : Self) (tm : Trie AV) (s : St) (x : Opd) : evOp G S (.cis x) tm s = v1 tm s x vCis := rfl
theorem zvN (G : Env) (S : Self) (tm : Trie AV) (s : St) (f : Nat) (fst : List Opd) (cap : List Opd) : evOp G S (.mfn f fst cap) tm s = vLL tm s fst cap (fun us vs => some (.fn f us vs)) := rfl
theorem zvQ (G : Env) (S : Self) (tm : Trie AV) (s : St) (x : Opd) (lo : Option Opd) (hi : Option Opd) : evOp G S (.sls x lo hi) tm s = vs3 tm s x lo hi vSls := rfl
theorem zvR (G : Env) (S : Self) (tm : Trie AV) (s : St) (esz : Nat) (x : Opd) (lo : Option Opd) (hi : Option Opd) (mx : Option Opd) : evOp G S (.slv esz x lo hi mx) tm s = vs4 tm s x lo hi mx (vSlv esz) := rfl
theorem zrq (G : Env) (S : Self) (tm : Trie AV) (s : St) (off : Nat) (x : Opd) : evOp G S (.fa off x) tm s = v1 tm s x (vFa off) := rfl
theorem zrr (G : Env) (S : Self) (tm : Trie AV) (s : St) (esz : Nat) (x : Opd) (i : Opd) : evOp G S (.ia esz x i) tm s = v2 tm s x i (vIa esz) := rfl
theorem zvJ (G : Env) (S : Self) (tm : Trie AV) (s : St) (n : Nat) (esz : Nat) (x : Opd) (i : Opd) : evOp G S (.iaa n esz x i) tm s = v2 tm s x i (vIaa n esz) := rfl
theorem zvK (G : Env) (S : Self) (tm : Trie AV) (s : St) (x : Opd) (i : Opd) : evOp G S (.ixs x i) tm s = v2 tm s x i vIxs := rfl
theorem zrw (G : Env) (S : Self) (tm : Trie AV) (s : St) (x : Opd) : evOp G S (.rs x) tm s = o1 tm x (oRs s) := rfl
theorem zrv (G : Env) (S : Self) (tm : Trie AV) (s : St) (it : Opd) : evOp G S (.ns it) tm s = o1 tm it (oNs s) := rfl
theorem zrp (G : Env) (S : Self) (tm : Trie AV) (s : St) (x : Opd) (i : Nat) : evOp G S (.ex x i) tm s = v1 tm s x (fun v => vEx v i) := rfl
theorem zvM (G : Env) (S : Self) (tm : Trie AV) (s : St) (k : LK) (x : Opd) : evOp G S (.len k x) tm s = v1 tm s x (vLen s k) := rfl
theorem zvz (G : Env) (S : Self) (tm : Trie AV) (s : St) (e : Nat) (esz : Nat) (bytes : Nat) (x : Opd) (y : Opd) : evOp G S (.app e esz bytes x y) tm s = o2 tm x y (appV s e esz bytes) := rfl
theorem zrt (G : Env) (S : Self) (tm : Trie AV) (s : St) (xs : List Opd) : evOp G S (.mn xs) tm s = vL tm s xs (vMn false) := rfl
theorem zvS (G : Env) (S : Self) (tm : Trie AV) (s : St) (x : Opd) : evOp G S (.usd x) tm s = v1 tm s x vUsd := rfl
theorem zvT (G : Env) (S : Self) (tm : Trie AV) (s : St) (e : Nat) (x : Opd) (n : Opd) : evOp G S (.ust e x n) tm s = o2 tm x n (oUst s e) := rfl
theorem zvP (G : Env) (S : Self) (tm : Trie AV) (s : St) (x : Opd) : evOp G S (.nes x) tm s = v1 tm s x some := rfl
theorem zyy (G : Env) (S : Self) (tm : Trie AV) (s : St) (f : Nat) (args : List Opd) : evOp G S (.call f args) tm s = evCl S f (evL tm args) s := rfl
theorem zro (G : Env) (S : Self) (tm : Trie AV) (s : St) (x : Opd) (args : List Opd) : evOp G S (.cv x args) tm s = evCv S (x.ev tm) (evL tm args) s := rfl
theorem H2 (df : List Nat) (tm : Trie AV) (s : St) : uN df (some (tm, s)) = some (.norm, ⟨tm, df⟩, s) := rfl
theorem Lr (k : Fr → St → Option (Res × Fr × St)) (fr : Fr) (s : St) : ub k (some (.norm, fr, s)) = k fr s := rfl
theorem Lq (k : Fr → St → Option (Res × Fr × St)) (i : Nat) (fr : Fr) (s : St) : ub k (some (.exit i, fr, s)) = some (.exit i, fr, s) := rfl
theorem zxT (k : Fr → St → Option (Res × Fr × St)) (fr : Fr) (s : St) : ub k (some (.ret, fr, s)) = some (.ret, fr, s) := rfl
theorem zsG (a b : Fr → St → Option (Res × Fr × St)) (fr : Fr) (s : St) : YL (some (.bool true)) a b fr s = a fr s := rfl
theorem zsF (a b : Fr → St → Option (Res × Fr × St)) (fr : Fr) (s : St) : YL (some (.bool false)) a b fr s = b fr s := rfl
theorem Jp (id : Nat) (p : Fr × St) : jg id (some (.norm, p)) = some (.norm, p) := rfl
theorem GZ (id : Nat) (p : Fr × St) : jg id (some (.ret, p)) = some (.ret, p) := rfl
theorem Jo (id i : Nat) (p : Fr × St) : jg id (some (.exit i, p)) = if i = id then some (.norm, p) else some (.exit i, p) := by
 show (bif za i id then some (Res.norm, p) else some (Res.exit i, p)) = _
 by_cases h : i = id
 ·rw [if_pos h, xF.2 h]; rfl
 ·rw [if_neg h]
  cases hb : za i id with
  | true => exact absurd (xF.1 hb) h
  | false => rfl
theorem zvt (G : Env) (S : Self) (rd : Option Nat) (fr : Fr) (s : St) : evC G S rd .skip fr s = some (.norm, fr, s) := rfl
theorem zsR (G : Env) (S : Self) (rd : Option Nat) (ops : List SOper) (tm : Trie AV) (df : List Nat) (s : St) : evC G S rd (.reg ops) ⟨tm, df⟩ s = uN df (evS G S ops tm s) := rfl
theorem zvs (G : Env) (S : Self) (rd : Option Nat) (ops : List DOper) (fr : Fr) (s : St) : evC G S rd (.regd ops) fr s = Y8 G S ops fr s := rfl
theorem zsT (G : Env) (S : Self) (rd : Option Nat) (a b : ICode) (fr : Fr) (s : St) : evC G S rd (.seq a b) fr s = ub (evC G S rd b) (evC G S rd a fr s) := rfl
theorem zvq (G : Env) (S : Self) (rd : Option Nat) (c : Opd) (a b : ICode) (tm : Trie AV) (df : List Nat) (s : St) : evC G S rd (.cond c a b) ⟨tm, df⟩ s = YL (c.ev tm) (evC G S rd a) (evC G S rd b) ⟨tm, df⟩ s := rfl
theorem zyr (G : Env) (S : Self) (rd : Option Nat) (id : Nat) (b : ICode) (fr : Fr) (s : St) : evC G S rd (.block id b) fr s = jg id (evC G S rd b fr s) := rfl
theorem zvr (G : Env) (S : Self) (rd : Option Nat) (id : Nat) (fr : Fr) (s : St) : evC G S rd (.exit id) fr s = some (.exit id, fr, s) := rfl
theorem zsS (G : Env) (S : Self) (rd : Option Nat) (fr : Fr) (s : St) : evC G S rd .ret fr s = some (.ret, fr, s) := rfl
theorem g8 (E : Env) (O : Orc) (f : Nat) (a : List AV) (s : St) : (evW E O).call f a s = gF E O (evW E O) f a s := by
 cases h : gF E O (evW E O) f a s with
 | some r => exact zvV h
 | none =>
  cases h2 : (evW E O).call f a s with
  | none => rfl
  | some r =>
   obtain ⟨n, hn⟩ := qB (α := AV × St) h2
   cases n with
   | zero => cases hn
   | succ n =>
    have h3 : gF E O (evT E O n) f a s = some r := hn
    have h4 : LeS (evT E O n) (evW E O) := ⟨fun f a s r h => uj (fun n r h => (v4 E O n).call _ _ _ _ h) h, fun rd b fr s r h => uj (fun n r h => (v4 E O n).loop _ _ _ _ _ h) h, fun l a s r h => uj (fun n r h => (v4 E O n).round _ _ _ _ h) h⟩
    rw [(XT E O f a s).up _ _ h4 r h3] at h; cases h
theorem xC {f : Nat} {g : List AV → St → Option (AV × St)} (h : O f = some g) (E : Env) (a : List AV) (s : St) : (evW E O).call f a s = g a s := by
 rw [g8]; unfold gF; rw [h]
theorem zsD {f : Nat} {F : IFunc} (h : O f = none) (hF : E.funs.get f = some F) (hp : E.pure f = true) (a : List AV) (l : List (Nat × Option AObj)) (n m : Nat) (b : Bool) (hd : List (Nat × Nat)) (on : Option (Nat × List Nat)) (ha : a.length ≤ F.ntmps) :
  (evW E O).call f a (KL l n m b hd on) = popR (KL l n m b hd on) (vz E.globs F.res (evC E (evW E O) none F.body ⟨wH (tmL []) 0 a, []⟩ (KL l n 0 true hd on))) := by
 rw [g8]; unfold gF gE; rw [h, hF]
 simp only [x7, xJ.2 ha, cond_true, hp]
 rfl
theorem zwU {f : Nat} {F : IFunc} (h : O f = none) (hF : E.funs.get f = some F) (hp : E.pure f = false) (a : List AV) (l : List (Nat × Option AObj)) (n m : Nat) (b : Bool) (hd : List (Nat × Nat)) (on : Option (Nat × List Nat)) (ha : a.length ≤ F.ntmps) :
  (evW E O).call f a (KL l n m b hd on) = mdR b (vz E.globs F.res (evC E (evW E O) none F.body ⟨wH (tmL []) 0 a, []⟩ (KL l n m false hd on))) := by
 rw [g8]; unfold gF gE; rw [h, hF]
 simp only [x7, xJ.2 ha, cond_true, hp, cond_false]
 rfl
theorem zuQ (b : Bool) (v : AV) (l : List (Nat × Option AObj)) (n m : Nat) (b' : Bool) (hd : List (Nat × Nat)) (on : Option (Nat × List Nat)) : mdR b (some (v, KL l n m b' hd on)) = some (v, KL l n m b hd on) := rfl
def popK (s t : St) (v : AV) : Option AV → Option (AV × St)
 | some v => some (v, s)
 | none => some (v, { t with wm := Nat.lor s.wm t.wm, md := s.md })
theorem zxh (s t : St) (v : AV) : popR s (some (v, t)) = popK s t v (bif za (wd t.wm s.next) 0 then frzA s.next v else none) := rfl
theorem zxg (s t : St) (v u : AV) : popK s t v (some u) = some (u, s) := rfl
theorem zxf (v : AV) (l : List (Nat × Option AObj)) (n m : Nat) (b : Bool) (hd : List (Nat × Nat)) (on : Option (Nat × List Nat)) (l' : List (Nat × Option AObj)) (n' m' : Nat) (b' : Bool) (hd' : List (Nat × Nat)) (on' : Option (Nat × List Nat)) :
  popK (KL l n m b hd on) (KL l' n' m' b' hd' on') v none = some (v, KL l' n' (m ||| m') b hd' on') := rfl
theorem Jv (G : List (List AV)) (res : List RV) (tm : Trie AV) (s : St) : vz G res (some (.ret, ⟨tm, []⟩, s)) = resE G tm s res := rfl
theorem Uk (G : List (List AV)) (res : List RV) (tm : Trie AV) (s : St) : vz G res (some (.norm, ⟨tm, []⟩, s)) = resE G tm s res := rfl
def resK (s : St) : Option (List AV) → Option (AV × St)
 | some vs => some (qi vs, s)
 | none => none
theorem zqj (G : List (List AV)) (tm : Trie AV) (s : St) (res : List RV) : resE G tm s res = resK s (resV G tm s res) := by
 unfold resE resK; cases resV G tm s res <;> rfl
theorem zxw (s : St) (vs : List AV) : resK s (some vs) = some (qi vs, s) := rfl
theorem H5 : qi [] = .tup [] := rfl
theorem H6 (v : AV) : qi [v] = v := rfl
theorem H7 (v w : AV) (r : List AV) : qi (v :: w :: r) = .tup (v :: w :: r) := rfl
def gG (v : Option AV) (l : Option (List AV)) : Option (List AV) :=
 match v, l with
 | some v, some vs => some (v :: vs)
 | _, _ => none
theorem Ha (v : AV) (vs : List AV) : gG (some v) (some vs) = some (v :: vs) := rfl
noncomputable def ldnK (G : List (List AV)) (s : St) (n : Nat) : Option AV → Option AV
 | some p => vLdn G s n p
 | none => none
theorem zyV (G : List (List AV)) (s : St) (n : Nat) (p : AV) : ldnK G s n (some p) = vLdn G s n p := rfl
theorem ztz (G : List (List AV)) (tm : Trie AV) (s : St) : resV G tm s [] = some [] := rfl
theorem zof (G : List (List AV)) (tm : Trie AV) (s : St) (i : Nat) (r : List RV) : resV G tm s (.t i :: r) = gG (tm.get i) (resV G tm s r) := by
 simp only [resV, gG]; cases tm.get i <;> cases resV G tm s r <;> rfl
theorem zqk (G : List (List AV)) (tm : Trie AV) (s : St) (a n : Nat) (r : List RV) : resV G tm s (.cn a n :: r) = gG (ldnK G s n (tm.get a)) (resV G tm s r) := by
 simp only [resV, gG]
 cases tm.get a with
 | none => cases resV G tm s r <;> rfl
 | some p =>
  simp only [ldnK, vLdn]
  cases qT G s p n with
  | none => cases resV G tm s r <;> rfl
  | some l => cases resV G tm s r <;> rfl
theorem QC (s : St) : x9 s [] = some s := rfl
noncomputable def zuI (s : St) (d : Nat) (r : List Nat) : Option AObj → Option St
 | some .dfd => x9 (s.put d .dfd0) r
 | _ => none
theorem Qf (s : St) (d : Nat) (r : List Nat) : x9 s (d :: r) = zuI s d r (s.get d) := by
 unfold x9 zuI; rfl
theorem zy0 (s : St) (d : Nat) (r : List Nat) : zuI s d r (some .dfd) = x9 (s.put d .dfd0) r := rfl
theorem znm (tm : Trie AV) (i : Nat) : (Opd.t i).ev tm = tm.get i := rfl
theorem znl (tm : Trie AV) (v : AV) : (Opd.c v).ev tm = some v := rfl
theorem zsW (tm : Trie AV) : evL tm [] = some [] := rfl
theorem zvw (tm : Trie AV) (x : Opd) (r : List Opd) : evL tm (x :: r) = gG (x.ev tm) (evL tm r) := rfl
theorem zyw (tm : Trie AV) : evO tm none = some none := rfl
def ztR : Option AV → Option (Option AV)
 | some v => some (some v)
 | none => none
theorem zyx (tm : Trie AV) (x : Opd) : evO tm (some x) = ztR (x.ev tm) := by unfold evO ztR; rfl
theorem Ln (v : AV) : ztR (some v) = some (some v) := rfl
theorem zxx (s : St) (v : AV) : ret1 s (some v) = some (v, s) := rfl
def b1 (f : AV → Option (AV × St)) : Option AV → Option (AV × St)
 | some v => f v
 | none => none
def b2 (f : AV → AV → Option (AV × St)) : Option AV → Option AV → Option (AV × St)
 | some v, some w => f v w
 | _, _ => none
def b3 (f : AV → AV → AV → Option (AV × St)) : Option AV → Option AV → Option AV → Option (AV × St)
 | some v, some w, some u => f v w u
 | _, _, _ => none
def k1 (s : St) (f : AV → Option AV) : Option AV → Option (AV × St)
 | some v => ret1 s (f v)
 | none => none
def k2 (s : St) (f : AV → AV → Option AV) : Option AV → Option AV → Option (AV × St)
 | some v, some w => ret1 s (f v w)
 | _, _ => none
def kL (s : St) (f : List AV → Option AV) : Option (List AV) → Option (AV × St)
 | some v => ret1 s (f v)
 | none => none
def kLL (s : St) (f : List AV → List AV → Option AV) : Option (List AV) → Option (List AV) → Option (AV × St)
 | some v, some w => ret1 s (f v w)
 | _, _ => none
def k3 (s : St) (f : AV → Option AV → Option AV → Option AV) : Option AV → Option (Option AV) → Option (Option AV) → Option (AV × St)
 | some v, some l, some h => ret1 s (f v l h)
 | _, _, _ => none
noncomputable def k4 (tm : Trie AV) (s : St) (x : Opd) (lo hi : Option Opd) (f : AV → Option AV → Option AV → Option AV → Option AV) : Option (Option AV) → Option (AV × St)
 | some m => vs3 tm s x lo hi (fun v l h => f v l h m)
 | none => none
theorem v1_k (tm : Trie AV) (s : St) (x : Opd) (f : AV → Option AV) : v1 tm s x f = k1 s f (x.ev tm) := by unfold v1 k1; cases x.ev tm <;> rfl
theorem v2_k (tm : Trie AV) (s : St) (x y : Opd) (f : AV → AV → Option AV) : v2 tm s x y f = k2 s f (x.ev tm) (y.ev tm) := by unfold v2 k2; cases x.ev tm <;> cases y.ev tm <;> rfl
theorem zrM (s : St) (f : AV → Option AV) (v : AV) : k1 s f (some v) = ret1 s (f v) := rfl
theorem zrN (s : St) (f : AV → AV → Option AV) (v w : AV) : k2 s f (some v) (some w) = ret1 s (f v w) := rfl
theorem o1_k (tm : Trie AV) (x : Opd) (f : AV → Option (AV × St)) : o1 tm x f = b1 f (x.ev tm) := by unfold o1 b1; cases x.ev tm <;> rfl
theorem o2_k (tm : Trie AV) (x y : Opd) (f : AV → AV → Option (AV × St)) : o2 tm x y f = b2 f (x.ev tm) (y.ev tm) := by unfold o2 b2; cases x.ev tm <;> cases y.ev tm <;> rfl
theorem vL_k (tm : Trie AV) (s : St) (l : List Opd) (f : List AV → Option AV) : vL tm s l f = kL s f (evL tm l) := by unfold vL kL; cases evL tm l <;> rfl
theorem zny (tm : Trie AV) (s : St) (l m : List Opd) (f : List AV → List AV → Option AV) : vLL tm s l m f = kLL s f (evL tm l) (evL tm m) := by unfold vLL kLL; cases evL tm l <;> cases evL tm m <;> rfl
theorem znz (tm : Trie AV) (s : St) (x : Opd) (lo hi : Option Opd) (f : AV → Option AV → Option AV → Option AV) : vs3 tm s x lo hi f = k3 s f (x.ev tm) (evO tm lo) (evO tm hi) := by unfold vs3 k3; cases x.ev tm <;> cases evO tm lo <;> cases evO tm hi <;> rfl
theorem znA (tm : Trie AV) (s : St) (x : Opd) (lo hi mx : Option Opd) (f : AV → Option AV → Option AV → Option AV → Option AV) : vs4 tm s x lo hi mx f = k4 tm s x lo hi f (evO tm mx) := by unfold vs4 k4; cases evO tm mx <;> rfl
theorem zsw (f : AV → Option (AV × St)) (v : AV) : b1 f (some v) = f v := rfl
theorem zsx (f : AV → AV → Option (AV × St)) (v w : AV) : b2 f (some v) (some w) = f v w := rfl
theorem zrQ (s : St) (f : List AV → Option AV) (l : List AV) : kL s f (some l) = ret1 s (f l) := rfl
theorem zuw (s : St) (f : List AV → List AV → Option AV) (l m : List AV) : kLL s f (some l) (some m) = ret1 s (f l m) := rfl
theorem zrO (s : St) (f : AV → Option AV → Option AV → Option AV) (v : AV) (l h : Option AV) : k3 s f (some v) (some l) (some h) = ret1 s (f v l h) := rfl
theorem zrP (tm : Trie AV) (s : St) (x : Opd) (lo hi : Option Opd) (f : AV → Option AV → Option AV → Option AV → Option AV) (m : Option AV) : k4 tm s x lo hi f (some m) = vs3 tm s x lo hi (fun v l h => f v l h m) := rfl
theorem zys (S : Self) (f : Nat) (vs : List AV) (s : St) : evCl S f (some vs) s = S.call f vs s := rfl
theorem zsU (S : Self) (f : Nat) (a c : List AV) (vs : List AV) (s : St) : evCv S (some (.fn f a c)) (some vs) s = S.call f (a ++ vs ++ c) s := rfl
theorem zqV (a b : Option AV) : V5 (some (.bool true)) a b = a := rfl
theorem zqU (a b : Option AV) : V5 (some (.bool false)) a b = b := rfl
theorem zqT (x y z : Bool) : V5 (some (.bool x)) (some (.bool y)) (some (.bool z)) = some (.bool (bif x then y else z)) := by cases x <;> rfl
theorem zqN (off id o : Nat) : vFa off (.ptr id o) = some (.ptr id (o + off)) := rfl
theorem zoA (off : Nat) (cs : List AV) : vFa off (.vp cs) = some (.vp (wK off cs)) := rfl
theorem zsf (i o : Nat) : vNck (.ptr i o) = some (.ptr i o) := rfl
theorem zr2 (s : St) (e : Nat) (v : AV) : oBox s e v = some (.ptr s.next 0, s.alloc (.row e v.cells false false)) := rfl
theorem zy7 (s : St) (e : Nat) (zs : List AV) : lk s e zs = some (.ptr s.next 0, s.alloc (.row e zs false false)) := rfl
theorem zzL (cs : List AV) : (AV.agg cs).cells = cs := rfl
theorem zzM (k : IntKind) (n : Int) : (AV.int k n).cells = [.int k n] := rfl
theorem zzP (s : List Nat) : (AV.str s).cells = [.str s] := rfl
theorem G5 (b : Bool) : (AV.bool b).cells = [.bool b] := rfl
theorem zzN (n : Nat) (e : Bool) (l : List AV) : (AV.lst n e l).cells = [.lst n e l] := rfl
theorem zzO (i o : Nat) : (AV.ptr i o).cells = [.ptr i o] := rfl
theorem zwX (i o n : Nat) (c : Cap) : (AV.sl i o n c).cells = [.sl i o n c] := rfl
theorem zse (s : St) (t : List Nat) : vLen s .s (.str t) = some (.int .i64 (.ofNat t.length)) := by rw [← x7]; rfl
theorem zwa (s : St) : vLen s .v .nils = some (.int .i64 (.ofNat 0)) := rfl
theorem zsd (s : St) (n : Nat) (e : Bool) (l : List AV) : vLen s .v (.lst n e l) = some (.int .i64 (.ofNat n)) := rfl
theorem zqR (s : St) (i e n : Nat) (l : List AV) : vLen s .v (.gr i e n l) = some (.int .i64 (.ofNat n)) := rfl
theorem zqS (s : St) (i o n : Nat) (c : Cap) : vLen s .v (.sl i o n c) = some (.int .i64 (.ofNat n)) := rfl
theorem zqW (b : Bool) : vUn .not (.bool b) = some (.bool (!b)) := rfl
theorem zt8 (op : BinOp) (k k' : IntKind) (a b : Int) : vBin op (.int k a) (.int k' b) = binI op k a k' b := rfl
theorem zt9 (op : BinOp) (a b : List Nat) : vBin op (.str a) (.str b) = binS op a b := rfl
def eqD (a b : Int) : Bool := decide (a = b)
def ltD (a b : Int) : Bool := decide (a < b)
theorem zwD (k : IntKind) (a b : Int) : binI .eql k a k b = some (.bool (eqD a b)) := by
 have : vK k k = true := by cases k <;> rfl
 simp only [binI, this, cond_true, gd, eqD]
 by_cases h : a = b <;> simp [h]
theorem zwJ (k : IntKind) (a b : Int) : binI .neq k a k b = some (.bool (!eqD a b)) := by
 have : vK k k = true := by cases k <;> rfl
 simp only [binI, this, cond_true, gd, eqD]
 by_cases h : a = b <;> simp [h]
theorem zwH (k : IntKind) (a b : Int) : binI .lss k a k b = some (.bool (ltD a b)) := by
 have : vK k k = true := by cases k <;> rfl
 simp only [binI, this, cond_true, jm, ltD]
theorem zwG (k : IntKind) (a b : Int) : binI .leq k a k b = some (.bool (!ltD b a)) := by
 have : vK k k = true := by cases k <;> rfl
 simp only [binI, this, cond_true, jm, ltD]
theorem zwF (k : IntKind) (a b : Int) : binI .gtr k a k b = some (.bool (ltD b a)) := by
 have : vK k k = true := by cases k <;> rfl
 simp only [binI, this, cond_true, jm, ltD]
theorem zwE (k : IntKind) (a b : Int) : binI .geq k a k b = some (.bool (!ltD a b)) := by
 have : vK k k = true := by cases k <;> rfl
 simp only [binI, this, cond_true, jm, ltD]
theorem zsP (a b : Nat) : eqD (.ofNat a) (.ofNat b) = decide (a = b) := by
 unfold eqD; by_cases h : a = b
 ·subst h; simp
 ·simp only [h, decide_false, decide_eq_false_iff_not]; intro e; cases e; exact h rfl
theorem UN (a b : Nat) : ltD (.ofNat a) (.ofNat b) = decide (a < b) := by
 unfold ltD; by_cases h : a < b <;> simp [h]
theorem zuF (a b : Nat) : ltD (.negSucc a) (.ofNat b) = true := by
 have : (Int.negSucc a) < 0 := Int.negSucc_lt_zero a
 have h2 : (0 : Int) ≤ Int.ofNat b := Int.natCast_nonneg b
 unfold ltD; exact decide_eq_true (by omega)
theorem ZR (k : IntKind) {a : Nat} (h : a < topN k) : vq k (.ofNat a) = .ofNat a := by
 show (bif zd a (topN k) then Int.ofNat a else _) = _
 rw [xR.2 h]; rfl
theorem addI (a b : Nat) : Int.add (.ofNat a) (.ofNat b) = .ofNat (a + b) := rfl
theorem mulI (a b : Nat) : Int.mul (.ofNat a) (.ofNat b) = .ofNat (a * b) := rfl
theorem subI {a b : Nat} (h : b ≤ a) : Int.sub (.ofNat a) (.ofNat b) = .ofNat (a - b) := by
 show (a : Int) - (b : Int) = ((a - b : Nat) : Int)
 omega
theorem zwC (k : IntKind) (a b : Int) : binI .add k a k b = some (.int k (vq k (Int.add a b))) := by
 have : vK k k = true := by cases k <;> rfl
 simp only [binI, this, cond_true]
theorem zwK (k : IntKind) (a b : Int) : binI .sub k a k b = some (.int k (vq k (Int.sub a b))) := by
 have : vK k k = true := by cases k <;> rfl
 simp only [binI, this, cond_true]
theorem zwI (k : IntKind) (a b : Int) : binI .mul k a k b = some (.int k (vq k (Int.mul a b))) := by
 have : vK k k = true := by cases k <;> rfl
 simp only [binI, this, cond_true]
theorem LO {a : Nat} (h : a < 9223372036854775808) : vq .i64 (.ofNat a) = .ofNat a := ZR .i64 h
theorem LN {a : Nat} (h : a < 2147483648) : vq .i32 (.ofNat a) = .ofNat a := ZR .i32 h
theorem jZ {a : Nat} (h : a < 256) : vq .u8 (.ofNat a) = .ofNat a := ZR .u8 h
theorem uQ {a : Nat} (h : a < 4294967296) : vq .u32 (.ofNat a) = .ofNat a := ZR .u32 h
theorem zqL (k k' : IntKind) (a : Int) : vCi k (.int k' a) = some (.int k (vq k a)) := rfl
theorem zwL (a b : List Nat) : binS .eql a b = some (.bool (decide (a = b))) := by
 show some (AV.bool (eqS a b)) = _
 rw [Z3]; by_cases h : a = b <;> simp [h]
theorem zwM (a b : List Nat) : binS .neq a b = some (.bool (!decide (a = b))) := by
 show some (AV.bool (!eqS a b)) = _
 rw [Z3]; by_cases h : a = b <;> simp [h]
theorem Jm {a : List Nat} (h : a.length + b.length < 9223372036854775808) : binS .add a b = some (.str (a ++ b)) := by
 show (bif zd (zc (lenN a) (lenN b)) 9223372036854775808 then some (AV.str (a ++ b)) else none) = _
 rw [x7, x7, show zd (zc a.length b.length) 9223372036854775808 = true from xR.2 h]; rfl
theorem HM (v : AV) (l : List AV) : gI (v :: l) = some v := rfl
theorem zqM (vs : List AV) (i : Nat) : vEx (.tup vs) i = gI (wK i vs) := rfl
theorem zzs (l : List AV) : aggO (some l) = some (.agg l) := rfl
theorem zsH (l : List AV) (off n : Nat) : cut l off n = wA n (wK off l) := rfl
theorem zrH (k : IntKind) (a n : Nat) : idx (.int k (.ofNat a)) n = if a < n then some a else none := by
 show (bif zd a n then some a else none) = _
 by_cases h : a < n
 ·rw [if_pos h, xR.2 h]; rfl
 ·rw [if_neg h]
  cases hb : zd a n with
  | true => exact absurd (xR.1 hb) h
  | false => rfl
def vpK (cs : List AV) (esz : Nat) : Option Nat → Option AV
 | some k => some (.vp (wK (k * esz) cs))
 | none => none
theorem zsh (cs : List AV) (esz k : Nat) : vpK cs esz (some k) = some (.vp (wK (k * esz) cs)) := rfl
theorem zqO (esz n : Nat) (e : Bool) (cs : List AV) (i : AV) : vIa esz (.lst n e cs) i = vpK cs esz (idx i n) := by
 simp only [vIa, vpK]; generalize idx i n = x; cases x <;> rfl
def ptK (id off esz : Nat) : Option Nat → Option AV
 | some k => some (.ptr id (off + k * esz))
 | none => none
theorem ztl (id off esz k : Nat) : ptK id off esz (some k) = some (.ptr id (off + k * esz)) := rfl
theorem zsa (n esz id off : Nat) (i : AV) : vIaa n esz (.ptr id off) i = ptK id off esz (idx i n) := by
 simp only [vIaa, ptK]; generalize idx i n = x; cases x <;> rfl
theorem G0 (b : Nat) : Js (some b) = some (.int .u8 (.ofNat b)) := rfl
theorem zsb (t : List Nat) (k : IntKind) (i : Nat) : vIxs (.str t) (.int k (.ofNat i)) = Js (getS t i) := rfl
def rowO : Option AObj → Option (List AV)
 | some (.row _ cs _ _) => some cs
 | some (.giv cs) => some cs
 | _ => none
theorem ztD (e : Nat) (cs : List AV) (x fz : Bool) : rowO (some (.row e cs x fz)) = some cs := rfl
def cutO (off n : Nat) : Option (List AV) → Option (List AV)
 | some cs => cut cs off n
 | none => none
theorem zzU (off n : Nat) (cs : List AV) : cutO off n (some cs) = wA n (wK off cs) := rfl
def Px : Option (List AV) → Option AV
 | some l => gI l
 | none => none
theorem HL (l : List AV) : Px (some l) = gI l := rfl
theorem VC (G : List (List AV)) (s : St) (id off n : Nat) : qT G s (.ptr id off) n = cutO off n (rowO (s.get id)) := by
 unfold qT; simp only
 cases s.get id with
 | none => rfl
 | some o => cases o <;> rfl
theorem KH (G : List (List AV)) (s : St) (cs : List AV) (n : Nat) : qT G s (.vp cs) n = wA n cs := rfl
theorem zqP (G : List (List AV)) (s : St) (id off : Nat) : vLd G s (.ptr id off) = Px (cutO off 1 (rowO (s.get id))) := by
 rw [← VC G]; unfold vLd; cases qT G s (.ptr id off) 1 <;> rfl
theorem zoB (G : List (List AV)) (s : St) (cs : List AV) : vLd G s (.vp cs) = Px (wA 1 cs) := by
 rw [← KH G s]; unfold vLd; cases qT G s (.vp cs) 1 <;> rfl
theorem zsc (G : List (List AV)) (s : St) (n id off : Nat) : vLdn G s n (.ptr id off) = aggO (cutO off n (rowO (s.get id))) := by
 rw [← VC G]; unfold vLdn; cases qT G s (.ptr id off) n <;> rfl
theorem zqQ (G : List (List AV)) (s : St) (n : Nat) (cs : List AV) : vLdn G s n (.vp cs) = aggO (wA n cs) := by
 rw [← KH G s]; unfold vLdn; cases qT G s (.vp cs) n <;> rfl
noncomputable def putO (s : St) (id e : Nat) (x : Bool) : Option (List AV) → Option (AV × St)
 | some cs => some (ql, s.put id (.row e cs x false))
 | none => none
theorem zxl (s : St) (id e : Nat) (x : Bool) (cs : List AV) : putO s id e x (some cs) = some (ql, s.put id (.row e cs x false)) := rfl
noncomputable def stO (s : St) (id off n : Nat) (w : AV) : Option AObj → Option (AV × St)
 | some (.row e cs x false) => bif (za (lenN w.cells) n && wj w.cells) then putO s id e x (uR cs off w.cells) else none
 | _ => none
theorem zqr (s : St) (id off n : Nat) (w : AV) (e : Nat) (cs : List AV) (x : Bool) : stO s id off n w (some (.row e cs x false)) = (bif (za (lenN w.cells) n && wj w.cells) then putO s id e x (uR cs off w.cells) else none) := rfl
theorem zr7 (s : St) (n id off : Nat) (w : AV) : oSt s n (.ptr id off) w = stO s id off n w (s.get id) := by
 unfold oSt uP; simp only
 cases s.get id with
 | none => cases za (lenN w.cells) n <;> rfl
 | some o =>
  cases o <;> first | (cases za (lenN w.cells) n <;> rfl) | skip
  rename_i e cs x fz
  cases fz
  ·simp only [stO]
   cases za (lenN w.cells) n <;> cases wj w.cells <;> simp only [Bool.false_or, xf, xd, cond_true, cond_false, xe, Bool.and_false, Bool.true_and, xc]
   cases uR cs off w.cells <;> rfl
  ·cases za (lenN w.cells) n <;> rfl
theorem zpi (a b : Nat) : ze a b = decide (a ≤ b) := by
 cases h : ze a b with
 | true => exact (decide_eq_true (xJ.1 h)).symm
 | false => exact (decide_eq_false (fun e => by rw [xJ.2 e] at h; cases h)).symm
theorem zoY (a b : Nat) : zd a b = decide (a < b) := by
 cases h : zd a b with
 | true => exact (decide_eq_true (xR.1 h)).symm
 | false => exact (decide_eq_false (fun e => by rw [xR.2 e] at h; cases h)).symm
theorem zoX (a b : Nat) : za a b = decide (a = b) := by
 cases h : za a b with
 | true => exact (decide_eq_true (xF.1 h)).symm
 | false => exact (decide_eq_false (fun e => by rw [xF.2 e] at h; cases h)).symm
mutual
theorem Vj (n0 : Nat) : ∀ {v : AV}, xG v = true → frz1 n0 v = some v
 | .bool _, _ => rfl
 | .int _ _, _ => rfl
 | .str _, _ => rfl
 | .nilp, _ => rfl
 | .gptr _ _, _ => rfl
 | .sl0, _ => rfl
 | .nils, _ => rfl
 | .nilm, _ => rfl
 | .nilf, _ => rfl
 | .nili, _ => rfl
 | .lst _ _ _, _ => rfl
 | .vp _, _ => rfl
 | .ifc _ v, h => by simp only [frz1, h, cond_true]
 | .fn _ a c, h => by simp only [frz1, h, cond_true]
 | .agg cs, h => by simp only [frz1, h, cond_true]
 | .tup vs, h => by simp only [frz1, h, cond_true]
 | .ptr _ _, h => by simp [xG] at h
 | .sl _ _ _ _, h => by simp [xG] at h
 | .map _, h => by simp [xG] at h
 | .yld _, h => by simp [xG] at h
 | .gr _ _ _ _, h => by simp [xG] at h
end
theorem Vl (n0 : Nat) : ∀ {l : List AV}, xz l = true → frzL n0 l = some l
 | [], _ => rfl
 | v :: r, h => by
  simp only [xz, zm] at h
  simp only [frzL, Vj n0 h.1, Vl n0 h.2]
theorem Vk (n0 : Nat) (h : xG v = true) : frz2 n0 v = some v := by
 cases v <;> first | exact Vj n0 h | skip
 rename_i cs
 simp only [xG] at h
 simp only [frz2, Vl n0 h]
theorem Vm (n0 : Nat) : ∀ {l : List AV}, xz l = true → frzT n0 l = some l
 | [], _ => rfl
 | v :: r, h => by
  simp only [xz, zm] at h
  simp only [frzT, Vk n0 h.1, Vm n0 h.2]
theorem zyG (n0 : Nat) (h : xG v = true) : frzA n0 v = some v := by
 cases v <;> first | exact Vk n0 h | skip
 rename_i cs
 simp only [xG] at h
 simp only [frzA, Vm n0 h]
def tupO : Option (List AV) → Option AV
 | some l => some (.tup l)
 | none => none
theorem zx5 (l : List AV) : tupO (some l) = some (.tup l) := rfl
theorem zv8 (n0 : Nat) (vs : List AV) : frzA n0 (.tup vs) = tupO (frzT n0 vs) := by simp only [frzA, tupO]; cases frzT n0 vs <;> rfl
theorem zua (n0 : Nat) : frzT n0 [] = some [] := rfl
theorem zyI (n0 : Nat) (v : AV) (r : List AV) : frzT n0 (v :: r) = gG (frz2 n0 v) (frzT n0 r) := by
 simp only [frzT, gG]; cases frz2 n0 v <;> cases frzT n0 r <;> rfl
theorem zv9 (n0 : Nat) : frzL n0 [] = some [] := rfl
theorem zyH (n0 : Nat) (v : AV) (r : List AV) : frzL n0 (v :: r) = gG (frz1 n0 v) (frzL n0 r) := by
 simp only [frzL, gG]; cases frz1 n0 v <;> cases frzL n0 r <;> rfl
theorem Pn (n0 id e n : Nat) (cs : List AV) : frz1 n0 (.gr id e n cs) = if n0 ≤ id then some (.lst n false cs) else some (.gr id e n cs) := by
 simp only [frz1, zpi]; by_cases h : n0 ≤ id <;> simp [h]
theorem zrA (n0 id e n : Nat) (cs : List AV) : frz2 n0 (.gr id e n cs) = if n0 ≤ id then some (.lst n false cs) else some (.gr id e n cs) := Pn n0 id e n cs
theorem zrC (n0 id e n : Nat) (cs : List AV) : frzA n0 (.gr id e n cs) = if n0 ≤ id then some (.lst n false cs) else some (.gr id e n cs) := Pn n0 id e n cs
theorem zv6 (n0 : Nat) (cs : List AV) : frz2 n0 (.agg cs) = aggO (frzL n0 cs) := rfl
theorem G1 : xo [] = [] := rfl
theorem Jt (b : Nat) (r : List Nat) : xo (b :: r) = .int .u8 (.ofNat b) :: xo r := rfl
theorem kQ : ∀ l : List Nat, (xo l).length = l.length
 | [] => rfl
 | b :: r => by simp [xo, kQ r]
theorem ja : ∀ (n : Nat) (l : List Nat), wK n (xo l) = xo (l.drop n)
 | 0, l => rfl
 | n + 1, [] => rfl
 | n + 1, b :: r => by simp only [xo, wK, xg]; exact ja n r
theorem lU : ∀ (n : Nat) (l : List Nat), tkN n (xo l) = xo (l.take n)
 | 0, l => by simp [tkN, xo]
 | n + 1, [] => rfl
 | n + 1, b :: r => by simp only [xo, tkN, xb]; rw [lU n r]
theorem Xd : ∀ {n : Nat} {l : List Nat}, n ≤ l.length → wA n (xo l) = some (xo (l.take n))
 | 0, l, _ => by simp [wA, xo]
 | n + 1, [], h => by simp at h
 | n + 1, b :: r, h => by simp only [xo, wA, Xd (n := n) (l := r) (by simpa using h), xb]
theorem u4 : ∀ {l : List Nat}, (∀ b ∈ l, b < 256) → qN (xo l) = some l
 | [], _ => rfl
 | b :: r, h => by
  simp only [xo, qN, u4 (l := r) (fun x hx => h x (by simp [hx])), xR.2 (h b (by simp)), cond_true]
theorem kr : ∀ l : List Nat, wj (xo l) = true
 | [] => rfl
 | b :: r => by simp only [xo, wj, scal, cond_true, kr r]
theorem zp5 (a b : Nat) : Nat.lor a b = a ||| b := rfl
theorem ztv (ρ : Nat → Option Nat) (k : IntKind) (n : Int) : renV ρ (.int k n) = some (.int k n) := by simp only [renV]
theorem zxu (ρ : Nat → Option Nat) (b : Bool) : renV ρ (.bool b) = some (.bool b) := by simp only [renV]
theorem zty (ρ : Nat → Option Nat) (s : List Nat) : renV ρ (.str s) = some (.str s) := by simp only [renV]
theorem zxv (ρ : Nat → Option Nat) : renV ρ .nils = some .nils := by simp only [renV]
theorem ztw (ρ : Nat → Option Nat) (n : Nat) (e : Bool) (l : List AV) : renV ρ (.lst n e l) = some (.lst n e l) := by simp only [renV]
def jS (f : Nat → AV) : Option Nat → Option AV
 | some j => some (f j)
 | none => none
theorem zrL (f : Nat → AV) (j : Nat) : jS f (some j) = some (f j) := rfl
theorem ztx (ρ : Nat → Option Nat) (i o : Nat) : renV ρ (.ptr i o) = jS (fun j => .ptr j o) (ρ i) := by simp only [renV]; cases ρ i <;> rfl
theorem zqi (ρ : Nat → Option Nat) (i o n : Nat) (c : Cap) : renV ρ (.sl i o n c) = jS (fun j => .sl j o n c) (ρ i) := by simp only [renV]; cases ρ i <;> rfl
theorem zqh (ρ : Nat → Option Nat) (i e n : Nat) (l : List AV) : renV ρ (.gr i e n l) = jS (fun j => .gr j e n l) (ρ i) := by simp only [renV]; cases ρ i <;> rfl
def fnO (f : Nat) : Option (List AV) → Option (List AV) → Option AV
 | some a, some c => some (.fn f a c)
 | _, _ => none
theorem zv1 (f : Nat) (a c : List AV) : fnO f (some a) (some c) = some (.fn f a c) := rfl
theorem zqg (ρ : Nat → Option Nat) (f : Nat) (a c : List AV) : renV ρ (.fn f a c) = fnO f (renC ρ (xz a) a) (renC ρ (xz c) c) := by
 simp only [renV]; cases renC ρ (xz a) a <;> cases renC ρ (xz c) c <;> rfl
theorem zoe (ρ : Nat → Option Nat) (l : List AV) : renC ρ true l = some l := by simp only [renC, cond_true]
theorem zod (ρ : Nat → Option Nat) (l : List AV) : renC ρ false l = renL ρ l := by simp only [renC, cond_false]
theorem ztu (ρ : Nat → Option Nat) : renL ρ [] = some [] := by simp only [renL]
theorem zxs (ρ : Nat → Option Nat) (v : AV) (r : List AV) : renL ρ (v :: r) = gG (renV ρ v) (renL ρ r) := by simp only [renL, gG]; cases renV ρ v <;> cases renL ρ r <;> rfl
theorem vP (b : Bool) : xG (.bool b) = true := rfl
theorem wc (k : IntKind) (n : Int) : xG (.int k n) = true := rfl
theorem qc (s : List Nat) : xG (.str s) = true := rfl
theorem WL : xG .nilp = true := rfl
theorem La (g o : Nat) : xG (.gptr g o) = true := rfl
theorem zxk : xG .sl0 = true := rfl
theorem pP : xG .nils = true := rfl
theorem Ld : xG .nilm = true := rfl
theorem Lb : xG .nilf = true := rfl
theorem Lc : xG .nili = true := rfl
theorem wi (n : Nat) (e : Bool) (l : List AV) : xG (.lst n e l) = true := rfl
theorem ztn (l : List AV) : xG (.vp l) = true := rfl
theorem zxi (t : Nat) (v : AV) : xG (.ifc t v) = xG v := rfl
theorem lm (f : Nat) (a c : List AV) : xG (.fn f a c) = (xz a && xz c) := rfl
theorem vU (l : List AV) : xG (.agg l) = xz l := rfl
theorem wE (l : List AV) : xG (.tup l) = xz l := rfl
theorem zxj (i o : Nat) : xG (.ptr i o) = false := rfl
theorem ztm (i o n : Nat) (c : Cap) : xG (.sl i o n c) = false := rfl
theorem xD : xz [] = true := rfl
theorem xw (v : AV) (r : List AV) : xz (v :: r) = (xG v && xz r) := rfl
theorem zv3 (n0 : Nat) (k : IntKind) (n : Int) : frz1 n0 (.int k n) = some (.int k n) := rfl
theorem zv5 (n0 : Nat) (s : List Nat) : frz1 n0 (.str s) = some (.str s) := rfl
theorem zyF (n0 : Nat)  : frz1 n0 (.nils) = some (.nils) := rfl
theorem zv4 (n0 : Nat) (n : Nat) (e : Bool) (l : List AV) : frz1 n0 (.lst n e l) = some (.lst n e l) := rfl
theorem zv7 (n0 : Nat) (k : IntKind) (n : Int) : frz2 n0 (.int k n) = some (.int k n) := rfl
theorem wb {C : Cx} {ib : ICode} {Q : Res → Fr → St → Prop} {α : Type} (m : α → Nat) (fr : α → Fr) (st : α → St) (I : α → Prop)
  (step : ∀ x, I x → Tri C ib (fr x) (st x) (xA (fun f t => ∃ y, I y ∧ m y < m x ∧ Gc C f t (fr y) (st y)) Q)) : ∀ x, I x → TriL C ib (fr x) (st x) Q := by
 have key : ∀ n x, m x < n → I x → TriL C ib (fr x) (st x) Q := by
  intro n
  induction n with
  | zero => intro x h; omega
  | succ n ih =>
   intro x hx hI
   refine Yx ((step x hI).mono fun r f t => ?_)
   cases r with
   | norm =>
    rintro ⟨y, h1, h2, h3⟩
    exact zzp h3 (ih y (by omega) h1)
   | exit i => exact fun h => h
   | ret => exact fun h => h
 exact fun x hI => key (m x + 1) x (by omega) hI
theorem vW : ∀ l : List Nat, wkL (xo l) = xo l
 | [] => rfl
 | b :: r => by simp only [xo, wkL, wkV, vW r]
theorem uo : ∀ {a b : List Nat}, xo a = xo b → a = b
 | [], [], _ => rfl
 | [], _ :: _, h => by simp [xo] at h
 | _ :: _, [], h => by simp [xo] at h
 | x :: a, y :: b, h => by
  simp only [xo, yZ, AV.int.injEq, true_and] at h
  obtain ⟨h1, h2⟩ := h
  have : x = y := by cases h1; rfl
  rw [this, uo h2]
structure Is (C : Cx) (E : Env) (O : Orc) (c : St) (M : Nat) : Prop where
 ok : CxOk C
 e : C.E = E
 o : C.O = O
 rd : C.rd = none
 s : C.s = c
 m : C.M = M
section
variable {C : Cx} {E : Env} {O : Orc} {c : St} {M : Nat} {ic : ICode} {fr fr' fr1 : Fr} {s s' s1 : St} {Q : Res → Fr → St → Prop} {res : Res}
theorem Is.eval (k : Is C E O c M) (h : evC E (evW E O) none ic fr s = some (res, fr', s')) (q : Q res fr' s') : Tri C ic fr s Q :=
 zt7 k.ok (by rw [k.e, k.o, k.rd]; exact h) q
theorem Is.ev (k : Is C E O c M) (h : ∃ r, evC E (evW E O) none ic fr s = some r ∧ Q r.1 r.2.1 r.2.2) : Tri C ic fr s Q := by
 obtain ⟨⟨res, fr', s'⟩, h1, h2⟩ := h
 exact k.eval h1 h2
theorem Is.gcs (k : Is C E O c M) {keep live : List Nat} {md : Bool} (h : gcF false c M keep live md fr s = some (fr1, s1)) : Gc C fr s fr1 s1 :=
 zue k.ok (wk := false) (keep := keep) (live := live) (md := md) (by rw [k.s, k.m]; exact h)
theorem Is.gc (k : Is C E O c M) (keep live : List Nat) (md : Bool) (h : gcF false c M keep live md fr s = some (fr1, s1)) (t : Tri C ic fr1 s1 Q) : Tri C ic fr s Q := Yy (k.gcs h) t
theorem Is.gcL (k : Is C E O c M) (keep live : List Nat) (md : Bool) (h : gcF false c M keep live md fr s = some (fr1, s1)) (t : TriL C ic fr1 s1 Q) : TriL C ic fr s Q := zzp (k.gcs h) t
end
def Cut (C : Cx) (fr1 : Fr) (s1 : St) (Q : Res → Fr → St → Prop) : Res → Fr → St → Prop
 | .norm, f, t => Gc C f t fr1 s1
 | r, f, t => Q r f t
theorem ul {C : Cx} {ia ib : ICode} {fr : Fr} {Q : Res → Fr → St → Prop} (fr1 : Fr) (s1 : St) (h1 : Tri C ia fr s (Cut C fr1 s1 Q)) (h2 : Tri C ib fr1 s1 Q) : Tri C (.seq ia ib) fr s Q :=
 wu (h1.mono fun r f t => by
  cases r with
  | norm => exact fun h => Yy h h2
  | exit i => exact fun h => h
  | ret => exact fun h => h)
theorem Is.sc (hO : OrcOk P w0 O) (hm : P.follows .mixedOrders = true) (hG : xK E.globs w0) (hE : jG P E) {f : Nat} {F : IFunc} {args : List AV} {os : List (Option AObj)} {b : Bool} {c' : St} (M : Nat)
  (hF : E.funs.get f = some F) (hle : args.length ≤ F.ntmps) (hM : ∀ i, M.testBit i = true → ∃ o, getO os i = some o ∧ qh o = false)
  (h : ∀ C : Cx, Is C E O (H os 0 b) M → Tri C F.body { tm := wH (tmL []) 0 args, df := [] } (H os 0 b) (Fin E (H os 0 b) M F.res v c')) : SC P w0 f args (H os 0 b) v c' :=
 Ll hO hm hG hE M hF hle rfl rfl rfl (fun i hi => by
  obtain ⟨o, h1, h2⟩ := hM i hi
  exact ⟨Zp h1, o, by rw [ph]; exact h1, h2⟩) fun C ok h1 h2 h3 h4 h5 => h C ⟨ok, h1, h2, h3, h4, h5⟩
theorem w7 {c : St} {M : Nat} {res : List RV} {c' : St} {r : Res} {fr : Fr} {s2 : St} {vs : List AV} {v0 : AV} (h0 : r = .norm ∨ r = .ret) (h1 : x9 s fr.df = some s2) (h2 : resV E.globs fr.tm s2 res = some vs) (h3 : frzA c.next (qi vs) = some v0) (h4 : wkV v0 = v) (h5 : gcF true c M [] [] c.md { tm := tmL [], df := [] } s2 = some ({ tm := tmL [], df := [] }, c')) : Fin E c M res v c' r fr s :=
 ⟨h0, s2, vs, v0, _, h1, h2, h3, h4.symm, h5⟩
theorem zo8 {os : List (Option AObj)} : ∀ i, (0 : Nat).testBit i = true → ∃ o, getO os i = some o ∧ qh o = false := fun i h => by simp at h
theorem zuN {os : List (Option AObj)} (hg : qh o = false) : ∀ i, (1 : Nat).testBit i = true → ∃ o', getO (some o :: os) i = some o' ∧ qh o' = false := fun i h => by
 cases i with
 | zero => exact ⟨o, rfl, hg⟩
 | succ i => rw [Nat.testBit_succ] at h; simp at h
def Byt (l : List Nat) : Prop := ∀ x ∈ l, x < 256
theorem Byt.drop {l : List Nat} (h : Byt l) (n : Nat) : Byt (l.drop n) := fun x hx => h x (List.mem_of_mem_drop hx)
theorem Byt.take {l : List Nat} (h : Byt l) (n : Nat) : Byt (l.take n) := fun x hx => h x (List.mem_of_mem_take hx)
theorem Byt.cons {c : Nat} {l : List Nat} (h : Byt (c :: l)) : c < 256 ∧ Byt l := ⟨h c (by simp), fun x hx => h x (by simp [hx])⟩
theorem Byt.append {l m : List Nat} (h : Byt l) (h' : Byt m) : Byt (l ++ m) := fun x hx => by
 rcases List.mem_append.1 hx with h1 | h1
 ·exact h x h1
 ·exact h' x h1
theorem zxL {e : Bool} {k k' : IntKind} {lo hi : Nat} (h1 : lo ≤ hi) (h2 : hi ≤ b.length) : vSlv 1 (.lst b.length e (xo b)) (some (.int k (.ofNat lo))) (some (.int k' (.ofNat hi))) none = some (.lst (hi - lo) (e && Nat.beq hi b.length) (xo ((b.drop lo).take (hi - lo)))) := by
 simp only [vSlv, vSlF, bnd, xJ.2 h1, xJ.2 h2, cond_true]
 show some (AV.lst (hi - lo) _ (tkN ((hi - lo) * 1) (wK (lo * 1) (xo b)))) = _
 rw [y7, y7, ja, lU]
theorem U5 {e : Bool} {k : IntKind} {lo : Nat} (h1 : lo ≤ b.length) : vSlv 1 (.lst b.length e (xo b)) (some (.int k (.ofNat lo))) none none = some (.lst (b.length - lo) (e && Nat.beq b.length b.length) (xo (b.drop lo))) := by
 simp only [vSlv, vSlF, bnd, xJ.2 h1, cond_true]
 show some (AV.lst (b.length - lo) _ (tkN ((b.length - lo) * 1) (wK (lo * 1) (xo b)))) = _
 rw [y7, y7, ja, lU, List.take_of_length_le (by simp)]
theorem U4 {b : List Nat} {e : Bool} {k : IntKind} {hi : Nat} (h2 : hi ≤ b.length) : vSlv 1 (.lst b.length e (xo b)) none (some (.int k (.ofNat hi))) none = some (.lst hi (e && Nat.beq hi b.length) (xo (b.take hi))) := by
 simp only [vSlv, vSlF, bnd, xJ.2 h2, xJ.2 (Nat.zero_le hi), cond_true]
 show some (AV.lst (hi - 0) _ (tkN ((hi - 0) * 1) (wK (0 * 1) (xo b)))) = _
 rw [y7, y7, ja, lU]; simp
theorem QU {e : Bool} {l : List Nat} (hn : l.length = n) (hb : Byt l) : vCbs s (.lst n e (xo l)) = some (.str l) := by
 subst hn
 simp only [vCbs, Xd (zq _), List.take_length, qk, u4 hb, vStr]
theorem QD (l : List AV) : qk (some l) = qN l := rfl
theorem Ul {t : List Nat} (h : t.length < 9223372036854775808) (l : List (Nat × Option AObj)) (n m : Nat) (hd : List (Nat × Nat)) (on : Option (Nat × List Nat)) (e : Nat) : oCsb (KL l n m true hd on) e (.str t) = some (.lst t.length false (xo t), KL l n m true hd on) := by
 simp only [oCsb, x7, xR.2 h, cond_true, Jd]
theorem QH : wj [] = true := rfl
theorem QG (v : AV) (r : List AV) : wj (v :: r) = (scal v && wj r) := by simp only [wj]; cases scal v <;> rfl
theorem Gn (k : IntKind) (n : Int) : scal (.int k n) = true := by simp only [scal]
theorem Gq (s : List Nat) : scal (.str s) = true := by simp only [scal]
theorem zxC (b : Bool) : scal (.bool b) = true := by simp only [scal]
theorem Gp (n : Nat) (e : Bool) (l : List AV) : scal (.lst n e l) = true := by simp only [scal]
theorem zqn (i e n : Nat) (l : List AV) : scal (.gr i e n l) = true := by simp only [scal]
theorem zxD : scal .nils = true := by simp only [scal]
theorem ztK (i o : Nat) : scal (.ptr i o) = true := by simp only [scal]
theorem ztJ (i : Nat) : scal (.map i) = true := by simp only [scal]
theorem zsK {a b : Nat} (h : a < b) : decide (a < b) = true := decide_eq_true h
theorem zsJ {a b : Nat} (h : b ≤ a) : decide (a < b) = false := decide_eq_false (by omega)
theorem zuo (k : IntKind) {a : Nat} (h : a < n) : idx (.int k (.ofNat a)) n = some a := by rw [zrH, if_pos h]
theorem jF {l : List AV} (h : l.length = n) : wA n l = some l := by
 subst h
 induction l with
 | nil => rfl
 | cons v r ih => simp only [yY, wA, ih]
theorem pT (n : Nat) (e : Bool) (cs : List AV) : jR (.lst n e cs) = some n := rfl
theorem Qb (l : List Nat) : jR (.str l) = some l.length := by rw [← x7]; rfl
theorem QK (l : List (Nat × Option AObj)) (n m : Nat) (hd : List (Nat × Nat)) (on : Option (Nat × List Nat)) (t esz bytes : Nat) (e : Bool) (cs : List AV) (hl : cs.length = esz) (h1 : 1 ≤ esz) (hb : 2 * bytes ≤ 281474976710656) (hp : xz cs = true) :
  appV (KL l n m true hd on) t esz bytes .nils (.lst 1 e cs) = some (.gr n esz 1 cs, KL ((n, some (.app t cs)) :: l) (n + 1) m true hd on) := by
 have h2 : wA (zb 1 esz) cs = some cs := jF (by rw [hl]; show esz = 1 * esz; omega)
 simp only [appV, pT, qI, h2, appW, Jd, hp, y6, cond_true, gH]
 rw [show ze (zb (zb 2 1) bytes) 281474976710656 = true from xJ.2 (by show 2 * 1 * bytes ≤ _; omega), show ze 1 esz = true from xJ.2 h1]
 rfl
theorem zst (l : List (Nat × Option AObj)) (n m : Nat) (b : Bool) (t esz bytes id k : Nat) (e : Bool) (old cs : List AV) (hg : getA l id = some (.app t old)) (hl : cs.length = esz) (h1 : 1 ≤ esz) (hb : 2 * (k + 1) * bytes ≤ 281474976710656) (hk : k < 1000000000) (hp : xz old = true) (hp2 : xz cs = true) (hs : wj cs = true) :
  appV (KL l n m b [] none) t esz bytes (.gr id esz k old) (.lst 1 e cs) = some (.gr n esz (k + 1) (old ++ cs), KL ((n, some (.app t (old ++ cs))) :: (id, none) :: l) (n + 1) (m ||| 1 <<< id) b [] none) := by
 have h2 : wA (zb 1 esz) cs = some cs := jF (by rw [hl]; show esz = 1 * esz; omega)
 have h3 : xz (old ++ cs) = true := by rw [vV, hp, hp2]; rfl
 simp only [appV, pT, qI, h2, appW, w8, hg, xF.2, hs, y6, cond_true, gH, h3]
 rw [show ze (zb (zb 2 (zc k 1)) bytes) 281474976710656 = true from xJ.2 hb, show ze 1 esz = true from xJ.2 h1, show zd (zc k 1) 9223372036854775808 = true from xR.2 (by show k + 1 < _; omega)]
 rfl
theorem zr3 (l : List (Nat × Option AObj)) (n m : Nat) (hd : List (Nat × Nat)) (on : Option (Nat × List Nat)) (e len : Nat) (cs : List AV) (hp : xz cs = true) : oBsl (KL l n m true hd on) e len (some cs) = some (.lst len true cs, KL l n m true hd on) := by
 simp only [oBsl, Jd, hp, y6, cond_true]
noncomputable def zvZ (zs : List AV) (off n : Nat) (tm : Trie AV) (r : List (Nat × Nat × Opd)) : Option AV → Option (List AV)
 | some v => bif za (lenN v.cells) n && ze 1 n then (match uR zs off v.cells with
   | some zs' => uJ zs' tm r
   | none => none) else none
 | none => none
theorem zyD (zs : List AV) (tm : Trie AV) : uJ zs tm [] = some zs := rfl
theorem HF (zs : List AV) (tm : Trie AV) (off n : Nat) (x : Opd) (r : List (Nat × Nat × Opd)) : uJ zs tm ((off, n, x) :: r) = zvZ zs off n tm r (x.ev tm) := by
 simp only [uJ, zvZ]; cases x.ev tm <;> rfl
theorem HG (zs : List AV) (off n : Nat) (tm : Trie AV) (r : List (Nat × Nat × Opd)) (v : AV) : zvZ zs off n tm r (some v) = bif za (lenN v.cells) n && ze 1 n then (match uR zs off v.cells with
   | some zs' => uJ zs' tm r
   | none => none) else none := rfl
theorem WZ (hO : OrcOk P w0 O) (hm : P.follows .mixedOrders = true) (hG : xK E.globs w0) (hE : jG P E) {f : Nat} {args : List AV} (h : okV v ((evT E O n).call f args s0) = true) : ∃ s1, SC P w0 f args (s00 0 false) v s1 := by
 obtain ⟨s1, hs⟩ := zu4 h
 have := (We hO.ext hm hG hE hO.ok n).call hs
 exact ⟨s1, this.1, fun φ w xs r hwf hf hx F k hF => this.2 r hwf hf hx F k hF⟩
section
variable {P : Program} {w0 : World} {f : Nat} {α : Type}
theorem SC.args {args args' : List AV} (h : SC P w0 f args' s v s') (hw : ∀ φ xs, VRL φ args xs → VRL φ args' xs) : SC P w0 f args s v s' :=
 ⟨h.1, fun φ w xs r hwf hf hx F n hF => h.2 φ w xs r hwf hf (hw φ xs hx) F n hF⟩
open Classical in
noncomputable def orc0 (enc : α → List AV) (Pre : α → Prop) (F : α → AV) (args : List AV) (s : St) : Option (AV × St) :=
 if h : ∃ x, enc x = wkL args ∧ Pre x then some (F (yU h), s) else none
theorem we {enc : α → List AV} {Pre : α → Prop} {F : α → AV} (inj : ∀ x y, enc x = enc y → x = y) {args : List AV} (s : St) (x : α) (hp : Pre x) (ha : wkL args = enc x) : orc0 enc Pre F args s = some (F x, s) := by
 have h : ∃ x, enc x = wkL args ∧ Pre x := ⟨x, ha.symm, hp⟩
 unfold orc0
 rw [dif_pos h]
 have := yQ h
 rw [inj _ x (this.1.trans ha)]
theorem w9 {enc : α → List AV} {Pre : α → Prop} {F : α → AV} (args : List AV) (s : St) (v : AV) (s' : St) (h : orc0 enc Pre F args s = some (v, s')) : Ext s s' := by
 unfold orc0 at h
 split at h
 ·cases h; exact Ext.refl _
 ·cases h
theorem v5 {enc : α → List AV} {Pre : α → Prop} {F : α → AV} (b : Bool) (hp1 : ∀ x, xz (enc x) = true) (hp2 : ∀ x, xG (F x) = true) (h : ∀ x, Pre x → ∃ s1, SC P w0 f (enc x) (s00 0 b) (F x) s1) : qO P w0 f (orc0 enc Pre F) := by
 intro args s v s' hg
 unfold orc0 at hg
 split at hg
 ·rename_i hx
  cases hg
  obtain ⟨h1, h2⟩ := yQ hx
  obtain ⟨s1, hs⟩ := h _ h2
  refine SC.args (SC.up hs (hp1 _) (hp2 _) s) fun φ xs hv => ?_
  rw [h1]; exact qU hv
 ·cases hg
open Classical in
noncomputable def K4 (enc : α → Nat × List AV × List AV) (Pre : α → Prop) (F : α → AV × List AV) (s : St) (id : Nat) (r : List AV) : Option AObj → Option (AV × St)
 | some (.row e cells false false) => if h : ∃ x, enc x = (e, wkL cells, wkL r) ∧ Pre x then some ((F (yU h)).1, s.put id (.row e (F (yU h)).2 false false)) else none
 | _ => none
noncomputable def orc1 (enc : α → Nat × List AV × List AV) (Pre : α → Prop) (F : α → AV × List AV) (args : List AV) (s : St) : Option (AV × St) :=
 match args with
 | .ptr id 0 :: r => K4 enc Pre F s id r (s.get id)
 | _ => none
theorem jB (enc : α → Nat × List AV × List AV) (Pre : α → Prop) (F : α → AV × List AV) (id : Nat) (r : List AV) (s : St) : orc1 enc Pre F (.ptr id 0 :: r) s = K4 enc Pre F s id r (s.get id) := rfl
theorem kH {enc : α → Nat × List AV × List AV} {Pre : α → Prop} {F : α → AV × List AV} (inj : ∀ x y, enc x = enc y → x = y) (s : St) (id : Nat) {r : List AV} {e : Nat} {cells : List AV} (x : α) (hp : Pre x) (h1 : enc x = (e, wkL cells, wkL r)) :
  K4 enc Pre F s id r (some (.row e cells false false)) = some ((F x).1, s.put id (.row e (F x).2 false false)) := by
 have h : ∃ x, enc x = (e, wkL cells, wkL r) ∧ Pre x := ⟨x, h1, hp⟩
 simp only [K4]
 rw [dif_pos h]
 have := yQ h
 rw [inj _ x (this.1.trans h1.symm)]
theorem K5 {enc : α → Nat × List AV × List AV} {Pre : α → Prop} {F : α → AV × List AV} {args : List AV} (h : orc1 enc Pre F args s = some (v, s')) :
  ∃ id r e cells x, args = .ptr id 0 :: r ∧ s.get id = some (.row e cells false false) ∧ enc x = (e, wkL cells, wkL r) ∧ Pre x ∧ v = (F x).1 ∧ s' = s.put id (.row e (F x).2 false false) := by
 unfold orc1 at h
 split at h
 ·rename_i id r
  unfold K4 at h
  split at h
  ·rename_i e cells hg
   split at h
   ·rename_i hx
    cases h
    obtain ⟨h1, h2⟩ := yQ hx
    exact ⟨id, r, e, cells, _, rfl, hg, h1, h2, rfl, rfl⟩
   ·cases h
  ·cases h
 ·cases h
theorem kI {enc : α → Nat × List AV × List AV} {Pre : α → Prop} {F : α → AV × List AV} (args : List AV) (s : St) (v : AV) (s' : St) (h : orc1 enc Pre F args s = some (v, s')) : Ext s s' := by
 obtain ⟨id, r, e, cells, x, _, hg, _, _, _, rfl⟩ := K5 h
 exact Xl s id _ _ (xI hg) (xZ hg) rfl
theorem Ye {enc : α → Nat × List AV × List AV} {Pre : α → Prop} {F : α → AV × List AV} (b : Bool) (hp : ∀ x, Pre x → xz (enc x).2.1 = true ∧ xz (enc x).2.2 = true ∧ xG (F x).1 = true ∧ xz (F x).2 = true)
  (h : ∀ x, Pre x → SC P w0 f (.ptr 0 0 :: (enc x).2.2) (H [some (.row (enc x).1 (enc x).2.1 false false)] 0 b) (F x).1 (H [some (.row (enc x).1 (F x).2 false false)] 1 b)) : qO P w0 f (orc1 enc Pre F) := by
 intro args s v s' hg
 obtain ⟨id, r, e, cells, x, rfl, hs, he, hx, rfl, rfl⟩ := K5 hg
 obtain ⟨h1, h2, h3, h4⟩ := hp x hx
 have hsc := h x hx
 rw [he] at h1 h2 hsc
 refine SC.args (SC.up1 hsc h2 h1 h4 h3 hs rfl) fun φ xs hv => ?_
 simp only [VRL] at hv ⊢
 obtain ⟨y, ys, rfl, q1, q2⟩ := hv
 exact ⟨y, ys, rfl, q1, qU q2⟩
end
theorem zvu (S : Self) (l : Nat) (vs : List AV) (s : St) : evCv S (some (.yld l)) (some vs) s = S.round l vs s := rfl
theorem Ux (E : Env) (O : Orc) (l : Nat) (a : List AV) (s : St) : (evW E O).round l a s = v6 E (evW E O) l a s := by
 cases h : v6 E (evW E O) l a s with
 | some r => exact zyB h
 | none =>
  cases h2 : (evW E O).round l a s with
  | none => rfl
  | some r =>
   obtain ⟨n, hn⟩ := qB (α := AV × St) h2
   cases n with
   | zero => cases hn
   | succ n =>
    have h3 : v6 E (evT E O n) l a s = some r := hn
    have h4 : LeS (evT E O n) (evW E O) := ⟨fun f a s r h => uj (fun n r h => (v4 E O n).call _ _ _ _ h) h, fun rd b fr s r h => uj (fun n r h => (v4 E O n).loop _ _ _ _ _ h) h, fun l a s r h => uj (fun n r h => (v4 E O n).round _ _ _ _ h) h⟩
    rw [(ZX E l a s).up _ _ h4 r h3] at h; cases h
theorem JX (E : Env) (O : Orc) (rd : Option Nat) (b : ICode) (fr : Fr) (s : St) : (evW E O).loop rd b fr s = evC E (evW E O) rd (.loop b) fr s := by
 cases h : evC E (evW E O) rd (.loop b) fr s with
 | some r => exact zvW h
 | none =>
  cases h2 : (evW E O).loop rd b fr s with
  | none => rfl
  | some r =>
   obtain ⟨n, hn⟩ := qB (α := Res × Fr × St) h2
   cases n with
   | zero => cases hn
   | succ n =>
    have h3 : evC E (evT E O n) rd (.loop b) fr s = some r := hn
    have h4 : LeS (evT E O n) (evW E O) := ⟨fun f a s r h => uj (fun n r h => (v4 E O n).call _ _ _ _ h) h, fun rd b fr s r h => uj (fun n r h => (v4 E O n).loop _ _ _ _ _ h) h, fun l a s r h => uj (fun n r h => (v4 E O n).round _ _ _ _ h) h⟩
    rw [(jj E rd (.loop b) fr s).up _ _ h4 r h3] at h; cases h
theorem JV (E : Env) (O : Orc) (rd : Option Nat) (b : ICode) (fr : Fr) (s : St) : evC E (evW E O) rd (.loop b) fr s = ub (fun f t => evC E (evW E O) rd (.loop b) f t) (evC E (evW E O) rd b fr s) := by
 show ub ((evW E O).loop rd b) _ = _
 congr 1
 funext f t
 exact JX E O rd b f t
noncomputable def rdK2 (E : Env) (S : Self) (l : Nat) (asg body : ICode) (s : St) : Option (Trie AV) → Option (AV × St)
 | some tm => qx E S l body (evC E S (some l) asg { tm := tm, df := [] } s)
 | none => none
noncomputable def rdK1 (E : Env) (S : Self) (l : Nat) (args : List AV) (s : St) : Option AObj → Option (AV × St)
 | some (.loop _ _ tm ps asg body _) => rdK2 E S l asg body s (kN tm ps args)
 | _ => none
theorem zxy (E : Env) (S : Self) (l : Nat) (args : List AV) (s : St) : v6 E S l args s = rdK1 E S l args s (s.get l) := by
 unfold v6 rdK1
 cases s.get l with
 | none => rfl
 | some o => cases o <;> first | rfl | (simp only [rdK2]; split <;> simp_all)
theorem zxo (E : Env) (S : Self) (l : Nat) (args : List AV) (s : St) (st : LSt) (pd : Option Res) (tm : Trie AV) (ps : List Nat) (asg body : ICode) (d : Nat) : rdK1 E S l args s (some (.loop st pd tm ps asg body d)) = rdK2 E S l asg body s (kN tm ps args) := rfl
theorem zxp (E : Env) (S : Self) (l : Nat) (asg body : ICode) (s : St) (tm : Trie AV) : rdK2 E S l asg body s (some tm) = qx E S l body (evC E S (some l) asg { tm := tm, df := [] } s) := rfl
noncomputable def rbK (E : Env) (S : Self) (l : Nat) (bd : ICode) (fr : Fr) (s : St) : Option AObj → Option (AV × St)
 | some (.loop .ready pd tm ps asg body d) => vg l (evC E S (some l) bd fr (s.put l (.loop .busy pd tm ps asg body d)))
 | _ => none
theorem WQ (E : Env) (S : Self) (l : Nat) (bd : ICode) (fr : Fr) (s : St) : qx E S l bd (some (.norm, fr, s)) = rbK E S l bd fr s (s.get l) := by
 unfold qx rbK
 simp only
 cases s.get l with
 | none => rfl
 | some o => cases o <;> first | rfl | (rename_i st _ _ _ _ _ _; cases st <;> rfl)
theorem zxm (E : Env) (S : Self) (l : Nat) (bd : ICode) (fr : Fr) (s : St) (pd : Option Res) (tm : Trie AV) (ps : List Nat) (asg body : ICode) (d : Nat) : rbK E S l bd fr s (some (.loop .ready pd tm ps asg body d)) = vg l (evC E S (some l) bd fr (s.put l (.loop .busy pd tm ps asg body d))) := rfl
noncomputable def reK (l : Nat) (r : Res) (s : St) : Option AObj → Option (AV × St)
 | some (.loop _ _ tm ps asg body d) => match r with
  | .norm => some (.bool true, s.put l (.loop .ready none tm ps asg body d))
  | r => some (.bool false, s.put l (.loop .done (some r) tm ps asg body d))
 | _ => none
theorem QA (l : Nat) (r : Res) (fr : Fr) (s : St) : vg l (some (r, fr, s)) = reK l r s (s.get l) := by
 unfold vg reK
 simp only
 cases s.get l with
 | none => rfl
 | some o => cases o <;> first | rfl | (cases r <;> rfl)
theorem ztp (l : Nat) (s : St) (st : LSt) (pd : Option Res) (tm : Trie AV) (ps : List Nat) (asg body : ICode) (d : Nat) : reK l .norm s (some (.loop st pd tm ps asg body d)) = some (.bool true, s.put l (.loop .ready none tm ps asg body d)) := rfl
theorem zpK (E : Env) (S : Self) (rd : Option Nat) (g : Opd) (ps : List Nat) (asg body : ICode) (fr : Fr) (s : St) : evC E S rd (.rf g ps asg body) fr s = rfR S rd (g.ev fr.tm) ps asg body fr s := rfl
theorem zog (S : Self) (f : Nat) (a c : List AV) (ps : List Nat) (asg body : ICode) (tm : Trie AV) (df : List Nat) (s : St) : rfR S none (some (.fn f a c)) ps asg body ⟨tm, df⟩ s = gN ⟨tm, df⟩ (s.next + 1) s.next (S.call f (a ++ .yld (s.next + 1) :: c) ((s.alloc .dfd).alloc (.loop .ready none tm ps asg body s.next))) := rfl
noncomputable def feK (fr : Fr) (l d : Nat) (s : St) : Option AObj → Option (Res × Fr × St)
 | some (.loop st pend tm ps asg body dd) => match st with
  | .busy => none
  | _ => some (Ga pend, { fr with df := d :: fr.df }, s.put l (.loop .exhausted pend tm ps asg body dd))
 | _ => none
theorem Lj (fr : Fr) (l d : Nat) (v : AV) (s : St) : gN fr l d (some (v, s)) = feK fr l d s (s.get l) := by
 unfold gN feK
 simp only
 cases s.get l with
 | none => rfl
 | some o => cases o <;> rfl
theorem zyC (tm0 : Trie AV) (df : List Nat) (l d : Nat) (s : St) (pend : Option Res) (tm : Trie AV) (ps : List Nat) (asg body : ICode) (dd : Nat) : feK ⟨tm0, df⟩ l d s (some (.loop .ready pend tm ps asg body dd)) = some (Ga pend, ⟨tm0, d :: df⟩, s.put l (.loop .exhausted pend tm ps asg body dd)) := rfl
theorem H9 : Ga none = .norm := rfl
theorem zrB (n0 f : Nat) (a c : List AV) : frzA n0 (.fn f a c) = bif xG (.fn f a c) then some (.fn f a c) else none := rfl
def qw {α : Type} (f : α → List AV) : List α → List AV
 | [] => []
 | x :: r => f x ++ qw f r
section
variable {α : Type} {f : α → List AV} {k : Nat}
theorem qZ : ∀ l m : List α, qw f (l ++ m) = qw f l ++ qw f m
 | [], _ => rfl
 | x :: r, m => by simp only [y8, qw, qZ r m, List.append_assoc]
theorem lH (x : α) : qw f [x] = f x := by simp only [qw, List.append_nil]
theorem gf (h : ∀ x, (f x).length = k) : ∀ (i : Nat) (l : List α), wK (i * k) (qw f l) = qw f (l.drop i)
 | 0, l => by rw [qQ]; simp
 | i + 1, [] => by rw [qQ]; simp [qw]
 | i + 1, x :: r => by
  rw [qQ]
  simp only [qw, xg]
  rw [← gf h i r, qQ, Nat.succ_mul, Nat.add_comm, ← List.drop_drop]
  congr 1
  rw [← h x]; simp
theorem VZ {a b : List AV} (h : a.length = n) : wA n (a ++ b) = some a := by
 subst h
 induction a with
 | nil => rfl
 | cons v r ih => simp only [y8, yY, wA, ih]
theorem ur (h : ∀ x, xz (f x) = true) : ∀ l : List α, xz (qw f l) = true
 | [] => rfl
 | x :: r => by simp only [qw, vV, h, ur h r, y6]
theorem Zm (h : ∀ x, wkL (f x) = f x) : ∀ l : List α, wkL (qw f l) = qw f l
 | [] => rfl
 | x :: r => by
  have ap : ∀ a b : List AV, wkL (a ++ b) = wkL a ++ wkL b := fun a b => by
   induction a with
   | nil => rfl
   | cons v a ih => simp only [y8, wkL, ih]
  simp only [qw, ap, h, Zm h r]
theorem Vh (hk : ∀ x, (f x).length = k) (h0 : 0 < k) (h : ∀ x y, f x = f y → x = y) : ∀ {l m : List α}, qw f l = qw f m → l = m
 | [], [], _ => rfl
 | [], y :: m, e => by
  have := congrArg yB e; simp only [qw, yX, ye, hk] at this; omega
 | x :: l, [], e => by
  have := congrArg yB e; simp only [qw, yX, ye, hk] at this; omega
 | x :: l, y :: m, e => by
  simp only [qw] at e
  obtain ⟨h1, h2⟩ := List.append_inj e (by rw [hk, hk])
  rw [h x y h1, Vh hk h0 h h2]
end
inductive DT where
 | mk (k n : Int) (t : List Nat) (ks : List DT) (p : Int)
variable {d : DT}
mutual
def xT : DT → List AV
 | .mk k n t ks p => [.int .i64 k, .int .i64 n, .str t, .lst ks.length false (xv ks), .int .i64 p]
def xv : List DT → List AV
 | [] => []
 | d :: r => xT d ++ xv r
end
def encD (d : DT) : AV := .agg (xT d)
theorem xq (k n : Int) (t : List Nat) (ks : List DT) (p : Int) : xT (.mk k n t ks p) = [.int .i64 k, .int .i64 n, .str t, .lst ks.length false (xv ks), .int .i64 p] := by simp only [xT]
theorem xO : xv [] = [] := by simp only [xv]
theorem xM (d : DT) (r : List DT) : xv (d :: r) = xT d ++ xv r := by simp only [xv]
theorem uI : ∀ l : List DT, xv l = qw xT l
 | [] => by simp only [xv, qw]
 | d :: r => by simp only [xv, qw, uI r]
theorem vH : ∀ d : DT, (xT d).length = 5
 | .mk _ _ _ _ _ => by simp only [xT, yY, yX]
theorem wB : ∀ d : DT, xz (xT d) = true
 | .mk _ _ _ _ _ => by simp only [xT, xw, xD, wc, qc, wi, y6]
theorem xN (l : List DT) : xz (xv l) = true := by rw [uI]; exact ur wB l
theorem Jy : ∀ d : DT, wj (xT d) = true
 | .mk _ _ _ _ _ => by simp only [xT, wj, scal, cond_true]
mutual
theorem vS : ∀ d : DT, wkL (xT d) = xT d
 | .mk k n t ks p => by simp only [xT, wkL, wkV, w4 ks]
theorem w4 : ∀ l : List DT, wkL (xv l) = xv l
 | [] => by simp only [xv, wkL]
 | d :: r => by
  have ap : ∀ a b : List AV, wkL (a ++ b) = wkL a ++ wkL b := fun a b => by
   induction a with
   | nil => rfl
   | cons v a ih => simp only [y8, wkL, ih]
  simp only [xv, ap, vS d, w4 r]
end
mutual
theorem pm : ∀ {d e : DT}, xT d = xT e → d = e
 | .mk k n t ks p, .mk k' n' t' ks' p', h => by
  simp only [xT, yZ, AV.int.injEq, AV.str.injEq, AV.lst.injEq, true_and, and_true] at h
  obtain ⟨rfl, rfl, rfl, ⟨_, h1⟩, rfl⟩ := h
  rw [uq h1]
theorem uq : ∀ {l m : List DT}, xv l = xv m → l = m
 | [], [], _ => rfl
 | [], d :: m, h => by
  have := congrArg yB h; simp only [xv, yX, ye, vH] at this; omega
 | d :: l, [], h => by
  have := congrArg yB h; simp only [xv, yX, ye, vH] at this; omega
 | d :: l, e :: m, h => by
  simp only [xv] at h
  obtain ⟨h1, h2⟩ := List.append_inj h (by rw [vH, vH])
  rw [pm h1, uq h2]
end
theorem qV (i : Nat) (l : List DT) : wK (i * 5) (xv l) = xv (l.drop i) := by rw [uI, uI]; exact gf vH i l
theorem vu (l m : List DT) : xv (l ++ m) = xv l ++ xv m := by simp only [uI]; exact qZ l m
theorem kD {e : DT} (h : encD d = encD e) : d = e := pm (by simpa [encD] using h)
structure Tok where
 kind : Nat
 pos : Nat
 d : DT
def qz (t : Tok) : List AV := .int .i64 (.ofNat t.kind) :: .int .i64 (.ofNat t.pos) :: xT t.d
def qt (l : List Tok) : List AV := qw qz l
theorem pp (t : Tok) : (qz t).length = 7 := by simp only [qz, yY, vH]
theorem u7 (t : Tok) : xz (qz t) = true := by simp only [qz, xw, wc, wB, y6]
theorem zzK (t : Tok) : wkL (qz t) = qz t := by simp only [qz, wkL, wkV, vS]
theorem G4 {t u : Tok} (h : qz t = qz u) : t = u := by
 obtain ⟨k, p, d⟩ := t
 obtain ⟨k', p', d'⟩ := u
 simp only [qz, yZ, AV.int.injEq, true_and] at h
 obtain ⟨h1, h2, h3⟩ := h
 cases h1; cases h2; rw [pm h3]
theorem vT (l : List Tok) : xz (qt l) = true := ur u7 l
theorem jI (l : List Tok) : wkL (qt l) = qt l := Zm zzK l
theorem wR (i : Nat) (l : List Tok) : wK (i * 7) (qt l) = qt (l.drop i) := gf pp i l
theorem XR (l m : List Tok) : qt (l ++ m) = qt l ++ qt m := qZ l m
theorem JA {l m : List Tok} (h : qt l = qt m) : l = m := Vh pp (by omega) (fun _ _ h => G4 h) h
theorem wy (t : Tok) (l : List Tok) : qt (t :: l) = qz t ++ qt l := rfl
theorem gU : qt [] = [] := rfl
attribute [go_sem] ZK zoa J5 uA zyj Hv Hu H_eq zsq zoK Jd w8 LS zwq zwp GY zrz zvU zqv zqu zq1 zq0 zq2 zrG zrF ztS Gu Gt Gr U3 zxG Lm GX ztt zsV zvv zxd zxc zvk zqt zqs zuj zui UG Qv G9 JC UV K1 UU zt4 zxZ zt1 zxV zt6 Lv ztZ zt0 zt2 zx0 zx1 zx2 zt3 zxX zt5 zxY zxW zx3 Lu ztW zxR zxS ztU zqx ztV zqw zru zyz HD zvB HE zvC zrs zvL zrx zvO zvA zvI zry zrn zvG zvH zvF zvD zvE zvN zvQ zvR zrq zrr zvJ zvK zrw zrv zrp zvM zvz zrt zvS zvT zvP zyy zro H2 Lr Lq zxT zsG zsF Jp GZ Jo zvt zsR zvs zsT zvq zyr zvr zsS zuQ zxh zxg zxf Jv Uk zqj zxw H5 H6 H7 Ha zyV ztz zof zqk QC Qf zy0 znm znl zsW zvw zyw zyx Ln zxx v1_k v2_k zrM zrN o1_k o2_k vL_k zny znz znA zsw zsx zrQ zuw zrO zrP zys zsU zqV zqU zqT zqN zoA zsf zr2 zy7 zzL zzM zzP G5 zzN zzO zwX zse zwa zsd zqR zqS zqW zt8 zt9 zwD zwJ zwH zwG zwF zwE zsP UN zuF addI mulI subI zwC zwK zwI LO LN jZ uQ zqL zwL zwM Jm HM zqM zzs zsh zqO ztl zsa G0 zsb ztD zzU HL zqP zoB zsc zqQ zxl zqr zr7 zpi zoY zoX zx5 zv8 zua zyI zv9 zyH zrA zrC zv6 G1 Jt ja zrY H4 zx7 lenN wA wK uR over zyD HF HG wj scal hid memN cond_true cond_false xf xd Bool.true_and xc xe Bool.and_false Bool.true_or Bool.false_or Bool.or_true Bool.or_false beq_true Bool.not_not beq_self_eq_true decide_true decide_false Nat.add_zero Nat.zero_add y7 Nat.one_mul Nat.zero_mul Nat.mul_zero Nat.sub_zero Nat.succ_eq_add_one zq Nat.lt_irrefl Nat.zero_le gt_iff_lt ge_iff_le ne_eq not_false_eq_true not_true_eq_false eq_self List.nil_append y8 yY yX GE and_self and_true true_and zy gcF gcTm gcDf gcB gcB1 gcK ztx zqi zqh zqg zoe zod ztu zxs zrL zv1 renO rho Vs Yp vP wc qc WL pP wi lm vU wE zxj ztm xD xw wx wkO zyG List.append_nil vV zp5 ztv zxu zty zxv ztw zv3 zv5 zyF zv4 zv7 wkV wkL vW zxL U5 QU Ul QK zst zr3 zsK zsJ zuo Nat.add_sub_cancel_left yZ xb List.take_zero false_and and_false zvu Ux zxy zxo zxp WQ zxm QA ztp zpK zog Lj zyC H9 zrB
def sxP := yT (yT (yT (yT (yT @vP @wc) (yT @qc @WL)) (yT (yT @La @zxk) (yT @pP @Ld))) (yT (yT (yT @Lb @Lc) (yT @wi @ztn)) (yT (yT @zxi @lm) (yT @vU @wE)))) (yT (yT (yT (yT @xD @xw) (yT @wx @vV)) (yT (yT @QG @QH) (yT @Gn @Gq))) (yT (yT (yT @zxC @Gp) (yT @zqn @zxD)) (yT (yT @ztK @ztJ) (yT @uA @J5))))
theorem dis {p : Prop} (h : p := by first | assumption | omega | rfl | (simp only [sxP, Bool.and_self, List.length_cons, List.length_nil, List.length_take, List.length_drop, ↓reduceIte, Nat.reduceEqDiff]; first | done | omega) | exact Nat.le_of_ble_eq_true rfl | ((repeat (first | assumption | apply Byt.drop | apply Byt.take)); done) | fail) : p := h
attribute [go_sem] Ko Kg Kn Kd Ke Kf Ki Kj Kv Kw KF KT Km Kr Ku Kq Kc
open Go.RowKit (Below)
section
variable {φ φ1 : Phi} {ρ : Nat → Option Nat}
mutual
theorem VT (h : RenOk φ φ1 ρ) : ∀ {v v1 : AV} {x : Value}, renV ρ v = some v1 → VR φ1 v1 x → VR φ v x
 | .ptr id off, v1, x, hr, hv => by
  simp only [renV] at hr
  split at hr
  ·rename_i j hj; cases hr; simp only [VR] at hv ⊢; rw [← h.m id j hj]; exact hv
  ·cases hr
 | .sl id off len c, v1, x, hr, hv => by
  simp only [renV] at hr
  split at hr
  ·rename_i j hj; cases hr; simp only [VR] at hv ⊢; rw [← h.m id j hj]; exact hv
  ·cases hr
 | .map id, v1, x, hr, hv => by
  simp only [renV] at hr
  split at hr
  ·rename_i j hj; cases hr; simp only [VR] at hv ⊢; rw [← h.m id j hj]; exact hv
  ·cases hr
 | .yld id, v1, x, hr, hv => by
  simp only [renV] at hr
  split at hr
  ·rename_i j hj; cases hr; simp only [VR] at hv ⊢; rw [← h.m id j hj]; exact hv
  ·cases hr
 | .gr id e n cs, v1, x, hr, hv => by
  simp only [renV] at hr
  split at hr
  ·rename_i j hj
   cases hr; simp only [VR] at hv ⊢; rw [← h.m id j hj]
   obtain ⟨h1, h2, h3, h4, B, ys, h5, h6, h7, h8, h9⟩ := hv
   exact ⟨h1, h2, h3, h4, B, ys, h5, h6, h7, h8.mono (fun _ _ _ t => by rw [← h.z]; exact t), VRL.pure (fun _ _ _ t => by rw [← h.z]; exact t) _ _ h1 h9⟩
  ·cases hr
 | .fn f a c, v1, x, hr, hv => by
  simp only [renV] at hr
  split at hr
  ·rename_i a' c' ha hc
   cases hr; simp only [VR] at hv ⊢
   obtain ⟨xs, ys, e, h1, h2⟩ := hv
   exact ⟨xs, ys, e, jD h ha h1, jD h hc h2⟩
  ·cases hr
 | .ifc t v, v1, x, hr, hv => by
  simp only [renV] at hr
  split at hr
  ·rename_i v' hv'
   cases hr; simp only [VR] at hv ⊢
   obtain ⟨y, e, h1⟩ := hv
   exact ⟨y, e, VT h hv' h1⟩
  ·cases hr
 | .agg cs, v1, x, hr, hv => by
  simp only [renV] at hr
  split at hr
  ·rename_i c' hc
   cases hr; simp only [VR] at hv ⊢
   obtain ⟨xs, e, h1⟩ := hv
   exact ⟨xs, e, jD h hc h1⟩
  ·cases hr
 | .tup cs, v1, x, hr, hv => by
  simp only [renV] at hr
  split at hr
  ·rename_i c' hc
   cases hr; simp only [VR] at hv ⊢
   obtain ⟨xs, e, h1⟩ := hv
   exact ⟨xs, e, jD h hc h1⟩
  ·cases hr
 | .bool _, v1, x, hr, hv => by simp only [renV, zy] at hr; subst hr; simpa [VR] using hv
 | .int _ _, v1, x, hr, hv => by simp only [renV, zy] at hr; subst hr; simpa [VR] using hv
 | .str _, v1, x, hr, hv => by simp only [renV, zy] at hr; subst hr; simpa [VR] using hv
 | .nilp, v1, x, hr, hv => by simp only [renV, zy] at hr; subst hr; simpa [VR] using hv
 | .gptr _ _, v1, x, hr, hv => by simp only [renV, zy] at hr; subst hr; simpa [VR] using hv
 | .sl0, v1, x, hr, hv => by simp only [renV, zy] at hr; subst hr; simpa [VR] using hv
 | .nils, v1, x, hr, hv => by simp only [renV, zy] at hr; subst hr; simpa [VR] using hv
 | .nilm, v1, x, hr, hv => by simp only [renV, zy] at hr; subst hr; simpa [VR] using hv
 | .nilf, v1, x, hr, hv => by simp only [renV, zy] at hr; subst hr; simpa [VR] using hv
 | .nili, v1, x, hr, hv => by simp only [renV, zy] at hr; subst hr; simpa [VR] using hv
 | .lst n ex cs, v1, x, hr, hv => by
  simp only [renV, zy] at hr; subst hr
  exact VR.pure (fun _ _ _ t => by rw [← h.z]; exact t) _ _ rfl hv
 | .vp cs, v1, x, hr, hv => by
  simp only [renV, zy] at hr; subst hr
  exact VR.pure (fun _ _ _ t => by rw [← h.z]; exact t) _ _ rfl hv
theorem jD (h : RenOk φ φ1 ρ) : ∀ {l l1 : List AV} {xs : List Value}, renC ρ (xz l) l = some l1 → VRL φ1 l1 xs → VRL φ l xs := fun {l l1 xs} hr hv => by
  unfold renC at hr
  cases hp : xz l with
  | true =>
   rw [hp] at hr; simp only [cond_true, zy] at hr; subst hr
   exact VRL.pure (fun _ _ _ t => by rw [← h.z]; exact t) _ _ hp hv
  | false => rw [hp] at hr; simp only [cond_false] at hr; exact Yt h hr hv
theorem Yt (h : RenOk φ φ1 ρ) : ∀ {l l1 : List AV} {xs : List Value}, renL ρ l = some l1 → VRL φ1 l1 xs → VRL φ l xs
 | [], l1, xs, hr, hv => by simp only [renL, zy] at hr; subst hr; simpa [VRL] using hv
 | v :: r, l1, xs, hr, hv => by
  simp only [renL] at hr
  split at hr
  ·rename_i v' r' h1 h2
   cases hr
   simp only [VRL] at hv
   obtain ⟨y, ys, rfl, h3, h4⟩ := hv
   exact VRL.cons (VT h h1 h3) (Yt h h2 h4)
  ·cases hr
end
theorem Gh {ρ : Nat → Option Nat} {o1 : AObj} (h : renO ρ o = some o1) : Vt o1 = Vt o ∧ (∀ B z, SepOf o1 B z → SepOf o B z) := by
 cases o <;> simp only [renO] at h
 case row e cells x fz =>
  split at h
  ·cases h; exact ⟨rfl, fun _ _ t => t⟩
  ·cases h
 case map es clock =>
  cases hp : Y6 es <;> rw [hp] at h <;> simp at h
  subst h; exact ⟨rfl, fun _ _ t => t⟩
 case siter => cases h; exact ⟨rfl, fun _ _ t => t⟩
 case miter m since seen stepped =>
  cases m with
  | none => cases h; exact ⟨rfl, fun _ _ t => t⟩
  | some id =>
   simp only at h
   split at h
   ·cases h; exact ⟨rfl, fun _ _ t => t⟩
   ·cases h
 case loop => cases h
 case dfd => cases h; exact ⟨rfl, fun _ _ t => t⟩
 case dfd0 => cases h; exact ⟨rfl, fun _ _ t => t⟩
 case giv cells =>
  split at h
  ·cases h; exact ⟨rfl, fun _ _ t => t⟩
  ·cases h
 case app e cells =>
  cases hp : xz cells <;> rw [hp] at h <;> simp at h
  subst h; exact ⟨rfl, fun _ _ t => t⟩
theorem zxt (h : RenOk φ φ1 ρ) {o1 : AObj} {B : Blk} (hr : renO ρ o = some o1) (t : ObjRel P φ1 w o1 B) : ObjRel P φ w o B := by
 have hz : ∀ b o v, φ1.z b o = some v → φ.z b o = some v := fun _ _ _ t => by rw [← h.z]; exact t
 cases o <;> simp only [renO] at hr
 case row e cells x fz =>
  split at hr
  ·rename_i cs hc
   cases hr
   have hl := ZA hc
   simp only [ObjRel] at t ⊢
   obtain ⟨c, fr, h1, h2, h3, h4, h5, h6⟩ := t
   rw [hl] at h3 h4 h5
   exact ⟨c, fr, h1, h2, h3, h4, jD h hc h5, h6⟩
  ·cases hr
 case map es clock =>
  cases hp : Y6 es <;> rw [hp] at hr <;> simp at hr
  subst hr
  obtain ⟨ents, h1, h2⟩ := t
  exact ⟨ents, h1, h2.pure hz hp⟩
 case siter => cases hr; exact t
 case miter m since seen stepped =>
  cases m with
  | none => cases hr; exact t
  | some id =>
   simp only at hr
   split at hr
   ·rename_i j hj
    cases hr
    simp only [ObjRel] at t ⊢
    obtain ⟨h0, m', h1, B', hB, e⟩ := t
    exact ⟨h0, m', h1, B', (h.m id j hj).symm.trans hB, e⟩
   ·cases hr
 case loop => cases hr
 case dfd => cases hr; exact t
 case dfd0 => cases hr; exact t
 case giv cells =>
  split at hr
  ·rename_i cs hc
   cases hr
   have hl := ZA hc
   simp only [ObjRel] at t ⊢
   obtain ⟨c, e, fr, h1, h2, h3⟩ := t
   rw [hl] at h2 h3
   exact ⟨c, e, fr, h1, h2, jD h hc h3⟩
  ·cases hr
 case app e cells =>
  cases hp : xz cells <;> rw [hp] at hr <;> simp at hr
  subst hr
  obtain ⟨c, fr, h1, h2, h3, h4, h5⟩ := t
  exact ⟨c, fr, h1, h2, h3, VRL.pure hz _ _ hp h4, h5⟩
end
def iot (ids : List Nat) (i : Nat) : Option Nat := ids[i]?
def iot' (ids : List Nat) (n k : Nat) (i : Nat) : Option Nat := if i < ids.length then ids[i]? else if i < k then some (n + (i - ids.length)) else none
structure Emb (s s' : St) (ids : List Nat) (os : List (Option AObj)) (M : Nat) : Prop where
 ext : Ext s s'
 len : ids.length ≤ os.length
 next : s'.next = s.next + (os.length - ids.length)
 old : ∀ id, id < s.next → (∀ i, ids[i]? = some id → M.testBit i = false) → ∀ o, s'.get id = some o ↔ s.get id = some o
 own : ∀ i id, ids[i]? = some id → M.testBit i = true → ∀ o1, s'.get id = some o1 → ∃ o, getO os i = some o ∧ renO (iot' ids s.next os.length) o = some o1
 new : ∀ j, ids.length ≤ j → j < os.length → ∀ o1, s'.get (s.next + (j - ids.length)) = some o1 → ∃ o, getO os j = some o ∧ renO (iot' ids s.next os.length) o = some o1
 bit : ∀ i id, ids[i]? = some id → M.testBit i = true → s'.wm.testBit id = true
theorem SC.emb {f : Nat} {args args' : List AV} {v' : AV} {os os' : List (Option AObj)} {b b' : Bool} {M : Nat} {ids : List Nat} (h : SC P w0 f args (H os 0 b) v (H os' M b'))
  (hl : ids.length = os.length) (hnd : ids.Nodup) (hos : ∀ i id, ids[i]? = some id → ∃ o o1, getO os i = some o ∧ renO (iot ids) o = some o1 ∧ s.get id = some o1)
  (ha : renL (iot ids) args = some args') (hv : renV (iot' ids s.next os'.length) v = some v') (he : Emb s s' ids os' M) : SC P w0 f args' s v' s' := by
 refine ⟨h.1, fun φ w xs rl hwf hf hx F k hF => ?_⟩
 obtain ⟨φc, hφc⟩ : ∃ φc : Phi, φc = ⟨fun i => match ids[i]? with | some k => φ k | none => none, φ.z⟩ := ⟨_, rfl⟩
 have pc : ∀ i id, ids[i]? = some id → φc i = φ id := fun i id hi => by rw [hφc]; show (match ids[i]? with | some k => φ k | none => none) = _; rw [hi]
 have pn : ∀ i, ids[i]? = none → φc i = none := fun i hi => by rw [hφc]; show (match ids[i]? with | some k => φ k | none => none) = _; rw [hi]
 have pz : φc.z = φ.z := by rw [hφc]
 have hren : RenOk φc φ (iot ids) := ⟨fun i id hi => (pc i id hi).symm, pz.symm⟩
 have idlt : ∀ i id, ids[i]? = some id → id < s.next := fun i id hi => by
  obtain ⟨o, o1, _, _, hg⟩ := hos i id hi
  exact hwf.lt id o1 (xI hg)
 have src0 : ∀ i o, (H os 0 b).get i = some o → ∃ id o1, ids[i]? = some id ∧ renO (iot ids) o = some o1 ∧ s.get id = some o1 := fun i o ho => by
  rw [Xx] at ho
  have hlt := Zp ho
  have hi : ids[i]? = some (ids[i]'(by omega)) := ym (by omega)
  obtain ⟨o', o1, q1, q2, q3⟩ := hos i _ hi
  rw [ho] at q1; cases q1
  exact ⟨_, o1, hi, q2, q3⟩
 have r0 : Rel P w0 φc (H os 0 b).get w := by
  refine ⟨rl.base, fun i o ho => ?_, fun i B hB => ?_, fun i o B ho hB hlt => ?_, fun i j o o' B1 B2 h1 h2 q1 q2 q3 => ?_, fun b' i u hu => ?_, fun i o B ho hB => ?_⟩
  ·obtain ⟨id, o1, h1, h2, h3⟩ := src0 i o ho
   obtain ⟨B, hB, t⟩ := rl.obj id o1 h3
   exact ⟨B, (pc i id h1).trans hB, zxt hren h2 t⟩
  ·cases hi : ids[i]? with
   | none => rw [pn i hi] at hB; cases hB
   | some id => rw [pc i id hi] at hB; exact rl.rng id B hB
  ·obtain ⟨id, o1, h1, h2, h3⟩ := src0 i o ho
   rw [← (uW h2).1]; exact rl.old id o1 B h3 (by rw [← pc i id h1]; exact hB) hlt
  ·obtain ⟨id, o1, g1, _, g3⟩ := src0 i o h1
   obtain ⟨id', o1', g1', _, g3'⟩ := src0 j o' h2
   rcases rl.inj id id' o1 o1' B1 B2 g3 g3' (by rw [← pc i id g1]; exact q1) (by rw [← pc j id' g1']; exact q2) q3 with e | e
   ·subst e; exact .inl (Yn hnd g1 g1')
   ·exact .inr e
  ·rw [pz] at hu; exact rl.frz b' i u hu
  ·obtain ⟨id, o1, h1, h2, h3⟩ := src0 i o ho
   rw [pz]; exact (Gh h2).2 B _ (rl.sep id o1 B h3 (by rw [← pc i id h1]; exact hB))
 have hf0 : ∀ i, os.length ≤ i → φc i = none := fun i hi => pn i (List.getElem?_eq_none (by omega))
 have hcall := h.2 φc w xs r0 (H_wf _ _ _) (fun i hi => hf0 i hi) (Yt hren ha hx) F k hF
 refine CallsIn.mono hcall ?_
 rintro e1 w1 ⟨φ1, x, rfl, k1, k2⟩
 obtain ⟨φ', hφ'⟩ : ∃ φ' : Phi, φ' = ⟨fun id => if id < s.next then φ id else if id < s'.next then φ1 (ids.length + (id - s.next)) else none, φ1.z⟩ := ⟨_, rfl⟩
 have d1 : ∀ id, id < s.next → φ' id = φ id := fun id hid => by rw [hφ']; exact if_pos hid
 have d2 : ∀ id, s.next ≤ id → id < s'.next → φ' id = φ1 (ids.length + (id - s.next)) := fun id h1 h2 => by rw [hφ']; show (if id < s.next then φ id else _) = _; rw [if_neg (by omega), if_pos h2]
 have d3 : ∀ id, s'.next ≤ id → φ' id = none := fun id h1 => by
  have := he.next
  rw [hφ']; show (if id < s.next then φ id else _) = _; rw [if_neg (by omega), if_neg (by omega)]
 have dz : φ'.z = φ1.z := by rw [hφ']
 have sm : ∀ i id, ids[i]? = some id → φ1 i = φ id := fun i id hi => by
  have hlt : i < os.length := by
   have := (List.getElem?_eq_some_iff.1 hi).1; omega
  exact (k1.same i (.inl hlt)).trans (pc i id hi)
 have hn := he.next
 have hln := he.len
 have ren1 : RenOk φ1 φ' (iot' ids s.next os'.length) := ⟨fun i id hi => by
  unfold iot' at hi
  by_cases h1 : i < ids.length
  ·rw [if_pos h1] at hi
   rw [d1 id (idlt i id hi), sm i id hi]
  ·rw [if_neg h1] at hi
   by_cases h2 : i < os'.length
   ·rw [if_pos h2] at hi; cases hi
    rw [d2 _ (by omega) (by omega)]
    congr 1; omega
   ·rw [if_neg h2] at hi; exact absurd hi (by simp), dz⟩
 have hfrm : ∀ b', b' < w.heap.size → (∀ i id B, ids[i]? = some id → M.testBit i = true → φ id = some B → B.b ≠ b') → w1.heap[b']? = w.heap[b']? := fun b' hb' hq => k1.frame b' hb' fun i o B ho hB hbe => by
  obtain ⟨id, o1, g1, _, _⟩ := src0 i o ho
  cases hM : M.testBit i with
  | false => exact hM
  | true => exact absurd hbe (hq i id B g1 hM (by rw [← pc i id g1]; exact hB))
 have hz : ∀ b' i u, φ1.z b' i = some u → φ.z b' i = some u ∨ w.heap.size ≤ b' ∨ ∃ j id o B, ids[j]? = some id ∧ s.get id = some o ∧ φ id = some B ∧ B.b = b' ∧ M.testBit j = true := fun b' i u hu => by
  rcases k1.zown b' i u hu with h1 | h1 | ⟨j, o0, B0, q1, q2, q3, q4⟩
  ·rw [pz] at h1; exact .inl h1
  ·exact .inr (.inl h1)
  ·obtain ⟨id, o1, g1, _, g3⟩ := src0 j o0 q1
   exact .inr (.inr ⟨j, id, o1, B0, g1, g3, by rw [← pc j id g1]; exact q2, q3, q4⟩)
 have hzs : ∀ b' i u, φ.z b' i = some u → φ1.z b' i = some u := fun b' i u hu => k1.zsub b' i u (by rw [pz]; exact hu)
 have apart : ∀ id o B, s.get id = some o → φ id = some B → (∀ i, ids[i]? = some id → M.testBit i = false) → ∀ i id' B', ids[i]? = some id' → M.testBit i = true → φ id' = some B' → B'.b ≠ B.b := fun id o B hg hB hq i id' B' hi hM hB' heq => by
  obtain ⟨o', o1, g1, g2, g3⟩ := hos i id' hi
  rcases rl.inj id' id o1 o B' B g3 hg hB' hB heq with e | e
  ·subst e; rw [hq i hi] at hM; cases hM
  ·have hgv := rl.old id' o1 B' g3 hB' e
   rw [(uW g2).1] at hgv
   have h9 := k1.ext.giv i o' (by show i < os.length; exact Zp g1) (by rw [ph]; exact g1) hgv hM
   have : (0 : Nat).testBit i = true := h9
   simp at this
 have hsub : Sub φ φ' := ⟨fun id B hB => by
  have hlt : id < s.next := by
   apply Nat.lt_of_not_le; intro hle; rw [hf id hle] at hB; cases hB
  rw [d1 id hlt]; exact hB, fun b' i u hu => by rw [dz]; exact hzs b' i u hu⟩
 have hwf' := he.ext.wf hwf
 have src : ∀ id o, s'.get id = some o → (id < s.next ∧ s.get id = some o ∧ (∀ i, ids[i]? = some id → M.testBit i = false)) ∨ (∃ j o0, getO os' j = some o0 ∧ renO (iot' ids s.next os'.length) o0 = some o ∧ φ' id = φ1 j ∧ ((id < s.next ∧ ids[j]? = some id ∧ M.testBit j = true) ∨ (s.next ≤ id ∧ ids.length ≤ j ∧ id = s.next + (j - ids.length)))) := fun id o ho => by
  by_cases hid : id < s.next
  ·by_cases hex : ∃ i, ids[i]? = some id ∧ M.testBit i = true
   ·obtain ⟨i, h1, h2⟩ := hex
    obtain ⟨o0, g1, g2⟩ := he.own i id h1 h2 o ho
    exact .inr ⟨i, o0, g1, g2, by rw [d1 id hid, sm i id h1], .inl ⟨hid, h1, h2⟩⟩
   ·have hq : ∀ i, ids[i]? = some id → M.testBit i = false := fun i hi => by
     cases hM : M.testBit i with
     | false => rfl
     | true => exact absurd ⟨i, hi, hM⟩ hex
    exact .inl ⟨hid, (he.old id hid hq o).1 ho, hq⟩
  ·have hlt := hwf'.lt id o (xI ho)
   have e1 : id = s.next + ((ids.length + (id - s.next)) - ids.length) := by omega
   obtain ⟨o0, g1, g2⟩ := he.new (ids.length + (id - s.next)) (by omega) (by omega) o (by rw [← e1]; exact ho)
   exact .inr ⟨_, o0, g1, g2, d2 id (by omega) hlt, .inr ⟨by omega, by omega, e1⟩⟩
 have zsame : ∀ id o B, s.get id = some o → φ id = some B → (∀ i, ids[i]? = some id → M.testBit i = false) → ∀ i, φ'.z B.b i = φ.z B.b i := fun id o B hg hB hq i => by
  rw [dz]
  cases h1 : φ1.z B.b i with
  | none =>
   cases h2 : φ.z B.b i with
   | none => rfl
   | some u => rw [hzs _ _ _ h2] at h1; cases h1
  | some u =>
   rcases hz _ _ _ h1 with h2 | h2 | ⟨j, id', o', B', g1, g2, g3, g4, g5⟩
   ·exact h2.symm
   ·have := rl.rng id B hB; omega
   ·exact absurd g4 (apart id o B hg hB hq j id' B' g1 g5 g3)
 have gc' : ∀ j o0, getO os' j = some o0 → (H os' M b').get j = some o0 := fun j o0 hj => by rw [Xx]; exact hj
 have mix : ∀ i (oi : AObj) Bi j (oj : AObj) Bj c, (i < s.next ∧ s.get i = some oi ∧ ∀ k, ids[k]? = some i → M.testBit k = false) → φ' i = some Bi → φ' j = φ1 c → ((j < s.next ∧ ids[c]? = some j ∧ M.testBit c = true) ∨ (s.next ≤ j ∧ ids.length ≤ c ∧ j = s.next + (c - ids.length))) → φ' j = some Bj → Bi.b = Bj.b → False := by
  rintro i oi Bi j oj Bj c ⟨h1, h2, h3⟩ hBi g3 g4 hBj heq
  rw [d1 i h1] at hBi
  rw [g3] at hBj
  rcases g4 with ⟨g5, g6, g7⟩ | ⟨g5, g6, g7⟩
  ·rw [sm c j g6] at hBj
   exact apart i oi Bi h2 hBi h3 c j Bj g6 g7 hBj heq.symm
  ·have hc2 : c < (H os' M b').next := by
    apply Nat.lt_of_not_le; intro hle
    have : φ1 c = none := (k1.same c (.inr hle)).trans (hf0 c (by have : os'.length ≤ c := hle; omega))
    rw [this] at hBj; cases hBj
   rcases k1.own c Bj (by show os.length ≤ c; omega) hc2 hBj with e | ⟨m, o0, B0, q1, q2, q3, q4⟩
   ·have := rl.rng i Bi hBi; omega
   ·obtain ⟨id', o1, f1, _, f3⟩ := src0 m o0 q1
    exact apart i oi Bi h2 hBi h3 m id' B0 f1 q4 (by rw [← pc m id' f1]; exact q2) (q3.trans heq.symm)
 refine ⟨φ', x, rfl, ⟨he.ext, ⟨k1.rel.base, ?_, ?_, ?_, ?_, ?_, ?_⟩, ?_, k1.size, ?_, ?_, ?_, ?_⟩, gs ren1 hv k2⟩
 ·intro id o ho
  rcases src id o ho with ⟨h1, h2, h3⟩ | ⟨j, o0, h1, h2, h3, _⟩
  ·obtain ⟨B, hB, t⟩ := rl.obj id o h2
   exact ⟨B, (d1 id h1).trans hB, t.keep hsub (hfrm _ (rl.rng id B hB) fun i id' B' q1 q2 q3 => apart id o B h2 hB h3 i id' B' q1 q2 q3)⟩
  ·obtain ⟨B, hB, t⟩ := k1.rel.obj j o0 (gc' j o0 h1)
   exact ⟨B, h3.trans hB, pR ren1 h2 t⟩
 ·intro id B hB
  by_cases h1 : id < s.next
  ·rw [d1 id h1] at hB; have := rl.rng id B hB; have := k1.size; omega
  ·by_cases h2 : id < s'.next
   ·rw [d2 id (by omega) h2] at hB; exact k1.rel.rng _ B hB
   ·rw [d3 id (by omega)] at hB; cases hB
 ·intro id o B ho hB hlt
  rcases src id o ho with ⟨h1, h2, h3⟩ | ⟨j, o0, h1, h2, h3, _⟩
  ·exact rl.old id o B h2 (by rw [← d1 id h1]; exact hB) hlt
  ·rw [(uW h2).1]; exact k1.rel.old j o0 B (gc' j o0 h1) (by rw [← h3]; exact hB) hlt
 ·intro i j oi oj Bi Bj hi hj hBi hBj heq
  rcases src i oi hi with ⟨h1, h2, h3⟩ | ⟨a, o0, h1, h2, h3, h4⟩ <;> rcases src j oj hj with ⟨g1, g2, g3⟩ | ⟨c, o0', g1, g2, g3, g4⟩
  ·exact rl.inj i j oi oj Bi Bj h2 g2 (by rw [← d1 i h1]; exact hBi) (by rw [← d1 j g1]; exact hBj) heq
  ·exact (mix i oi Bi j oj Bj c ⟨h1, h2, h3⟩ hBi g3 g4 hBj heq).elim
  ·exact (mix j oj Bj i oi Bi a ⟨g1, g2, g3⟩ hBj h3 h4 hBi heq.symm).elim
  ·rcases k1.rel.inj a c o0 o0' Bi Bj (gc' a o0 h1) (gc' c o0' g1) (by rw [← h3]; exact hBi) (by rw [← g3]; exact hBj) heq with e | e
   ·subst e
    left
    rcases h4 with ⟨q1, q2, _⟩ | ⟨q1, q2, q3⟩ <;> rcases g4 with ⟨r1, r2, _⟩ | ⟨r1, r2, r3⟩
    ·rw [q2] at r2; cases r2; rfl
    ·have := (List.getElem?_eq_some_iff.1 q2).1; omega
    ·have := (List.getElem?_eq_some_iff.1 r2).1; omega
    ·omega
   ·exact .inr e
 ·intro b' i u hu
  rw [dz] at hu; exact k1.rel.frz b' i u hu
 ·intro id o B ho hB
  rcases src id o ho with ⟨h1, h2, h3⟩ | ⟨j, o0, h1, h2, h3, _⟩
  ·have hB' : φ id = some B := by rw [← d1 id h1]; exact hB
   exact (rl.sep id o B h2 hB').congr (zsame id o B h2 hB' h3)
  ·rw [dz]; exact (uW h2).2 B _ (k1.rel.sep j o0 B (gc' j o0 h1) (by rw [← h3]; exact hB))
 ·intro id hid
  rcases hid with hid | hid
  ·exact d1 id hid
  ·rw [d3 id hid]; exact (hf id (by have := he.ext.next; omega)).symm
 ·intro b' hb' hq
  refine hfrm b' hb' fun i id B q1 q2 q3 q4 => ?_
  obtain ⟨o, o1, _, _, g3⟩ := hos i id q1
  have h9 := hq id o1 B g3 q3 q4
  rw [he.bit i id q1 q2] at h9; cases h9
 ·intro id B h1 h2 hB
  rw [d2 id h1 h2] at hB
  rcases k1.own (ids.length + (id - s.next)) B (by show os.length ≤ _; omega) (by show _ < os'.length; omega) hB with h3 | ⟨j, o0, B0, q1, q2, q3, q4⟩
  ·exact .inl h3
  ·obtain ⟨id', o1, g1, _, g3⟩ := src0 j o0 q1
   exact .inr ⟨id', o1, B0, g3, by rw [← pc j id' g1]; exact q2, q3, he.bit j id' g1 q4⟩
 ·intro b' i u hu; rw [dz]; exact hzs b' i u hu
 ·intro b' i u hu
  rw [dz] at hu
  rcases hz b' i u hu with h1 | h1 | ⟨j, id, o, B, g1, g2, g3, g4, g5⟩
  ·exact .inl h1
  ·exact .inr (.inl h1)
  ·exact .inr (.inr ⟨id, o, B, g2, g3, g4, he.bit j id g1 g5⟩)
def FinK (E : Env) (c : St) (M : Nat) (keep : List Nat) (res : List RV) (v : AV) (c' : St) (r : Res) (fr : Fr) (s : St) : Prop :=
 (r = .norm ∨ r = .ret) ∧ ∃ s2 vs v0 fr1, x9 s fr.df = some s2 ∧ resV E.globs fr.tm s2 res = some vs ∧ frzA c.next (qi vs) = some v0 ∧ v = wkV v0 ∧ gcF true c M keep [] c.md { tm := .leaf, df := [] } s2 = some (fr1, c')
theorem Gm (hO : OrcOk P w0 O) (hm : P.follows .mixedOrders = true) (hG : xK E.globs w0) (hE : jG P E) {f : Nat} {F : IFunc} {args : List AV} {c : St} {c' : St} (M : Nat)
  (hF : E.funs.get f = some F) (hle : args.length ≤ F.ntmps) (hh : c.hide = []) (ho : c.only = none) (hw : c.wm = 0) (hM : ∀ i, M.testBit i = true → i < c.next ∧ ∃ o, c.objs.get i = some o ∧ qh o = false)
  (H : ∀ C : Cx, CxOk C → C.E = E → C.O = O → C.rd = none → C.s = c → C.M = M → Tri C F.body { tm := wH .leaf 0 args, df := [] } c (fun r fr s => ∃ keep, FinK E c M keep F.res v c' r fr s)) : SC P w0 f args c v c' := by
 obtain ⟨fn, hfn, hcf⟩ := hE f F hF
 unfold Ju at hcf
 split at hcf
 ·cases hcf
 ·rename_i cd hbody
  split at hcf
  ·rename_i ib rs hb hrs
   cases hnm : (fn.name != "runtime.NumGoroutine") with
   | false => rw [hnm] at hcf; simp at hcf
   | true =>
    rw [hnm] at hcf; simp only [cond_true, zy] at hcf; subst hcf
    have hnm' : (fn.name == "runtime.NumGoroutine") = false := by simpa [bne] using hnm
    refine ⟨⟨fn, hfn, by rw [hbody]; rfl, hnm'⟩, ?_⟩
    intro φ w xs r hwf hf hx Fe n hFe
    have ok : CxOk ⟨P, w0, E, O, fn.ntmps, none, φ, c, w, M⟩ :=
     ⟨hO, hm, hG, hE, r, hwf, hf, hh, ho, fun i hi => by rw [show (⟨P, w0, E, O, fn.ntmps, none, φ, c, w, M⟩ : Cx).s.wm = 0 from hw] at hi; simp at hi, hM⟩
    have hat : At ⟨P, w0, E, O, fn.ntmps, none, φ, c, w, M⟩ φ c w := ⟨Step.refl r, hf⟩
    have hxl : xs.length ≤ fn.ntmps := by rw [← VRL.length hx]; exact hle
    have hfr : FrRel φ fn.ntmps { tm := wH .leaf 0 args, df := [] } { tmps := xs.toArray ++ Array.replicate (fn.ntmps - xs.toArray.size) undef, defers := [] } :=
     ⟨lv hx _, by simp; omega, rfl⟩
    have hFp : Wide Fe.plain := ⟨hFe.fn, hFe.depth, hFe.alive⟩
    have ht := H _ ok rfl rfl rfl rfl rfl
    have key : CallsIn Fe.plain n P f xs.toArray w (RetQ P w0 φ c w v c') := by
     refine callsIn_of_wp_marks hfn hbody (hFe.fn f) (wpIn_mono (ht cd hb φ w _ hat hfr Fe.plain n hFp (fun _ => rfl)) ?_)
     rintro e a' w' ⟨res, fr', s1, φ1, rfl, k1, k2, keep, hor, s2, vs, v0, fr1, q1, q2, q3, hvv, q4⟩
     have hleave : LeavesInM Fe.plain n P fn a'.tmps (RetQ P w0 φ c w v c') a'.defers .returning w' := by
      refine VF ok q1 k2.df k1 fun w2 k3 => ?_
      have hre : resE E.globs fr'.tm s2 rs = some (qi vs, s2) := by unfold resE; rw [q2]
      have hrel : Rel P w0 φ1 s2.get w2 := k3.st.rel
      obtain ⟨_, x, k4, k5⟩ := kx hG hrel k2.tm hrs hre
      obtain ⟨φ2, g1, _, gz⟩ := Z6 ok (fr := { tm := .leaf, df := [] }) q4 k3 (a := { tmps := a'.tmps, defers := [] }) ⟨fun i v hv => by simp [Trie.get] at hv, k2.size, rfl⟩
      refine ⟨x, k4, φ2, x, rfl, g1.st, ?_⟩
      refine hvv ▸ lX (pC (φ := φ1) (φ2 := φ2) (fun b o u hu => by rw [gz]; exact hu) (fun id hid => ?_) q3 k5)
      exact (g1.st.same id (.inl hid)).trans (k3.st.same id (.inl hid)).symm
     rcases hor with rfl | rfl
     ·exact hleave
     ·exact hleave
    exact key
  ·cases hcf
theorem Is.scK (hO : OrcOk P w0 O) (hm : P.follows .mixedOrders = true) (hG : xK E.globs w0) (hE : jG P E) {f : Nat} {F : IFunc} {args : List AV} {os : List (Option AObj)} {b : Bool} {c' : St} (M : Nat)
  (hF : E.funs.get f = some F) (hle : args.length ≤ F.ntmps) (hM : ∀ i, M.testBit i = true → ∃ o, getO os i = some o ∧ qh o = false)
  (h : ∀ C : Cx, Is C E O (H os 0 b) M → Tri C F.body { tm := wH (tmL []) 0 args, df := [] } (H os 0 b) (fun r fr s => ∃ keep, FinK E (H os 0 b) M keep F.res v c' r fr s)) : SC P w0 f args (H os 0 b) v c' :=
 Gm hO hm hG hE M hF hle rfl rfl rfl (fun i hi => by
  obtain ⟨o, h1, h2⟩ := hM i hi
  exact ⟨Zp h1, o, by rw [ph]; exact h1, h2⟩) fun C ok h1 h2 h3 h4 h5 => h C ⟨ok, h1, h2, h3, h4, h5⟩
theorem wq {c : St} {M : Nat} {res : List RV} {c' : St} {r : Res} {fr : Fr} {s2 : St} {vs : List AV} {v0 : AV} (keep : List Nat) (h0 : r = .norm ∨ r = .ret) (h1 : x9 s fr.df = some s2) (h2 : resV E.globs fr.tm s2 res = some vs) (h3 : frzA c.next (qi vs) = some v0) (h4 : wkV v0 = v) (h5 : gcF true c M keep [] c.md { tm := tmL [], df := [] } s2 = some ({ tm := tmL [], df := [] }, c')) : ∃ keep, FinK E c M keep res v c' r fr s :=
 ⟨keep, h0, s2, vs, v0, _, h1, h2, h3, h4.symm, h5⟩
mutual
theorem VU (ρ : Nat → Option Nat) : ∀ {v : AV}, xG v = true → renV ρ v = some v
 | .ifc t v, h => by simp only [xG] at h; simp only [renV, VU ρ h]
 | .fn f a c, h => by
  simp only [xG, zm] at h
  simp only [renV, renC, h.1, h.2, cond_true]
 | .agg cs, h => by simp only [xG] at h; simp only [renV, renC, h, cond_true]
 | .tup cs, h => by simp only [xG] at h; simp only [renV, renC, h, cond_true]
 | .ptr _ _, h | .sl _ _ _ _, h | .map _, h | .yld _, h | .gr _ _ _ _, h => by simp [xG] at h
 | .bool _, _ | .int _ _, _ | .str _, _ | .nilp, _ | .gptr _ _, _ | .sl0, _ | .nils, _ | .nilm, _ | .nilf, _ | .nili, _ | .lst _ _ _, _ | .vp .., _ => by simp only [renV]
end
theorem Yu (ρ : Nat → Option Nat) : ∀ {l : List AV}, xz l = true → renL ρ l = some l
 | [], _ => by simp only [renL]
 | v :: r, h => by
  simp only [xw, zm] at h
  simp only [renL, VU ρ h.1, Yu ρ h.2]
def wrow (tw id j n : Nat) (disp : Bool) : AObj := .row tw [.ptr id 0, .sl j 0 n (.opn 1), .bool disp] false false
def brow (tb : Nat) (out : List Nat) : AObj := .row tb (xo out) true false
noncomputable def newW (tw tb : Nat) (s : St) (id j : Nat) (out : List Nat) (disp : Bool) : St := ((s.put id (wrow tw id s.next out.length disp)).del j).alloc (brow tb out)
structure IsW {α : Type} (tw tb : Nat) (enc : α → List AV) (Pre : α → List Nat → Bool → Prop) (args : List AV) (s : St) (id j : Nat) (x : α) (out : List Nat) (disp : Bool) : Prop where
 a : ∃ r, args = .ptr id 0 :: r ∧ enc x = wkL r
 ne : id ≠ j
 hi : id < s.next
 hj : j < s.next
 w : s.get id = some (wrow tw id j out.length disp)
 b : s.get j = some (brow tb out)
 p : Pre x out disp
open Classical in
noncomputable def orcW {α : Type} (tw tb : Nat) (enc : α → List AV) (Pre : α → List Nat → Bool → Prop) (F : α → Bool → List Nat) (args : List AV) (s : St) : Option (AV × St) :=
 if h : ∃ q : Nat × Nat × α × List Nat × Bool, IsW tw tb enc Pre args s q.1 q.2.1 q.2.2.1 q.2.2.2.1 q.2.2.2.2 then
  some (.tup [], newW tw tb s (yU h).1 (yU h).2.1 ((yU h).2.2.2.1 ++ F (yU h).2.2.1 (yU h).2.2.2.2) (yU h).2.2.2.2)
 else none
section
variable {α : Type} {tw tb : Nat} {enc : α → List AV} {Pre : α → List Nat → Bool → Prop} {F : α → Bool → List Nat}
theorem IsW.uniq (inj : ∀ x y, enc x = enc y → x = y) {args : List AV} {j id' j' : Nat} {x x' : α} {out' : List Nat} {disp' : Bool} (h : IsW tw tb enc Pre args s id j x out disp) (h' : IsW tw tb enc Pre args s id' j' x' out' disp') : id' = id ∧ j' = j ∧ x' = x ∧ out' = out ∧ disp' = disp := by
 obtain ⟨r, ha, he⟩ := h.a
 obtain ⟨r', ha', he'⟩ := h'.a
 rw [ha] at ha'
 simp only [yZ, AV.ptr.injEq, and_true] at ha'
 obtain ⟨rfl, rfl⟩ := ha'
 have hw := h.w.symm.trans h'.w
 simp only [wrow, zy, AObj.row.injEq, yZ, AV.sl.injEq, AV.bool.injEq, and_true, true_and] at hw
 obtain ⟨⟨rfl, _⟩, rfl⟩ := hw
 have hb := h.b.symm.trans h'.b
 simp only [brow, zy, AObj.row.injEq, and_true, true_and] at hb
 exact ⟨rfl, rfl, inj _ _ (he'.trans he.symm), (uo hb).symm, rfl⟩
theorem zqb (inj : ∀ x y, enc x = enc y → x = y) {args : List AV} {j : Nat} {x : α} (h : IsW tw tb enc Pre args s id j x out disp) : orcW tw tb enc Pre F args s = some (.tup [], newW tw tb s id j (out ++ F x disp) disp) := by
 have hx : ∃ q : Nat × Nat × α × List Nat × Bool, IsW tw tb enc Pre args s q.1 q.2.1 q.2.2.1 q.2.2.2.1 q.2.2.2.2 := ⟨(id, j, x, out, disp), h⟩
 unfold orcW
 rw [dif_pos hx]
 obtain ⟨e1, e2, e3, e4, e5⟩ := h.uniq inj (yQ hx)
 rw [e1, e2, e3, e4, e5]
theorem Le {j : Nat} {o' : AObj} (hne : id ≠ j) (h : s.get j = some o) : (s.put id o').get j = some o := by
 rw [qS, wZ (s := s) (s' := s.put id o') rfl rfl, xZ h, if_pos rfl]
 exact (Trie.get_set_ne _ _ (Ne.symm hne)).trans (xI h)
theorem WH {j : Nat} {out' : List Nat} (hne : id ≠ j) (hw : s.get id = some (wrow tw id j out.length disp)) (hb : s.get j = some (brow tb out)) : Ext s (newW tw tb s id j out' disp) :=
 ((wU hw).trans (Wg (Le hne hb))).trans (uz _ _)
theorem lj {j : Nat} {out' : List Nat} (i : Nat) : (newW tw tb s id j out' disp).get i = if seen s i then (if i = s.next then some (brow tb out') else if i = j then none else if i = id then some (wrow tw id s.next out'.length disp) else s.objs.get i) else none := by
 rw [qS, wZ (s := s) (s' := newW tw tb s id j out' disp) rfl rfl]
 congr 1
 show (((s.objs.set id _).del j).set s.next _).get i = _
 rw [Trie.get_set, Trie.get_del, Trie.get_set]
theorem Qp {ρ : Nat → Option Nat} {tw j a b : Nat} (h1 : ρ id = some a) (h2 : ρ j = some b) : renO ρ (wrow tw id j n disp) = some (wrow tw a b n disp) := by
 have hp : xz [AV.ptr id 0, .sl j 0 n (.opn 1), .bool disp] = false := rfl
 simp only [renO, wrow, hp, renC, cond_false, renL, renV, h1, h2]
theorem XI {ρ : Nat → Option Nat} {tb : Nat} : renO ρ (brow tb out) = some (brow tb out) := by
 simp only [renO, brow, renC, wx, cond_true]
theorem kJ (args : List AV) (s : St) (v : AV) (s' : St) (h : orcW tw tb enc Pre F args s = some (v, s')) : Ext s s' := by
 unfold orcW at h
 split at h
 ·rename_i hx
  cases h
  have hs := yQ hx
  exact WH hs.ne hs.w hs.b
 ·cases h
theorem UI {f : Nat} {b : Bool} (hpure : ∀ x, xz (enc x) = true) (h : ∀ x out disp, Pre x out disp → SC P w0 f (.ptr 0 0 :: enc x) (H [some (wrow tw 0 1 out.length disp), some (brow tb out)] 0 b) (.tup []) (H [some (wrow tw 0 2 (out ++ F x disp).length disp), none, some (brow tb (out ++ F x disp))] 3 b)) : qO P w0 f (orcW tw tb enc Pre F) := by
 intro args s v s' hg
 unfold orcW at hg
 split at hg
 ·rename_i hx
  simp only [zy, Prod.mk.injEq] at hg
  obtain ⟨rfl, rfl⟩ := hg
  have hs := yQ hx
  revert hs
  generalize yU hx = q
  obtain ⟨id, j, x, out, disp⟩ := q
  simp only
  intro hs
  obtain ⟨r, rfl, he⟩ := hs.a
  have g0 : iot [id, j] 0 = some id := rfl
  have g1 : iot [id, j] 1 = some j := rfl
  have k0 : iot' [id, j] s.next 3 0 = some id := rfl
  have k2 : iot' [id, j] s.next 3 2 = some s.next := rfl
  refine SC.args (args' := .ptr id 0 :: enc x) (SC.emb (h x out disp hs.p) (ids := [id, j]) rfl (by simp [hs.ne]) (fun i k hk => ?_) (by simp only [renL, renV, g0, Yu _ (hpure x)]) (by simp only [renV, renC, xD, cond_true]) ?_) fun φ xs hv => ?_
  ·match i, hk with
   | 0, hk => cases hk; exact ⟨_, _, rfl, Qp g0 g1, hs.w⟩
   | 1, hk => cases hk; exact ⟨_, _, rfl, XI, hs.b⟩
   | i + 2, hk => simp at hk
  ·refine ⟨WH hs.ne hs.w hs.b, by simp, rfl, fun i hi hn o => ?_, fun i k hk hM o1 ho => ?_, fun i h1 h2 o1 ho => ?_, fun i k hk hM => ?_⟩
   ·have n1 : i ≠ s.next := by omega
    have n2 : i ≠ j := fun e => absurd (hn 1 (by rw [e]; rfl)) (by decide)
    have n3 : i ≠ id := fun e => absurd (hn 0 (by rw [e]; rfl)) (by decide)
    rw [lj, if_neg n1, if_neg n2, if_neg n3, ← qS]
   ·match i, hk with
    | 0, hk =>
     cases hk
     rw [lj, xZ hs.w, if_pos rfl, if_neg (by have := hs.hi; omega), if_neg hs.ne, if_pos rfl] at ho
     cases ho
     exact ⟨_, rfl, Qp k0 k2⟩
    | 1, hk =>
     cases hk
     rw [lj, xZ hs.b, if_pos rfl, if_neg (by have := hs.hj; omega), if_pos rfl] at ho
     cases ho
    | i + 2, hk => simp at hk
   ·simp only [yY, yX] at h1 h2
    have : i = 2 := by omega
    subst this
    rw [lj] at ho
    simp only [yY, yX] at ho
    split at ho
    ·rw [if_pos (by omega)] at ho
     cases ho
     exact ⟨_, rfl, XI⟩
    ·cases ho
   ·match i, hk with
    | 0, hk =>
     cases hk
     show (mark (mark s.wm id) j).testBit id = true
     simp only [mark]
     show ((s.wm ||| 1 <<< id) ||| 1 <<< j).testBit id = true
     simp [yC, y9]
    | 1, hk =>
     cases hk
     show ((s.wm ||| 1 <<< id) ||| 1 <<< j).testBit j = true
     simp [yC, y9]
    | i + 2, hk => simp at hk
  ·simp only [VRL] at hv ⊢
   obtain ⟨y, ys, rfl, q1, q2⟩ := hv
   exact ⟨y, ys, rfl, q1, by rw [he]; exact qU q2⟩
 ·cases hg
theorem zwS {f : Nat} (hO : O f = some (orcW tw tb enc Pre F)) (inj : ∀ x y, enc x = enc y → x = y) (x : α) (out : List Nat) (disp : Bool) (hp : Pre x out disp) (l : List (Nat × Option AObj)) (n m : Nat) (md : Bool) (id j : Nat) (r : List AV) (hr : enc x = wkL r) (ne : id ≠ j) (hi : id < n) (hj : j < n)
  (hw : getA l id = some (.row tw [.ptr id 0, .sl j 0 out.length (.opn 1), .bool disp] false false)) (hb : getA l j = some (.row tb (xo out) true false)) :
  (evW E O).call f (.ptr id 0 :: r) (KL l n m md [] none) = some (.tup [], KL ((n, some (.row tb (xo (out ++ F x disp)) true false)) :: (j, none) :: (id, some (.row tw [.ptr id 0, .sl n 0 (out ++ F x disp).length (.opn 1), .bool disp] false false)) :: l) (n + 1) (mark (mark m id) j) md [] none) := by
 rw [xC hO, zqb inj (x := x) (out := out) (disp := disp) (id := id) (j := j) ⟨⟨r, rfl, hr⟩, ne, hi, hj, by rw [w8]; exact hw, by rw [w8]; exact hb, hp⟩]
 rfl
end
theorem X8 (a o : Nat) : vEqk .ptr false (.ptr a o) .nilp = some (.bool false) := rfl
theorem Us : vEqk .ptr false .nilp .nilp = some (.bool true) := rfl
theorem X9 (a o : Nat) : vEqk .ptr true (.ptr a o) (.ptr a o) = some (.bool false) := by
 simp only [vEqk, eqV, xF.2 (rfl : a = a), xF.2 (rfl : o = o), cond_true, xf]
theorem jw : ∀ a b : List Nat, xo (a ++ b) = xo a ++ xo b
 | [], _ => rfl
 | x :: a, b => by simp only [y8, xo, jw a b]
theorem QQ (a : List Nat) : (xo a).length = a.length := kQ a
theorem zpn {t : Nat} {new : List Nat} (hb : new.length < 1000000000) (h0 : new ≠ []) : grow s t 1 1 (xo new) new.length = some (.sl s.next 0 new.length (.opn 1), s.alloc (.row t (xo new) true false)) := by
 simp only [grow]
 rw [show ze (zb (zb 2 new.length) 1) 281474976710656 = true from xJ.2 (by show 2 * new.length * 1 ≤ _; omega), show ze 1 1 = true from rfl, show zd new.length 9223372036854775808 = true from xR.2 (by omega)]
 rfl
theorem Ud {l : List (Nat × Option AObj)} {n m t : Nat} {y : AV} {new : List Nat} (hl : jR y = some new.length) (h0 : new ≠ []) (hc : qI (KL l n m false [] none) 1 new.length y = some (xo new)) (hb : new.length < 1000000000) :
  appV (KL l n m false [] none) t 1 1 .nils y = some (.sl n 0 new.length (.opn 1), KL ((n, some (.row t (xo new) true false)) :: l) (n + 1) m false [] none) := by
 obtain ⟨q, hq⟩ : ∃ q, new.length = q + 1 := by
  cases new with
  | nil => exact absurd rfl h0
  | cons a r => exact ⟨r.length, rfl⟩
 rw [hq] at hc hl
 simp only [appV, hl, hc, appW, Jd, xc, cond_false]
 have := zpn (s := KL l n m false [] none) (t := t) hb h0
 rw [hq] at this ⊢
 exact this
theorem ZY (out : List Nat) : cut (xo out) 0 (zb out.length 1) = some (xo out) := by
 have : zb out.length 1 = (xo out).length := by rw [QQ]; exact y7 _
 rw [zsH, this]
 exact jF rfl
theorem Ue {l : List (Nat × Option AObj)} {n m t j : Nat} {b : Bool} {y : AV} {out new : List Nat} (hg : getA l j = some (.row t (xo out) true false)) (hl : jR y = some new.length) (h0 : new ≠ []) (hc : qI (KL l n m b [] none) 1 new.length y = some (xo new)) (hb : (out ++ new).length < 1000000000) :
  appV (KL l n m b [] none) t 1 1 (.sl j 0 out.length (.opn 1)) y = some (.sl n 0 (out ++ new).length (.opn 1), KL ((n, some (.row t (xo (out ++ new)) true false)) :: (j, none) :: l) (n + 1) (mark m j) b [] none) := by
 obtain ⟨q, hq⟩ : ∃ q, new.length = q + 1 := by
  cases new with
  | nil => exact absurd rfl h0
  | cons a r => exact ⟨r.length, rfl⟩
 have hq' := hq
 rw [hq] at hc hl
 have h1 : ze (zc 0 (zb (zc out.length (Nat.succ q)) 1)) (lenN (xo out)) = false := by
  rw [x7, QQ]
  cases h : ze (zc 0 (zb (zc out.length (Nat.succ q)) 1)) out.length with
  | false => rfl
  | true =>
   have h2 := xJ.1 h
   have h3 : 0 + (out.length + (q + 1)) * 1 ≤ out.length := h2
   omega
 simp only [appV, hl, hc, appW, w8, hg, xF.2 (rfl : (1 : Nat) = 1), xF.2 (rfl : t = t), xd, xe, y6, cond_true, h1, cond_false, kr, ZY, zpv]
 have := zpn (s := KL ((j, none) :: l) n (mark m j) b [] none) (t := t) (new := out ++ new) hb (by simp [h0])
 rw [jw, ye, hq] at this
 rw [jw, ye, hq]
 exact this
theorem gr_lst {e : Nat} {cs : List AV} {x : Value} (h : VR φ (.gr id e n cs) x) : VR φ (.lst n false cs) x := by
 simp only [VR] at h ⊢
 obtain ⟨h1, h2, h3, h4, B, ys, h5, h6, h7, h8, h9⟩ := h
 exact ⟨h1, .inr ⟨B.b, B.o, _, ys, h6, by simp, h7, h8, h9⟩⟩
theorem zsu {l : List (Nat × Option AObj)} {n m t id k : Nat} {b e : Bool} {old new : List Nat} (hg : getA l id = some (.app t (xo old))) (hk : k = old.length) (h0 : new ≠ []) (hb : (old ++ new).length < 1000000000) :
  appV (KL l n m b [] none) t 1 1 (.gr id 1 k (xo old)) (.lst new.length e (xo new)) = some (.gr n 1 (k + new.length) (xo (old ++ new)), KL ((n, some (.app t (xo (old ++ new)))) :: (id, none) :: l) (n + 1) (mark m id) b [] none) := by
 subst hk
 obtain ⟨q, hq⟩ : ∃ q, new.length = q + 1 := by
  cases new with
  | nil => exact absurd rfl h0
  | cons a r => exact ⟨r.length, rfl⟩
 have h2 : wA (zb (Nat.succ q) 1) (xo new) = some (xo new) := jF (by rw [kQ, hq]; exact (y7 _).symm)
 simp only [ye] at hb
 rw [hq] at hb ⊢
 simp only [appV, pT, qI, h2, appW, w8, hg, xF.2 (rfl : (1 : Nat) = 1), xF.2 (rfl : t = t), xF.2 (rfl : lenN (xo old) = lenN (xo old)), kr, y6, cond_true, gH, vV, wx]
 rw [show ze (zb (zb 2 (zc old.length (Nat.succ q))) 1) 281474976710656 = true from xJ.2 (by show 2 * (old.length + (q + 1)) * 1 ≤ _; omega), show ze 1 1 = true from rfl, show zd (zc old.length (Nat.succ q)) 9223372036854775808 = true from xR.2 (by show old.length + (q + 1) < _; omega), jw]
 rfl
def phiW (W : World) : Phi := ⟨fun _ => none, fun b o => W.cell? ⟨b, o, none⟩⟩
theorem Pb {a : Addr} {v : Value} (h : w.cell? a = some v) : ∃ c e fr, w.heap[a.block]? = some (.cells c e fr) ∧ a.spot = none ∧ c[a.off]? = some v := by
 unfold World.cell? at h
 cases hb : w.heap[a.block]? with
 | none => rw [hb] at h; cases h
 | some o =>
  rw [hb] at h
  cases o <;> simp only at h <;> first | cases h | skip
  rename_i c e fr
  refine ⟨c, e, fr, rfl, ?_⟩
  cases hs : a.spot with
  | none => rw [hs] at h; simp at h; exact ⟨rfl, h⟩
  | some s => rw [hs] at h; simp at h
theorem Jf {a : Addr} (h : a.spot = none) (n : Nat) : a.add n = ⟨a.block, a.off + n, none⟩ := by
 unfold Addr.add
 by_cases hn : n = 0
 ·subst hn; simp; cases a; simp_all
 ·rw [if_neg hn]
theorem zxr (P : Program) (W : World) (b : Bool) : Rel P W (phiW W) (H [] 0 b).get W := by
 have hg : ∀ id o, (H [] 0 b).get id = some o → False := fun id o h => by
  rw [Xx] at h; simp [getO] at h
 refine ⟨Below.refl _ _, fun id o h => (hg id o h).elim, fun id B h => (by cases h), fun id o B h => (hg id o h).elim, fun id id' o o' B B' h => (hg id o h).elim, fun b o v h => ?_, fun id o B h => (hg id o h).elim⟩
 obtain ⟨c, e, fr, h1, _, h3⟩ := Pb h
 exact ⟨c, e, fr, h1, h3⟩
section
variable {H0 : Type} {enc : TypeId × Value → H0} {P : Program} {W : World} {sp : Nat → Bool} {held : Bool} {tD tI tS tK tE : TypeId} {fs : Array Field} {α : Type} {f : α → List AV} {k : Nat}
theorem QF {a : Addr} {n : Nat} (h0 : 0 < k) (hk : P.cellsOf tE = k) (hsp : a.spot = none)
  (ih : ∀ cs x, DataW.trod enc P W 0 sp held n tE cs = some x → ∃ d, VRL (phiW W) (f d) cs) :
  ∀ (len : Nat), (∀ i, i < len → ∃ x, (W.cells? 0 (a.add (i * k)) k).bind (DataW.trod enc P W 0 sp held n tE) = some x) →
   ∃ ds ys, ds.length = len ∧ ys.length = len * k ∧ VRL (phiW W) (qw f ds) ys ∧ ∀ i y, ys[i]? = some y → (phiW W).z a.block (a.off + i) = some y
 | 0, _ => ⟨[], [], rfl, by simp, VRL.nil _, fun i y h => by simp at h⟩
 | len + 1, h => by
  obtain ⟨ds, ys, h1, h2, h3, h4⟩ := QF h0 hk hsp ih len (fun i hi => h i (by omega))
  obtain ⟨x, hx⟩ := h len (by omega)
  cases hc : W.cells? 0 (a.add (len * k)) k with
  | none => rw [hc] at hx; cases hx
  | some cs =>
   rw [hc] at hx
   obtain ⟨d, hd⟩ := ih cs x hx
   obtain ⟨_, hl, hg⟩ := World.cells?_some hc
   refine ⟨ds ++ [d], ys ++ cs, by simp [h1], by rw [ye, h2, hl, Nat.succ_mul], by rw [qZ, lH]; exact VRL.append h3 hd, fun i y hy => ?_⟩
   by_cases hi : i < ys.length
   ·rw [List.getElem?_append_left hi] at hy; exact h4 i y hy
   ·rw [List.getElem?_append_right (by omega)] at hy
    have hj : i - ys.length < k := by
     rw [← hl]; exact (List.getElem?_eq_some_iff.1 hy).1
    have := hg (i - ys.length) hj
    rw [hy, Jf hsp, Jf rfl] at this
    show W.cell? ⟨a.block, a.off + i, none⟩ = some y
    rw [← this]
    congr 2
    simp only; omega
theorem abs_slice (h0 : 0 < k) (hk : P.cellsOf tE = k) (hK : P.underlying tK = some (.slice tE)) (hp : ∀ d, xz (f d) = true)
  (ih : ∀ m, m < n → ∀ cs x, DataW.trod enc P W 0 sp held m tE cs = some x → ∃ d, VRL (phiW W) (f d) cs)
  (hs : sp = fun _ => true) {cs : List Value} {x : DataW H0 × List MemPlace} (h : DataW.trod enc P W 0 sp held n tK cs = some x) :
  ∃ ds v, cs = [v] ∧ VR (phiW W) (.lst ds.length false (qw f ds)) v ∧ ds.length ≤ maxLen := by
 rcases DataW.trod_slice hK h with ⟨rfl, _⟩ | ⟨a, len, cap, elems, rest, m, rfl, rfl, _, _, hlc, hcm, hel, hsl, hspare, _⟩
 ·exact ⟨[], _, rfl, by simp only [VR]; exact ⟨rfl, .inl ⟨rfl, _, rfl⟩⟩, by simp [maxLen]⟩
 ·rw [hk] at hsl hspare
  by_cases hcap : cap = 0
  ·subst hcap
   obtain rfl : len = 0 := by omega
   exact ⟨[], _, rfl, by simp only [VR]; exact ⟨rfl, .inl ⟨rfl, _, rfl⟩⟩, by simp [maxLen]⟩
  ·have hcell : ∃ x, (W.cells? 0 (a.add (0 * k)) k) = some x := by
    by_cases hl : 0 < len
    ·have := hsl 0 hl
     rw [ym (by omega)] at this
     cases hc : W.cells? 0 (a.add (0 * k)) k with
     | none => rw [hc] at this; cases this
     | some y => exact ⟨y, rfl⟩
    ·obtain rfl : len = 0 := by omega
     obtain ⟨hr, hj⟩ := hspare (by rw [hs])
     have := hj 0 (by omega)
     rw [ym (by omega)] at this
     rw [Nat.zero_add] at this
     cases hc : W.cells? 0 (a.add (0 * k)) k with
     | none => rw [hc] at this; cases this
     | some y => exact ⟨y, rfl⟩
   obtain ⟨y, hy⟩ := hcell
   have hspot : a.spot = none := by
    obtain ⟨_, hl, hg⟩ := World.cells?_some hy
    have h1 := hg 0 h0
    rw [ym (by omega)] at h1
    obtain ⟨_, _, _, _, h2, _⟩ := Pb h1
    simpa [Addr.add] using h2
   obtain ⟨ds, ys, g1, _, g3, g4⟩ := QF (W := W) (enc := enc) (sp := sp) (held := held) h0 hk hspot (ih m (by omega)) len fun i hi => by
    have := hsl i hi
    rw [ym (by omega)] at this
    exact ⟨_, this⟩
   refine ⟨ds, _, rfl, ?_, by omega⟩
   simp only [VR]
   refine ⟨ur hp ds, .inr ⟨a.block, a.off, cap, ys, ?_, by simp, by omega, ZC.of g4, g3⟩⟩
   rw [g1]; cases a; simp only at hspot; subst hspot; rfl
structure DatumTy (P : Program) (tD tI tS tK : TypeId) (fs : Array Field) : Prop where
 d : P.underlying tD = some (.struct fs)
 fs : fs.toList.map (fun f => (f.type, f.offset)) = [(tI, 0), (tI, 1), (tS, 2), (tK, 3), (tI, 4)]
 i : P.underlying tI = some (.int .i64)
 s : P.underlying tS = some .string
 k : P.underlying tK = some (.slice tD)
 cd : P.cellsOf tD = 5
 ci : P.cellsOf tI = 1
 cs : P.cellsOf tS = 1
 ck : P.cellsOf tK = 1
end
theorem Step.ren (r : Rel P w0 φ s.get w) (hf : φ s.next = none) {tw tb j : Nat} (hne : id ≠ j) (hi : id < s.next) (hj : j < s.next)
  (hw : s.get id = some (wrow tw id j out.length disp)) (hb : s.get j = some (brow tb out)) :
  ∃ B, Step P w0 φ s w (φ.set s.next B) (newW tw tb s id j out disp) w := by
 obtain ⟨B, hB, tB⟩ := r.obj j _ hb
 have hsub : Sub φ (φ.set s.next B) := Phi.set_sub hf
 have hnew : (φ.set s.next B) s.next = some B := by show (if s.next = s.next then some B else φ s.next) = some B; rw [if_pos rfl]
 have hold : ∀ i, i ≠ s.next → (φ.set s.next B) i = φ i := fun i h => by show (if i = s.next then some B else φ i) = φ i; rw [if_neg h]
 have hget : ∀ i o, (newW tw tb s id j out disp).get i = some o → (i = s.next ∧ o = brow tb out) ∨ (i ≠ s.next ∧ i ≠ j ∧ i = id ∧ o = wrow tw id s.next out.length disp) ∨ (i ≠ s.next ∧ i ≠ j ∧ i ≠ id ∧ s.get i = some o) := fun i o h => by
  rw [lj] at h
  split at h
  ·rename_i hs
   split at h
   ·rename_i e; cases h; exact .inl ⟨e, rfl⟩
   ·rename_i e
    split at h
    ·cases h
    ·rename_i e2
     split at h
     ·rename_i e3; cases h; exact .inr (.inl ⟨e, e2, e3, rfl⟩)
     ·rename_i e3; exact .inr (.inr ⟨e, e2, e3, by rw [qS, if_pos hs]; exact h⟩)
  ·cases h
 have hwmj : (newW tw tb s id j out disp).wm.testBit j = true := by
  show ((s.wm ||| 1 <<< id) ||| 1 <<< j).testBit j = true
  simp [yC, y9]
 refine ⟨B, WH hne hw hb, ⟨r.base, fun i o h => ?_, fun i B' h => ?_, fun i o B' h hB' => ?_, fun i i' o o' B1 B2 h h' h1 h2 he => ?_, r.frz, fun i o B' h hB' => ?_⟩, fun i h => ?_, zq _, fun _ _ _ => rfl, fun i B' h1 h2 h3 => ?_, fun _ _ _ h => h, fun _ _ _ h => .inl h⟩
 ·rcases hget i o h with ⟨rfl, rfl⟩ | ⟨e1, e2, rfl, rfl⟩ | ⟨e1, e2, e3, h0⟩
  ·exact ⟨B, hnew, tB.keep hsub rfl⟩
  ·obtain ⟨Bw, hBw, tw'⟩ := r.obj i _ hw
   refine ⟨Bw, by rw [hold _ e1]; exact hBw, ?_⟩
   simp only [ObjRel, wrow] at tw' ⊢
   obtain ⟨c, fr, h1, h2, h3, h4, h5, h6⟩ := tw'
   refine ⟨c, fr, h1, h2, h3, h4, ?_, h6⟩
   simp only [VRL] at h5 ⊢
   obtain ⟨y1, ys1, q1, q2, y2, ys2, q3, q4, y3, ys3, q5, q6, q7⟩ := h5
   refine ⟨y1, ys1, q1, VR.mono hsub _ _ q2, y2, ys2, q3, ?_, y3, ys3, q5, VR.mono hsub _ _ q6, q7⟩
   simp only [VR] at q4 ⊢
   obtain ⟨B2, k, g1, g2, g3⟩ := q4
   rw [hB] at g1; cases g1
   exact ⟨B, k, hnew, g2, g3⟩
  ·obtain ⟨B', hB', t'⟩ := r.obj i o h0
   exact ⟨B', by rw [hold _ e1]; exact hB', t'.keep hsub rfl⟩
 ·by_cases e : i = s.next
  ·subst e; rw [hnew] at h; cases h; exact r.rng j B hB
  ·rw [hold _ e] at h; exact r.rng i B' h
 ·intro hlt
  rcases hget i o h with ⟨rfl, rfl⟩ | ⟨e1, e2, rfl, rfl⟩ | ⟨e1, e2, e3, h0⟩
  ·rw [hnew] at hB'; cases hB'; exact r.old j _ B hb hB hlt
  ·rw [hold _ e1] at hB'; exact (show qh (wrow tw i j out.length disp) = true from r.old i _ B' hw hB' hlt)
  ·rw [hold _ e1] at hB'; exact r.old i o B' h0 hB' hlt
 ·have hcase : ∀ i o, (newW tw tb s id j out disp).get i = some o → ∀ B', (φ.set s.next B) i = some B' → ∃ i0 o0, s.get i0 = some o0 ∧ φ i0 = some B' ∧ (i0 = i ∨ (i = s.next ∧ i0 = j)) ∧ (i0 = j → i = s.next) := fun i o h B' hB' => by
   rcases hget i o h with ⟨rfl, rfl⟩ | ⟨e1, e2, rfl, rfl⟩ | ⟨e1, e2, e3, h0⟩
   ·rw [hnew] at hB'; cases hB'; exact ⟨j, _, hb, hB, .inr ⟨rfl, rfl⟩, fun _ => rfl⟩
   ·rw [hold _ e1] at hB'; exact ⟨i, _, hw, hB', .inl rfl, fun e => absurd e e2⟩
   ·rw [hold _ e1] at hB'; exact ⟨i, _, h0, hB', .inl rfl, fun e => absurd e e2⟩
  obtain ⟨i0, o0, g1, g2, g3, g4⟩ := hcase i o h B1 h1
  obtain ⟨i1, o1, k1, k2, k3, k4⟩ := hcase i' o' h' B2 h2
  rcases r.inj i0 i1 o0 o1 B1 B2 g1 k1 g2 k2 he with e | e
  ·left
   by_cases ej : i0 = j
   ·rw [g4 ej, k4 (e ▸ ej)]
   ·rcases g3 with g3 | ⟨_, g3⟩
    ·rcases k3 with k3 | ⟨_, k3⟩
     ·rw [← g3, ← k3, e]
     ·exact absurd (e.trans k3) ej
    ·exact absurd g3 ej
  ·exact .inr e
 ·rcases hget i o h with ⟨rfl, rfl⟩ | ⟨e1, e2, rfl, rfl⟩ | ⟨e1, e2, e3, h0⟩
  ·rw [hnew] at hB'; cases hB'; exact r.sep j _ B hb hB
  ·rw [hold _ e1] at hB'; exact (SepOf.of_all ((r.sep i _ B' hw hB').all rfl rfl))
  ·rw [hold _ e1] at hB'; exact r.sep i o B' h0 hB'
 ·have : i ≠ s.next := by
   have : (newW tw tb s id j out disp).next = s.next + 1 := rfl
   omega
  exact hold _ this
 ·have e : i = s.next := by
   have : (newW tw tb s id j out disp).next = s.next + 1 := rfl
   omega
  subst e
  rw [hnew] at h3; cases h3
  exact .inr ⟨j, _, B, hb, hB, rfl, hwmj⟩
theorem Is.ren {C : Cx} {c : St} {M : Nat} (k : Is C E O c M) {fr : Fr} {l : List (Nat × Option AObj)} {m : Nat} {md : Bool} {tw tb j : Nat} (hne : id ≠ j) (hi : id < n) (hj : j < n)
  (hw : getA l id = some (wrow tw id j out.length disp)) (hb : getA l j = some (brow tb out)) :
  Gc C fr (KL l n m md [] none) fr (KL ((n, some (brow tb out)) :: (j, none) :: (id, some (wrow tw id n out.length disp)) :: l) (n + 1) (mark (mark m id) j) md [] none) := by
 intro φ w a ha hf
 obtain ⟨B, st⟩ := Step.ren (tw := tw) (tb := tb) (id := id) (j := j) (out := out) (disp := disp) ha.st.rel (ha.fresh _ (zq _)) hne hi hj (by rw [w8]; exact hw) (by rw [w8]; exact hb)
 have hn : φ n = none := ha.fresh n (zq _)
 exact ⟨φ.set n B, ha.step k.ok st, hf.mono (Phi.set_sub hn)⟩
def vE (tw : Nat) (disp : Bool) : AObj := .row tw [.nilp, .nils, .bool disp] false false
noncomputable def KU (tw tb : Nat) (s : St) (id : Nat) (out : List Nat) (disp : Bool) : St := (s.put id (wrow tw id s.next out.length disp)).alloc (brow tb out)
structure IsW0 {α : Type} (tw : Nat) (enc : α → List AV) (Pre : α → Bool → Prop) (args : List AV) (s : St) (id : Nat) (x : α) (disp : Bool) : Prop where
 a : ∃ r, args = .ptr id 0 :: r ∧ enc x = wkL r
 hi : id < s.next
 w : s.get id = some (vE tw disp)
 p : Pre x disp
open Classical in
noncomputable def Zw {α : Type} (tw tb : Nat) (enc : α → List AV) (Pre : α → Bool → Prop) (F : α → Bool → List Nat) (args : List AV) (s : St) : Option (AV × St) :=
 if h : ∃ q : Nat × α × Bool, IsW0 tw enc Pre args s q.1 q.2.1 q.2.2 then
  some (.tup [], KU tw tb s (yU h).1 (F (yU h).2.1 (yU h).2.2) (yU h).2.2)
 else none
section
variable {α : Type} {tw tb : Nat} {enc : α → List AV} {Pre : α → Bool → Prop} {F : α → Bool → List Nat}
theorem IsW0.uniq (inj : ∀ x y, enc x = enc y → x = y) {args : List AV} {id' : Nat} {x x' : α} {disp' : Bool} (h : IsW0 tw enc Pre args s id x disp) (h' : IsW0 tw enc Pre args s id' x' disp') : id' = id ∧ x' = x ∧ disp' = disp := by
 obtain ⟨r, ha, he⟩ := h.a
 obtain ⟨r', ha', he'⟩ := h'.a
 rw [ha] at ha'
 simp only [yZ, AV.ptr.injEq, and_true] at ha'
 obtain ⟨rfl, rfl⟩ := ha'
 have hw := h.w.symm.trans h'.w
 simp only [vE, zy, AObj.row.injEq, yZ, AV.bool.injEq, and_true, true_and] at hw
 exact ⟨rfl, inj _ _ (he'.trans he.symm), hw.symm⟩
theorem zti (inj : ∀ x y, enc x = enc y → x = y) {args : List AV} {x : α} (h : IsW0 tw enc Pre args s id x disp) : Zw tw tb enc Pre F args s = some (.tup [], KU tw tb s id (F x disp) disp) := by
 have hx : ∃ q : Nat × α × Bool, IsW0 tw enc Pre args s q.1 q.2.1 q.2.2 := ⟨(id, x, disp), h⟩
 unfold Zw
 rw [dif_pos hx]
 obtain ⟨e1, e2, e3⟩ := h.uniq inj (yQ hx)
 rw [e1, e2, e3]
theorem VG (hw : s.get id = some (vE tw disp)) : Ext s (KU tw tb s id out disp) :=
 (wU hw).trans (uz _ _)
theorem Yl (i : Nat) : (KU tw tb s id out disp).get i = if seen s i then (if i = s.next then some (brow tb out) else if i = id then some (wrow tw id s.next out.length disp) else s.objs.get i) else none := by
 rw [qS, wZ (s := s) (s' := KU tw tb s id out disp) rfl rfl]
 congr 1
 show ((s.objs.set id _).set s.next _).get i = _
 rw [Trie.get_set, Trie.get_set]
theorem zwn {ρ : Nat → Option Nat} {tw : Nat} : renO ρ (vE tw disp) = some (vE tw disp) := by
 have hp : xz [AV.nilp, .nils, .bool disp] = true := rfl
 simp only [renO, vE, hp, renC, cond_true]
theorem VO (args : List AV) (s : St) (v : AV) (s' : St) (h : Zw tw tb enc Pre F args s = some (v, s')) : Ext s s' := by
 unfold Zw at h
 split at h
 ·rename_i hx
  cases h
  have hs := yQ hx
  exact VG hs.w
 ·cases h
theorem PJ {f : Nat} {b : Bool} (hpure : ∀ x, xz (enc x) = true) (h : ∀ x disp, Pre x disp → SC P w0 f (.ptr 0 0 :: enc x) (H [some (vE tw disp)] 0 b) (.tup []) (H [some (wrow tw 0 1 (F x disp).length disp), some (brow tb (F x disp))] 1 b)) : qO P w0 f (Zw tw tb enc Pre F) := by
 intro args s v s' hg
 unfold Zw at hg
 split at hg
 ·rename_i hx
  simp only [zy, Prod.mk.injEq] at hg
  obtain ⟨rfl, rfl⟩ := hg
  have hs := yQ hx
  revert hs
  generalize yU hx = q
  obtain ⟨id, x, disp⟩ := q
  simp only
  intro hs
  obtain ⟨r, rfl, he⟩ := hs.a
  have g0 : iot [id] 0 = some id := rfl
  have k0 : iot' [id] s.next 2 0 = some id := rfl
  have k1 : iot' [id] s.next 2 1 = some s.next := rfl
  refine SC.args (args' := .ptr id 0 :: enc x) (SC.emb (h x disp hs.p) (ids := [id]) rfl (by simp) (fun i k hk => ?_) (by simp only [renL, renV, g0, Yu _ (hpure x)]) (by simp only [renV, renC, xD, cond_true]) ?_) fun φ xs hv => ?_
  ·match i, hk with
   | 0, hk => cases hk; exact ⟨_, _, rfl, zwn, hs.w⟩
   | i + 1, hk => simp at hk
  ·refine ⟨VG hs.w, by simp, rfl, fun i hi hn o => ?_, fun i k hk hM o1 ho => ?_, fun i h1 h2 o1 ho => ?_, fun i k hk hM => ?_⟩
   ·have n1 : i ≠ s.next := by omega
    have n3 : i ≠ id := fun e => absurd (hn 0 (by rw [e]; rfl)) (by decide)
    rw [Yl, if_neg n1, if_neg n3, ← qS]
   ·match i, hk with
    | 0, hk =>
     cases hk
     rw [Yl, xZ hs.w, if_pos rfl, if_neg (by have := hs.hi; omega), if_pos rfl] at ho
     cases ho
     exact ⟨_, rfl, Qp k0 k1⟩
    | i + 1, hk => simp at hk
   ·simp only [yY, yX] at h1 h2
    have : i = 1 := by omega
    subst this
    rw [Yl] at ho
    simp only [yY, yX] at ho
    split at ho
    ·rw [if_pos (by omega)] at ho
     cases ho
     exact ⟨_, rfl, XI⟩
    ·cases ho
   ·match i, hk with
    | 0, hk =>
     cases hk
     show (mark s.wm id).testBit id = true
     simp only [mark]
     show (s.wm ||| 1 <<< id).testBit id = true
     simp [yC, y9]
    | i + 1, hk => simp at hk
  ·simp only [VRL] at hv ⊢
   obtain ⟨y, ys, rfl, q1, q2⟩ := hv
   exact ⟨y, ys, rfl, q1, by rw [he]; exact qU q2⟩
 ·cases hg
theorem zwT {f : Nat} (hO : O f = some (Zw tw tb enc Pre F)) (inj : ∀ x y, enc x = enc y → x = y) (x : α) (disp : Bool) (hp : Pre x disp) (l : List (Nat × Option AObj)) (n m : Nat) (md : Bool) (id : Nat) (r : List AV) (hr : enc x = wkL r) (hi : id < n)
  (hw : getA l id = some (.row tw [.nilp, .nils, .bool disp] false false)) :
  (evW E O).call f (.ptr id 0 :: r) (KL l n m md [] none) = some (.tup [], KL ((n, some (.row tb (xo (F x disp)) true false)) :: (id, some (.row tw [.ptr id 0, .sl n 0 (F x disp).length (.opn 1), .bool disp] false false)) :: l) (n + 1) (mark m id) md [] none) := by
 rw [xC hO, zti inj (x := x) (disp := disp) (id := id) ⟨⟨r, rfl, hr⟩, hi, by rw [w8]; exact hw, hp⟩]
 rfl
end
theorem SC.up1g {f : Nat} {args0 args : List AV} {e : Nat} {cells : List AV} {b b' : Bool} (h : SC P w0 f args0 (H [some (.row e cells false false)] 0 b) v (H [some (.row e cells false false)] 0 b'))
  (hp2 : xz cells = true) (hp4 : xG v = true) (ha : ∀ (φ : Phi) (B : Blk) (xs : List Value), φ id = some B → VRL φ args xs → VRL (φ.one B) args0 xs) (hs : s.get id = some (.row e cells false false)) : SC P w0 f args s v s := by
 refine ⟨h.1, fun φ w xs rl hwf hf hx F k hF => ?_⟩
 obtain ⟨B, hB, ht⟩ := rl.obj id _ hs
 have hnew := rl.new hs hB rfl
 have g0 : ∀ i o, (H [some (.row e cells false false)] 0 b).get i = some o → i = 0 ∧ o = .row e cells false false := fun i o ho => by
  rw [Xx] at ho
  cases i with
  | zero => simp [getO] at ho; exact ⟨rfl, ho.symm⟩
  | succ i => simp [getO] at ho
 have r0 : Rel P w0 (φ.one B) (H [some (.row e cells false false)] 0 b).get w := by
  refine ⟨rl.base, fun i o ho => ?_, fun i B' hB' => ?_, fun i o B' ho hB' hlt => ?_, fun i j o o' B1 B2 h1 h2 _ _ _ => .inl ?_, rl.frz, fun i o B' ho hB' => ?_⟩
  ·obtain ⟨rfl, rfl⟩ := g0 i o ho
   refine ⟨B, Phi.one_0 φ B, ?_⟩
   simp only [ObjRel] at ht ⊢
   obtain ⟨c, fr, h1, h2, h3, h4, h5, h6⟩ := ht
   exact ⟨c, fr, h1, h2, h3, h4, VRL.pure (φ := φ) (φ' := φ.one B) (fun _ _ _ t => t) _ _ hp2 h5, h6⟩
  ·have hB2 : (if i = 0 then some B else none) = some B' := hB'
   by_cases hi : i = 0
   ·rw [if_pos hi] at hB2; cases hB2; exact rl.rng id B hB
   ·rw [if_neg hi] at hB2; cases hB2
  ·obtain ⟨rfl, rfl⟩ := g0 i o ho
   have hB2 : (if (0 : Nat) = 0 then some B else none) = some B' := hB'
   rw [if_pos rfl] at hB2; cases hB2; omega
  ·exact (g0 i o h1).1.trans (g0 j o' h2).1.symm
  ·obtain ⟨rfl, rfl⟩ := g0 i o ho
   have hB2 : (if (0 : Nat) = 0 then some B else none) = some B' := hB'
   rw [if_pos rfl] at hB2; cases hB2; exact fun i => (rl.sep id _ B hs hB : ∀ i, φ.z B.b i = none) i
 have hx0 := ha φ B xs hB hx
 have hcall := h.2 _ w xs r0 (H_wf _ _ _) (fun i hi => Phi.one_s φ B (by have : 1 ≤ i := hi; omega)) hx0 F k hF
 refine CallsIn.mono hcall ?_
 rintro e1 w1 ⟨φ1, x, rfl, k1, k2⟩
 have hfrm : ∀ b, b < w.heap.size → w1.heap[b]? = w.heap[b]? := fun b hb => k1.frame b hb fun i o B' ho hB' hbe => by
  show (0 : Nat).testBit i = false
  simp
 have hz : ∀ b i u, φ1.z b i = some u → φ.z b i = some u ∨ w.heap.size ≤ b := fun b i u hu => by
  rcases k1.zown b i u hu with h1 | h1 | ⟨id0, o0, B0, q1, q2, q3, q4⟩
  ·exact .inl h1
  ·exact .inr h1
  ·have : (0 : Nat).testBit id0 = true := q4
   simp at this
 have hsub : Sub φ (φ.zset φ1.z) := ⟨fun _ _ h => h, k1.zsub⟩
 refine ⟨φ.zset φ1.z, x, rfl, ⟨Ext.refl _, ⟨k1.rel.base, fun id o ho => ?_, fun id B hB => ?_, rl.old, rl.inj, k1.rel.frz, fun id o B ho hB => ?_⟩, fun _ _ => rfl, k1.size, fun b hlt _ => hfrm b hlt, (fun id _ h1 h2 => absurd h2 (by omega)), k1.zsub, fun b i u hu => ?_⟩, VR.pure (φ := φ1) (φ' := φ.zset φ1.z) (fun _ _ _ h => h) _ _ hp4 k2⟩
 ·obtain ⟨B, hB, t⟩ := rl.obj id o ho
  exact ⟨B, hB, t.keep (φ := φ) (φ' := φ.zset φ1.z) ⟨fun _ _ h => h, k1.zsub⟩ (hfrm _ (rl.rng id B hB))⟩
 ·have hB' : φ id = some B := hB
  have h1 := rl.rng id B hB'
  have h2 := k1.size
  omega
 ·refine (rl.sep id o B ho hB).congr fun i => ?_
  have hB' : φ id = some B := hB
  show φ1.z B.b i = φ.z B.b i
  cases h1 : φ1.z B.b i with
  | none =>
   cases h2 : φ.z B.b i with
   | none => rfl
   | some u => have := k1.zsub B.b i u h2; rw [h1] at this; cases this
  | some u =>
   rcases hz _ _ _ h1 with h2 | h2
   ·exact h2.symm
   ·have := rl.rng id B hB'; omega
 ·rcases hz b i u hu with h1 | h1
  ·exact .inl h1
  ·exact .inr (.inl h1)
def gV (id esz : Nat) : Nat → List AV → AV
 | 0, _ => .nils
 | k + 1, cs => .gr id esz (k + 1) cs
structure IsG {α : Type} (t esz : Nat) (enc : α → List AV) (Pre : α → Nat → List AV → Prop) (args : List AV) (s : St) (x : α) (k : Nat) (cs : List AV) (id : Nat) : Prop where
 a : ∃ r, args = r ++ [gV id esz k cs] ∧ enc x = wkL r
 z : k = 0 → id = 0 ∧ cs = []
 b : k ≠ 0 → id < s.next ∧ s.get id = some (.app t cs)
 p : Pre x k cs
open Classical in
section
variable {α : Type} {t esz : Nat} {enc : α → List AV} {Pre : α → Nat → List AV → Prop} {F : α → Nat × List AV}
end
section
variable {C : Cx} {E : Env} {O : Orc} {c : St} {M : Nat} {ia ib ic : ICode} {fr fr' fr1 : Fr} {s s' s1 s2 : St} {Q : Res → Fr → St → Prop} {res : Res}
theorem Is.z (k : Is C E O c M) {Z : Prop} (q : Z) (h : evC E (evW E O) none ic fr s = some (res, fr', s') := by (simp (disch := first | exact dis | fail) only [go_sem, seval, -Int.reduceOfNat, -Int.reduceNegSucc, *]; exact rfl)) (h2 : Q res fr' s' = Z := by (try simp only [xA, xX, Cut, if_true, ↓reduceIte]); first | done | exact rfl) : Tri C ic fr s Q :=
 k.eval h (h2 ▸ q)
theorem Is.q (k : Is C E O c M) {Z : Prop} (q : Z) (h : evC E (evW E O) none ia fr s = some (res, fr', s') := by (simp (disch := first | exact dis | fail) only [go_sem, seval, -Int.reduceOfNat, -Int.reduceNegSucc, *]; exact rfl)) (h2 : xA (fun f t => Tri C ib f t Q) Q res fr' s' = Z := by (try simp only [xA, xX, Cut, if_true, ↓reduceIte]); first | done | exact rfl) : Tri C (.seq ia ib) fr s Q :=
 wu (k.eval h (h2 ▸ q))
theorem Is.g (k : Is C E O c M) (keep live : List Nat) (h : gcF false c M keep live true fr s = some (fr1, s1) := by (simp (disch := first | exact dis | fail) only [go_sem, seval, -Int.reduceOfNat, -Int.reduceNegSucc, *] <;> exact rfl)) : Gc C fr s fr1 s1 := k.gcs h
end
theorem fin {c : St} {M : Nat} {res : List RV} {c' : St} {r : Res} {fr : Fr} {s2 : St} {vs : List AV} {v0 : AV} (h0 : r = .norm ∨ r = .ret := by exact Or.inr rfl) (h1 : x9 s fr.df = some s2 := by (simp (disch := first | exact dis | fail) only [go_sem, seval, -Int.reduceOfNat, -Int.reduceNegSucc, *] <;> exact rfl)) (h2 : resV E.globs fr.tm s2 res = some vs := by (simp (disch := first | exact dis | fail) only [go_sem, seval, -Int.reduceOfNat, -Int.reduceNegSucc, *] <;> exact rfl)) (h3 : frzA c.next (qi vs) = some v0 := by (simp (disch := first | exact dis | fail) only [go_sem, seval, -Int.reduceOfNat, -Int.reduceNegSucc, *] <;> exact rfl)) (h4 : wkV v0 = v := by (simp (disch := first | exact dis | fail) only [go_sem, seval, -Int.reduceOfNat, -Int.reduceNegSucc, *] <;> exact rfl)) (h5 : gcF true c M [] [] c.md { tm := tmL [], df := [] } s2 = some ({ tm := tmL [], df := [] }, c') := by (simp (disch := first | exact dis | fail) only [go_sem, seval, -Int.reduceOfNat, -Int.reduceNegSucc, *] <;> exact rfl)) : Fin E c M res v c' r fr s :=
 w7 h0 h1 h2 h3 h4 h5
theorem finK {c : St} {M : Nat} {res : List RV} {c' : St} {r : Res} {fr : Fr} {s2 : St} {vs : List AV} {v0 : AV} (keep : List Nat) (h0 : r = .norm ∨ r = .ret := by exact Or.inr rfl) (h1 : x9 s fr.df = some s2 := by (simp (disch := first | exact dis | fail) only [go_sem, seval, -Int.reduceOfNat, -Int.reduceNegSucc, *] <;> exact rfl)) (h2 : resV E.globs fr.tm s2 res = some vs := by (simp (disch := first | exact dis | fail) only [go_sem, seval, -Int.reduceOfNat, -Int.reduceNegSucc, *] <;> exact rfl)) (h3 : frzA c.next (qi vs) = some v0 := by (simp (disch := first | exact dis | fail) only [go_sem, seval, -Int.reduceOfNat, -Int.reduceNegSucc, *] <;> exact rfl)) (h4 : wkV v0 = v := by (simp (disch := first | exact dis | fail) only [go_sem, seval, -Int.reduceOfNat, -Int.reduceNegSucc, *] <;> exact rfl)) (h5 : gcF true c M keep [] c.md { tm := tmL [], df := [] } s2 = some ({ tm := tmL [], df := [] }, c') := by (simp (disch := first | exact dis | fail) only [go_sem, seval, -Int.reduceOfNat, -Int.reduceNegSucc, *] <;> exact rfl)) : ∃ keep, FinK E c M keep res v c' r fr s :=
 wq keep h0 h1 h2 h3 h4 h5
end Go.Proofs.YthcmnajcjapjbaaGreatDoor.Ev

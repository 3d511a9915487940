/- Part of a verified evaluator of the model's code, generic over the program: a run of the evaluator that answers shows what the model's run answers. No conditions of its own. -/
import Derived.Test.YthcmnajcjapjbaaGreatDoorEvF
import Derived.Attr
import Derived.ChangeArms
import Derived.DataReads
set_option linter.unusedSimpArgs false
set_option linter.unusedVariables false
set_option linter.defProp false
namespace Go.Proofs.YthcmnajcjapjbaaGreatDoor.Ev
noncomputable def osA : List (Nat × Option AObj) → Trie AObj
 | [] => .leaf
 | p :: r => match p.2 with
  | some o => (osA r).set p.1 o
  | none => (osA r).del p.1
noncomputable def KL (l : List (Nat × Option AObj)) (n m : Nat) (b : Bool) (hd : List (Nat × Nat)) (on : Option (Nat × List Nat)) : St := { objs := osA l, next := n, wm := m, hide := hd, only := on, md := b }
def getA : List (Nat × Option AObj) → Nat → Option AObj
 | [], _ => none
 | p :: r, i => if i = p.1 then p.2 else getA r i
theorem lA : ∀ (l : List (Nat × Option AObj)) (i : Nat), (osA l).get i = getA l i
 | [], i => rfl
 | (j, o) :: r, i => by
  cases o with
  | some o => simp only [osA, getA]; rw [Trie.get_set, lA r i]
  | none => simp only [osA, getA]; rw [Trie.get_del, lA r i]
theorem Wh (i : Nat) : getA [] i = none := rfl
theorem vM (j : Nat) (o : Option AObj) (r : List (Nat × Option AObj)) (i : Nat) : getA ((j, o) :: r) i = if i = j then o else getA r i := rfl
def jr : Nat → List (Option AObj) → List (Nat × Option AObj)
 | _, [] => []
 | n, o :: r => match o with
  | some o => (n, some o) :: jr (n + 1) r
  | none => jr (n + 1) r
theorem Jy (n : Nat) : jr n [] = [] := rfl
theorem VD (n : Nat) (o : AObj) (r : List (Option AObj)) : jr n (some o :: r) = (n, some o) :: jr (n + 1) r := rfl
theorem Vn (n : Nat) (r : List (Option AObj)) : jr n (none :: r) = jr (n + 1) r := rfl
theorem Xo : ∀ (l : List (Option AObj)) (n : Nat), osT n l = osA (jr n l)
 | [], n => rfl
 | o :: r, n => by cases o <;> simp only [osT, jr, osA] <;> rw [Xo r]
theorem H_eq (os : List (Option AObj)) (m : Nat) (b : Bool) : H os m b = KL (jr 0 os) os.length m b [] none := by
 unfold H KL; rw [Xo]
theorem zxc (l : List (Nat × Option AObj)) (n m : Nat) (b : Bool) (hd : List (Nat × Nat)) (on : Option (Nat × List Nat)) : (KL l n m b hd on).next = n := rfl
theorem zvJ (l : List (Nat × Option AObj)) (n m : Nat) (b : Bool) (hd : List (Nat × Nat)) (on : Option (Nat × List Nat)) : (KL l n m b hd on).wm = m := rfl
theorem WK (l : List (Nat × Option AObj)) (n m : Nat) (b : Bool) (hd : List (Nat × Nat)) (on : Option (Nat × List Nat)) : (KL l n m b hd on).md = b := rfl
theorem xj (l : List (Nat × Option AObj)) (n m : Nat) (b : Bool) (i : Nat) : (KL l n m b [] none).get i = getA l i := by
 rw [← lA]; rfl
theorem V9 (l : List (Nat × Option AObj)) (n m : Nat) (b : Bool) (hd : List (Nat × Nat)) (k : Nat) (ks : List Nat) (i : Nat) : (KL l n m b hd (some (k, ks))).get i = bif hid hd i then none else bif Nat.ble k i then getA l i else bif memN i ks then getA l i else none := by
 rw [← lA]; rfl
theorem zwV (l : List (Nat × Option AObj)) (n m : Nat) (b : Bool) (hd : List (Nat × Nat)) (on : Option (Nat × List Nat)) (i : Nat) (o : AObj) : (KL l n m b hd on).put i o = KL ((i, some o) :: l) n (mark m i) b hd on := rfl
theorem zwS (l : List (Nat × Option AObj)) (n m : Nat) (b : Bool) (hd : List (Nat × Nat)) (on : Option (Nat × List Nat)) (i : Nat) : (KL l n m b hd on).del i = KL ((i, none) :: l) n (mark m i) b hd on := rfl
theorem Ld (l : List (Nat × Option AObj)) (n m : Nat) (b : Bool) (hd : List (Nat × Nat)) (on : Option (Nat × List Nat)) (o : AObj) : (KL l n m b hd on).alloc o = KL ((n, some o) :: l) (n + 1) m b hd on := rfl
theorem zzF (m i : Nat) : mark m i = m ||| 1 <<< i := rfl
def zwj (x : Option (Trie AV × St)) (k : Trie AV → St → Option (Trie AV × St)) : Option (Trie AV × St) :=
 match x with
 | some p => k p.1 p.2
 | none => none
theorem VC (tm : Trie AV) (s : St) (k : Trie AV → St → Option (Trie AV × St)) : zwj (some (tm, s)) k = k tm s := rfl
theorem zxt (G : Env) (S : Self) (tm : Trie AV) (s : St) : evS G S [] tm s = some (tm, s) := rfl
theorem P2 (G : Env) (S : Self) (o : SOper) (r : List SOper) (tm : Trie AV) (s : St) : evS G S (o :: r) tm s = zwj (qH G S o tm s) (evS G S r) := rfl
theorem zxp (G : Env) (S : Self) (d : Option Nat) (op : IOp) (tm : Trie AV) (s : St) : qH G S ⟨d, op, none⟩ tm s = stS tm d (evOp G S op tm s) := rfl
noncomputable def HT (G : Env) (S : Self) (d : Option Nat) (op : IOp) (tm : Trie AV) (s : St) : Option Bool → Option (Trie AV × St)
 | some true => stS tm d (evOp G S op tm s)
 | some false => some (yP tm d xe, s)
 | none => none
def Yq (w : Bool) : Option AV → Option Bool
 | some (.bool b) => some (b == w)
 | some _ => some false
 | none => none
theorem zxX (G : Env) (S : Self) (d : Option Nat) (op : IOp) (i : Nat) (w : Bool) (tm : Trie AV) (s : St) : qH G S ⟨d, op, some (i, w)⟩ tm s = HT G S d op tm s (Yq w (tm.get i)) := by
 unfold qH qq
 simp only
 generalize tm.get i = x
 cases x with
 | none => rfl
 | some v => cases v <;> first | rfl | (rename_i b; cases b <;> cases w <;> rfl)
theorem zxh (b : Bool) : Yq true (some (.bool b)) = some b := by cases b <;> rfl
theorem zyZ (b : Bool) : Yq false (some (.bool b)) = some (!b) := by cases b <;> rfl
theorem zy7 (w : Bool) (l : List AV) : Yq w (some (.tup l)) = some false := rfl
theorem KB : xe = .tup [] := rfl
theorem zxT (G : Env) (S : Self) (d : Option Nat) (op : IOp) (tm : Trie AV) (s : St) : HT G S d op tm s (some true) = stS tm d (evOp G S op tm s) := rfl
theorem zzI (G : Env) (S : Self) (d : Option Nat) (op : IOp) (tm : Trie AV) (s : St) : HT G S d op tm s (some false) = some (yP tm d xe, s) := rfl
theorem H3 (tm : Trie AV) (d : Option Nat) (v : AV) (s : St) : stS tm d (some (v, s)) = some (yP tm d v, s) := rfl
theorem WO (l : List (Nat × AV)) (i : Nat) (v : AV) : yP (tmL l) (some i) v = tmL ((i, v) :: l) := rfl
theorem WN (tm : Trie AV) (v : AV) : yP tm none v = tm := rfl
theorem WZ (tm : Trie AV) (i : Nat) : yN tm i [] = tm := rfl
theorem YZ (l : List (Nat × AV)) (i : Nat) (v : AV) (r : List AV) : yN (tmL l) i (v :: r) = yN (tmL ((i, v) :: l)) (i + 1) r := rfl
theorem Kk (tm : Trie AV) : v5 tm [] [] = some tm := rfl
theorem VI (l : List (Nat × AV)) (p : Nat) (ps : List Nat) (v : AV) (vs : List AV) : v5 (tmL l) (p :: ps) (v :: vs) = v5 (tmL ((p, v) :: l)) ps vs := rfl
def zwf (x : Option (List LogE × Trie AV × St)) (k : List LogE → Trie AV → St → Option (Trie AV × St)) : Option (Trie AV × St) :=
 match x with
 | some p => k p.1 p.2.1 p.2.2
 | none => none
theorem Q2 (log : List LogE) (tm : Trie AV) (s : St) (k : List LogE → Trie AV → St → Option (Trie AV × St)) : zwf (some (log, tm, s)) k = k log tm s := rfl
theorem LO (E : Env) (S : Self) (ops : List DOper) (tm : Trie AV) (df : List Nat) (l : List (Nat × Option AObj)) (n m : Nat) (b : Bool) (hd : List (Nat × Nat)) : ki E S ops ⟨tm, df⟩ (KL l n m b hd none) = xR df (evD E S ops 0 [] tm (KL l n m b hd none)) := rfl
theorem zxN (G : Env) (S : Self) (i : Nat) (log : List LogE) (tm : Trie AV) (s : St) : evD G S [] i log tm s = some (tm, s) := rfl
theorem H2 (G : Env) (S : Self) (o : DOper) (r : List DOper) (i : Nat) (log : List LogE) (tm : Trie AV) (s : St) : evD G S (o :: r) i log tm s = zwf (qS G S o i log tm s) (evD G S r (i + 1)) := rfl
noncomputable def opD (G : Env) (S : Self) (d : Option Nat) (op : IOp) (deps i : Nat) (log : List LogE) (tm : Trie AV) (l : List (Nat × Option AObj)) (n m : Nat) (b : Bool) (hd : List (Nat × Nat)) (on : Option (Nat × List Nat)) (tch : Option (List Nat)) : Option (List LogE × Trie AV × St) :=
 endS2 d deps i log tm n m hd on tch (evOp G S op tm (KL l n 0 b (yE deps log hd) (onOf n tch)))
 where
 onOf (n : Nat) : Option (List Nat) → Option (Nat × List Nat)
  | some l => some (n, l)
  | none => none
 endS2 (d : Option Nat) (deps i : Nat) (log : List LogE) (tm : Trie AV) (n m : Nat) (hd : List (Nat × Nat)) (on : Option (Nat × List Nat)) (tch : Option (List Nat)) : Option (AV × St) → Option (List LogE × Trie AV × St)
  | some p => bif xK deps tch (z3 p.2.wm n) log then some ({ idx := i, lo := n, hi := p.2.next, tch := tch, wm := z3 p.2.wm n } :: log, yP tm d p.1, { p.2 with hide := hd, only := on, wm := Nat.lor m p.2.wm }) else none
  | none => none
theorem zve (G : Env) (S : Self) (d : Option Nat) (op : IOp) (deps i : Nat) (log : List LogE) (tm : Trie AV) (l : List (Nat × Option AObj)) (n m : Nat) (b : Bool) (hd : List (Nat × Nat)) (on : Option (Nat × List Nat)) (tch : Option (List Nat)) :
  opD G S d op deps i log tm l n m b hd on tch = opD.endS2 d deps i log tm n m hd on tch (evOp G S op tm (KL l n 0 b (yE deps log hd) (opD.onOf n tch))) := rfl
theorem Kq (n : Nat) (l : List Nat) : opD.onOf n (some l) = some (n, l) := rfl
theorem KF (n : Nat) : opD.onOf n none = none := rfl
theorem Hr (d : Option Nat) (deps i : Nat) (log : List LogE) (tm : Trie AV) (n m : Nat) (hd : List (Nat × Nat)) (on : Option (Nat × List Nat)) (tch : Option (List Nat)) (v : AV) (l' : List (Nat × Option AObj)) (n' m' : Nat) (b' : Bool) (hd' : List (Nat × Nat)) (on' : Option (Nat × List Nat)) :
  opD.endS2 d deps i log tm n m hd on tch (some (v, KL l' n' m' b' hd' on')) = bif xK deps tch (z3 m' n) log then some (⟨i, n, n', tch, z3 m' n⟩ :: log, yP tm d v, KL l' n' (m ||| m') b' hd on) else none := rfl
theorem zz7 (G : Env) (S : Self) (d : Option Nat) (op : IOp) (deps i : Nat) (log : List LogE) (tm : Trie AV) (l : List (Nat × Option AObj)) (n m : Nat) (b : Bool) (hd : List (Nat × Nat)) (on : Option (Nat × List Nat)) :
  qS G S ⟨⟨d, op, none⟩, deps⟩ i log tm (KL l n m b hd on) = opD G S d op deps i log tm l n m b hd on (yA op tm) := by
 simp only [qS, qq, endD, begD, opD]
 cases yA op tm <;> rfl
noncomputable def Y2 (G : Env) (S : Self) (d : Option Nat) (op : IOp) (deps i : Nat) (log : List LogE) (tm : Trie AV) (l : List (Nat × Option AObj)) (n m : Nat) (b : Bool) (hd : List (Nat × Nat)) (on : Option (Nat × List Nat)) : Option Bool → Option (List LogE × Trie AV × St)
 | some true => opD G S d op deps i log tm l n m b hd on (yA op tm)
 | some false => some (log, yP tm d xe, KL l n m b hd on)
 | none => none
theorem zyO (G : Env) (S : Self) (d : Option Nat) (op : IOp) (j : Nat) (w : Bool) (deps i : Nat) (log : List LogE) (tm : Trie AV) (l : List (Nat × Option AObj)) (n m : Nat) (b : Bool) (hd : List (Nat × Nat)) (on : Option (Nat × List Nat)) :
  qS G S ⟨⟨d, op, some (j, w)⟩, deps⟩ i log tm (KL l n m b hd on) = Y2 G S d op deps i log tm l n m b hd on (Yq w (tm.get j)) := by
 unfold qS qq
 simp only
 generalize tm.get j = x
 cases x with
 | none => rfl
 | some v =>
  cases v <;> first | rfl | skip
  rename_i c
  cases c <;> cases w <;> first | rfl | (simp only [Y2, Yq, endD, begD, opD]; cases yA op tm <;> rfl)
theorem G5 (G : Env) (S : Self) (d : Option Nat) (op : IOp) (deps i : Nat) (log : List LogE) (tm : Trie AV) (l : List (Nat × Option AObj)) (n m : Nat) (b : Bool) (hd : List (Nat × Nat)) (on : Option (Nat × List Nat)) : Y2 G S d op deps i log tm l n m b hd on (some true) = opD G S d op deps i log tm l n m b hd on (yA op tm) := rfl
theorem zze (G : Env) (S : Self) (d : Option Nat) (op : IOp) (deps i : Nat) (log : List LogE) (tm : Trie AV) (l : List (Nat × Option AObj)) (n m : Nat) (b : Bool) (hd : List (Nat × Nat)) (on : Option (Nat × List Nat)) : Y2 G S d op deps i log tm l n m b hd on (some false) = some (log, yP tm d xe, KL l n m b hd on) := rfl
theorem YQ (deps : Nat) (h : List (Nat × Nat)) : yE deps [] h = h := rfl
theorem Zl (deps : Nat) (i lo hi : Nat) (tch : Option (List Nat)) (wm : Nat) (r : List LogE) (h : List (Nat × Nat)) : yE deps (⟨i, lo, hi, tch, wm⟩ :: r) h = bif Nat.beq lo hi || deps.testBit i then yE deps r h else (lo, hi) :: yE deps r h := rfl
theorem VJ (deps : Nat) (tch : Option (List Nat)) (wm : Nat) : xK deps tch wm [] = true := rfl
theorem Wv (deps : Nat) (tch : Option (List Nat)) (wm : Nat) (i lo hi : Nat) (tch' : Option (List Nat)) (wm' : Nat) (r : List LogE) :
  xK deps tch wm (⟨i, lo, hi, tch', wm'⟩ :: r) = bif deps.testBit i then xK deps tch wm r else bif (Nat.beq wm 0 || offMask wm tch') && (Nat.beq wm' 0 || offMask wm' tch) then xK deps tch wm r else false := rfl
theorem YG (m : Nat) : offMask m none = false := rfl
theorem WS (m : Nat) : offMask m (some []) = true := rfl
theorem Xd (m a : Nat) (l : List Nat) : offMask m (some (a :: l)) = bif m.testBit a then false else offMask m (some l) := rfl
theorem QA (m n : Nat) : z3 m n = m % 2 ^ n := rfl
theorem Xx (m i : Nat) : m.testBit i = !(Nat.beq (m / 2 ^ i % 2) 0) := by
 rw [Nat.testBit_eq_decide_div_mod_eq]
 rcases Nat.mod_two_eq_zero_or_one (m / 2 ^ i) with h | h <;> rw [h] <;> rfl
theorem Po (tm : Trie AV) (x : Opd) : yA (.mv x) tm = some [] := rfl
theorem Jb (tm : Trie AV) (x : Opd) : yA (.nck x) tm = some [] := rfl
theorem Lo (tm : Trie AV) (n : Nat) (x : Opd) : yA (.fa n x) tm = some [] := rfl
theorem J1 (tm : Trie AV) (op : BinOp) (x y : Opd) : yA (.bin op x y) tm = some [] := rfl
theorem Px (tm : Trie AV) (op : UnOp) (x : Opd) : yA (.un op x) tm = some [] := rfl
theorem Qy (tm : Trie AV) (a b c : Opd) : yA (.pick a b c) tm = some [] := rfl
theorem Hc (tm : Trie AV) (x : Opd) (i : Nat) : yA (.ex x i) tm = some [] := rfl
theorem PR (tm : Trie AV) (e : Nat) (x y : Opd) : yA (.ia e x y) tm = some [] := rfl
theorem KA (tm : Trie AV) (e : Nat) (x : Opd) (a b c : Option Opd) : yA (.slv e x a b c) tm = some [] := rfl
theorem Kt (tm : Trie AV) (x : Opd) : yA (.usd x) tm = some [] := rfl
theorem GX (tm : Trie AV) (x : Opd) : yA (.ld x) tm = tPtr (x.ev tm) := rfl
theorem U1 (tm : Trie AV) (n : Nat) (x : Opd) : yA (.ldn n x) tm = tPtr (x.ev tm) := rfl
theorem P9 (tm : Trie AV) (n : Nat) (x y : Opd) : yA (.st n x y) tm = tPtr (x.ev tm) := rfl
theorem U0 (tm : Trie AV) (k : LK) (x : Opd) : yA (.len k x) tm = tPtr (x.ev tm) := rfl
theorem GA (tm : Trie AV) (x : Opd) : yA (.cbs x) tm = tPtr (x.ev tm) := rfl
theorem Gl (tm : Trie AV) (e : Nat) (x y : Opd) : yA (.ust e x y) tm = tPtr (x.ev tm) := rfl
theorem VF (tm : Trie AV) (f : Nat) (l : List Opd) : yA (.call f l) tm = none := rfl
theorem HJ (s : List Nat) : tPtr (some (.str s)) = some [] := rfl
theorem U4  : tPtr (some (.nilp)) = some [] := rfl
theorem Ge  : tPtr (some (.nils)) = some [] := rfl
theorem Hy (n : Nat) (e : Bool) (l : List AV) : tPtr (some (.lst n e l)) = some [] := rfl
theorem zxo (l : List AV) : tPtr (some (.vp l)) = some [] := rfl
theorem GY (i o : Nat) : tPtr (some (.ptr i o)) = some [i] := rfl
theorem zyK (i o n : Nat) (c : Cap) : tPtr (some (.sl i o n c)) = some [i] := rfl
theorem zxU (G : Env) (S : Self) (tm : Trie AV) (s : St) (x : Opd) : evOp G S (.mv x) tm s = v1 tm s x some := rfl
theorem K2 (G : Env) (S : Self) (tm : Trie AV) (s : St) (c : Opd) (a : Opd) (b : Opd) : evOp G S (.pick c a b) tm s = ret1 s (ZM (c.ev tm) (a.ev tm) (b.ev tm)) := rfl
theorem Q0 (G : Env) (S : Self) (tm : Trie AV) (s : St) (e : Nat) (zs : List AV) : evOp G S (.alloc e zs) tm s = uH s e zs := rfl
theorem PT (G : Env) (S : Self) (tm : Trie AV) (s : St) (e : Nat) (x : Opd) : evOp G S (.box e x) tm s = o1 tm x (oBox s e) := rfl
theorem Qu (G : Env) (S : Self) (tm : Trie AV) (s : St) (zs : List AV) (ps : List (Nat × Nat × Opd)) : evOp G S (.build zs ps) tm s = ret1 s (aggO (wD zs tm ps)) := rfl
theorem HS (G : Env) (S : Self) (tm : Trie AV) (s : St) (e : Nat) (zs : List AV) (len : Nat) (ps : List (Nat × Nat × Opd)) : evOp G S (.bsl e zs len ps) tm s = oBsl s e len (wD zs tm ps) := rfl
theorem zyq (G : Env) (S : Self) (tm : Trie AV) (s : St) (x : Opd) : evOp G S (.ld x) tm s = v1 tm s x (vLd G.globs s) := rfl
theorem PL (G : Env) (S : Self) (tm : Trie AV) (s : St) (n : Nat) (x : Opd) : evOp G S (.ldn n x) tm s = v1 tm s x (vLdn G.globs s n) := rfl
theorem zzP (G : Env) (S : Self) (tm : Trie AV) (s : St) (n : Nat) (x : Opd) (v : Opd) : evOp G S (.st n x v) tm s = o2 tm x v (oSt s n) := rfl
theorem Pe (G : Env) (S : Self) (tm : Trie AV) (s : St) (x : Opd) : evOp G S (.nck x) tm s = v1 tm s x vNck := rfl
theorem Pt (G : Env) (S : Self) (tm : Trie AV) (s : St) (op : BinOp) (x : Opd) (y : Opd) : evOp G S (.bin op x y) tm s = v2 tm s x y (vBin op) := rfl
theorem He (G : Env) (S : Self) (tm : Trie AV) (s : St) (k : EqK) (neg : Bool) (x : Opd) (y : Opd) : evOp G S (.eqk k neg x y) tm s = v2 tm s x y (vEqk k neg) := rfl
theorem zyl (G : Env) (S : Self) (tm : Trie AV) (s : St) (op : UnOp) (x : Opd) : evOp G S (.un op x) tm s = v1 tm s x (vUn op) := rfl
theorem zxO (G : Env) (S : Self) (tm : Trie AV) (s : St) (k : IntKind) (x : Opd) : evOp G S (.ci k x) tm s = v1 tm s x (vCi k) := rfl
theorem H9 (G : Env) (S : Self) (tm : Trie AV) (s : St) (e : Nat) (x : Opd) : evOp G S (.csb e x) tm s = o1 tm x (oCsb s e) := rfl
theorem HH (G : Env) (S : Self) (tm : Trie AV) (s : St) (x : Opd) : evOp G S (.cup x) tm s = v1 tm s x (vCup s) := rfl
theorem Lm (G : Env) (S : Self) (tm : Trie AV) (s : St) (L : List (Nat × Nat)) (x : Opd) : evOp G S (.cpu L x) tm s = v1 tm s x (vCpu s L) := rfl
theorem Lf (G : Env) (S : Self) (tm : Trie AV) (s : St) (x : Opd) : evOp G S (.cbs x) tm s = v1 tm s x (vCbs s) := rfl
theorem LZ (G : Env) (S : Self) (tm : Trie AV) (s : St) (x : Opd) : evOp G S (.cis x) tm s = v1 tm s x vCis := rfl
theorem H4 (G : Env) (S : Self) (tm : Trie AV) (s : St) (f : Nat) (fst : List Opd) (cap : List Opd) : evOp G S (.mfn f fst cap) tm s = vLL tm s fst cap (fun us vs => some (.fn f us vs)) := rfl
theorem Hv (G : Env) (S : Self) (tm : Trie AV) (s : St) (x : Opd) (lo : Option Opd) (hi : Option Opd) : evOp G S (.sls x lo hi) tm s = vs3 tm s x lo hi vSls := rfl
theorem LI (G : Env) (S : Self) (tm : Trie AV) (s : St) (esz : Nat) (x : Opd) (lo : Option Opd) (hi : Option Opd) (mx : Option Opd) : evOp G S (.slv esz x lo hi mx) tm s = vs4 tm s x lo hi mx (vSlv esz) := rfl
theorem zxl (G : Env) (S : Self) (tm : Trie AV) (s : St) (off : Nat) (x : Opd) : evOp G S (.fa off x) tm s = v1 tm s x (vFa off) := rfl
theorem zxm (G : Env) (S : Self) (tm : Trie AV) (s : St) (esz : Nat) (x : Opd) (i : Opd) : evOp G S (.ia esz x i) tm s = v2 tm s x i (vIa esz) := rfl
theorem P7 (G : Env) (S : Self) (tm : Trie AV) (s : St) (n : Nat) (esz : Nat) (x : Opd) (i : Opd) : evOp G S (.iaa n esz x i) tm s = v2 tm s x i (vIaa n esz) := rfl
theorem HX (G : Env) (S : Self) (tm : Trie AV) (s : St) (x : Opd) (i : Opd) : evOp G S (.ixs x i) tm s = v2 tm s x i vIxs := rfl
theorem zx0 (G : Env) (S : Self) (tm : Trie AV) (s : St) (x : Opd) : evOp G S (.rs x) tm s = o1 tm x (oRs s) := rfl
theorem zx2 (G : Env) (S : Self) (tm : Trie AV) (s : St) (it : Opd) : evOp G S (.ns it) tm s = o1 tm it (oNs s) := rfl
theorem zyM (G : Env) (S : Self) (tm : Trie AV) (s : St) (x : Opd) (i : Nat) : evOp G S (.ex x i) tm s = v1 tm s x (fun v => vEx v i) := rfl
theorem zzu (G : Env) (S : Self) (tm : Trie AV) (s : St) (k : LK) (x : Opd) : evOp G S (.len k x) tm s = v1 tm s x (vLen s k) := rfl
theorem HD (G : Env) (S : Self) (tm : Trie AV) (s : St) (e : Nat) (esz : Nat) (bytes : Nat) (x : Opd) (y : Opd) : evOp G S (.app e esz bytes x y) tm s = o2 tm x y (appV s e esz bytes) := rfl
theorem zxk (G : Env) (S : Self) (tm : Trie AV) (s : St) (xs : List Opd) : evOp G S (.mn xs) tm s = vL tm s xs (vMn false) := rfl
theorem G8 (G : Env) (S : Self) (tm : Trie AV) (s : St) (x : Opd) : evOp G S (.usd x) tm s = v1 tm s x vUsd := rfl
theorem H5 (G : Env) (S : Self) (tm : Trie AV) (s : St) (e : Nat) (x : Opd) (n : Opd) : evOp G S (.ust e x n) tm s = o2 tm x n (oUst s e) := rfl
theorem P3 (G : Env) (S : Self) (tm : Trie AV) (s : St) (x : Opd) : evOp G S (.nes x) tm s = v1 tm s x some := rfl
theorem GH (G : Env) (S : Self) (tm : Trie AV) (s : St) (f : Nat) (args : List Opd) : evOp G S (.call f args) tm s = evCl S f (evL tm args) s := rfl
theorem zyP (G : Env) (S : Self) (tm : Trie AV) (s : St) (x : Opd) (args : List Opd) : evOp G S (.cv x args) tm s = evCv S (x.ev tm) (evL tm args) s := rfl
theorem Qw (df : List Nat) (tm : Trie AV) (s : St) : xR df (some (tm, s)) = some (.norm, ⟨tm, df⟩, s) := rfl
theorem QM (k : Fr → St → Option (Res × Fr × St)) (fr : Fr) (s : St) : xZ k (some (.norm, fr, s)) = k fr s := rfl
theorem Q6 (k : Fr → St → Option (Res × Fr × St)) (i : Nat) (fr : Fr) (s : St) : xZ k (some (.exit i, fr, s)) = some (.exit i, fr, s) := rfl
theorem Jg (k : Fr → St → Option (Res × Fr × St)) (fr : Fr) (s : St) : xZ k (some (.ret, fr, s)) = some (.ret, fr, s) := rfl
theorem zzH (a b : Fr → St → Option (Res × Fr × St)) (fr : Fr) (s : St) : jy (some (.bool true)) a b fr s = a fr s := rfl
theorem zyA (a b : Fr → St → Option (Res × Fr × St)) (fr : Fr) (s : St) : jy (some (.bool false)) a b fr s = b fr s := rfl
theorem Wm (id : Nat) (p : Fr × St) : qo id (some (.norm, p)) = some (.norm, p) := rfl
theorem VA (id : Nat) (p : Fr × St) : qo id (some (.ret, p)) = some (.ret, p) := rfl
theorem X4 (id i : Nat) (p : Fr × St) : qo id (some (.exit i, p)) = if i = id then some (.norm, p) else some (.exit i, p) := by
 show (bif Nat.beq i id then some (Res.norm, p) else some (Res.exit i, p)) = _
 by_cases h : i = id
 ·rw [if_pos h, zw.2 h]; rfl
 ·rw [if_neg h]
  cases hb : Nat.beq i id with
  | true => exact absurd (zw.1 hb) h
  | false => rfl
theorem Lu (G : Env) (S : Self) (rd : Option Nat) (fr : Fr) (s : St) : evC G S rd .skip fr s = some (.norm, fr, s) := rfl
theorem zzU (G : Env) (S : Self) (rd : Option Nat) (ops : List SOper) (tm : Trie AV) (df : List Nat) (s : St) : evC G S rd (.reg ops) ⟨tm, df⟩ s = xR df (evS G S ops tm s) := rfl
theorem zzm (G : Env) (S : Self) (rd : Option Nat) (ops : List DOper) (fr : Fr) (s : St) : evC G S rd (.regd ops) fr s = ki G S ops fr s := rfl
theorem zyd (G : Env) (S : Self) (rd : Option Nat) (a b : ICode) (fr : Fr) (s : St) : evC G S rd (.seq a b) fr s = xZ (evC G S rd b) (evC G S rd a fr s) := rfl
theorem Lz (G : Env) (S : Self) (rd : Option Nat) (c : Opd) (a b : ICode) (tm : Trie AV) (df : List Nat) (s : St) : evC G S rd (.cond c a b) ⟨tm, df⟩ s = jy (c.ev tm) (evC G S rd a) (evC G S rd b) ⟨tm, df⟩ s := rfl
theorem K1 (G : Env) (S : Self) (rd : Option Nat) (id : Nat) (b : ICode) (fr : Fr) (s : St) : evC G S rd (.block id b) fr s = qo id (evC G S rd b fr s) := rfl
theorem Pq (G : Env) (S : Self) (rd : Option Nat) (id : Nat) (fr : Fr) (s : St) : evC G S rd (.exit id) fr s = some (.exit id, fr, s) := rfl
theorem zxR (G : Env) (S : Self) (rd : Option Nat) (fr : Fr) (s : St) : evC G S rd .ret fr s = some (.ret, fr, s) := rfl
theorem jb (E : Env) (O : Orc) (f : Nat) (a : List AV) (s : St) : (evW E O).call f a s = uB E O (evW E O) f a s := by
 cases h : uB E O (evW E O) f a s with
 | some r => exact zzz h
 | none =>
  cases h2 : (evW E O).call f a s with
  | none => rfl
  | some r =>
   obtain ⟨n, hn⟩ := yU (α := AV × St) h2
   cases n with
   | zero => cases hn
   | succ n =>
    have h3 : uB E O (evT E O n) f a s = some r := hn
    have h4 : LeS (evT E O n) (evW E O) := ⟨fun f a s r h => wj (fun n r h => (x8 E O n).call _ _ _ _ h) h, fun rd b fr s r h => wj (fun n r h => (x8 E O n).loop _ _ _ _ _ h) h, fun l a s r h => wj (fun n r h => (x8 E O n).round _ _ _ _ h) h⟩
    rw [(lN E O f a s).up _ _ h4 r h3] at h; cases h
theorem zJ {O : Orc} {f : Nat} {g : List AV → St → Option (AV × St)} (h : O f = some g) (E : Env) (a : List AV) (s : St) : (evW E O).call f a s = g a s := by
 rw [jb]; unfold uB; rw [h]
theorem zQ {E : Env} {O : Orc} {f : Nat} {F : IFunc} (h : O f = none) (hF : E.funs.get f = some F) (hp : E.pure f = true) (a : List AV) (l : List (Nat × Option AObj)) (n m : Nat) (b : Bool) (hd : List (Nat × Nat)) (on : Option (Nat × List Nat)) (ha : a.length ≤ F.ntmps) :
  (evW E O).call f a (KL l n m b hd on) = popR (KL l n m b hd on) (we E.globs F.res (evC E (evW E O) none F.body ⟨yN (tmL []) 0 a, []⟩ (KL l n 0 true hd on))) := by
 rw [jb]; unfold uB uw; rw [h, hF]
 simp only [ye, zL.2 ha, cond_true, hp]
 rfl
theorem vV {E : Env} {O : Orc} {f : Nat} {F : IFunc} (h : O f = none) (hF : E.funs.get f = some F) (hp : E.pure f = false) (a : List AV) (l : List (Nat × Option AObj)) (n m : Nat) (b : Bool) (hd : List (Nat × Nat)) (on : Option (Nat × List Nat)) (ha : a.length ≤ F.ntmps) :
  (evW E O).call f a (KL l n m b hd on) = mdR b (we E.globs F.res (evC E (evW E O) none F.body ⟨yN (tmL []) 0 a, []⟩ (KL l n m false hd on))) := by
 rw [jb]; unfold uB uw; rw [h, hF]
 simp only [ye, zL.2 ha, cond_true, hp, cond_false]
 rfl
theorem zzj (b : Bool) (v : AV) (l : List (Nat × Option AObj)) (n m : Nat) (b' : Bool) (hd : List (Nat × Nat)) (on : Option (Nat × List Nat)) : mdR b (some (v, KL l n m b' hd on)) = some (v, KL l n m b hd on) := rfl
def popK (s t : St) (v : AV) : Option AV → Option (AV × St)
 | some v => some (v, s)
 | none => some (v, { t with wm := Nat.lor s.wm t.wm, md := s.md })
theorem J9 (s t : St) (v : AV) : popR s (some (v, t)) = popK s t v (bif Nat.beq (z3 t.wm s.next) 0 then frzA s.next v else none) := rfl
theorem Jr (s t : St) (v u : AV) : popK s t v (some u) = some (u, s) := rfl
theorem Gi (v : AV) (l : List (Nat × Option AObj)) (n m : Nat) (b : Bool) (hd : List (Nat × Nat)) (on : Option (Nat × List Nat)) (l' : List (Nat × Option AObj)) (n' m' : Nat) (b' : Bool) (hd' : List (Nat × Nat)) (on' : Option (Nat × List Nat)) :
  popK (KL l n m b hd on) (KL l' n' m' b' hd' on') v none = some (v, KL l' n' (m ||| m') b hd' on') := rfl
theorem XN (G : List (List AV)) (res : List RV) (tm : Trie AV) (s : St) : we G res (some (.ret, ⟨tm, []⟩, s)) = resE G tm s res := rfl
theorem YE (G : List (List AV)) (res : List RV) (tm : Trie AV) (s : St) : we G res (some (.norm, ⟨tm, []⟩, s)) = resE G tm s res := rfl
def resK (s : St) : Option (List AV) → Option (AV × St)
 | some vs => some (yQ vs, s)
 | none => none
theorem zyu (G : List (List AV)) (tm : Trie AV) (s : St) (res : List RV) : resE G tm s res = resK s (resV G tm s res) := by
 unfold resE resK; cases resV G tm s res <;> rfl
theorem U6 (s : St) (vs : List AV) : resK s (some vs) = some (yQ vs, s) := rfl
theorem Qn : yQ [] = .tup [] := rfl
theorem VB (v : AV) : yQ [v] = v := rfl
theorem QE (v w : AV) (r : List AV) : yQ (v :: w :: r) = .tup (v :: w :: r) := rfl
def uA (v : Option AV) (l : Option (List AV)) : Option (List AV) :=
 match v, l with
 | some v, some vs => some (v :: vs)
 | _, _ => none
theorem QG (v : AV) (vs : List AV) : uA (some v) (some vs) = some (v :: vs) := rfl
noncomputable def ldnK (G : List (List AV)) (s : St) (n : Nat) : Option AV → Option AV
 | some p => vLdn G s n p
 | none => none
theorem Ka (G : List (List AV)) (s : St) (n : Nat) (p : AV) : ldnK G s n (some p) = vLdn G s n p := rfl
theorem LJ (G : List (List AV)) (tm : Trie AV) (s : St) : resV G tm s [] = some [] := rfl
theorem zw2 (G : List (List AV)) (tm : Trie AV) (s : St) (i : Nat) (r : List RV) : resV G tm s (.t i :: r) = uA (tm.get i) (resV G tm s r) := by
 simp only [resV, uA]; cases tm.get i <;> cases resV G tm s r <;> rfl
theorem zzX (G : List (List AV)) (tm : Trie AV) (s : St) (a n : Nat) (r : List RV) : resV G tm s (.cn a n :: r) = uA (ldnK G s n (tm.get a)) (resV G tm s r) := by
 simp only [resV, uA]
 cases tm.get a with
 | none => cases resV G tm s r <;> rfl
 | some p =>
  simp only [ldnK, vLdn]
  cases xi G s p n with
  | none => cases resV G tm s r <;> rfl
  | some l => cases resV G tm s r <;> rfl
theorem Zj (s : St) : z8 s [] = some s := rfl
noncomputable def GR (s : St) (d : Nat) (r : List Nat) : Option AObj → Option St
 | some .dfd => z8 (s.put d .dfd0) r
 | _ => none
theorem po (s : St) (d : Nat) (r : List Nat) : z8 s (d :: r) = GR s d r (s.get d) := by
 unfold z8 GR; rfl
theorem Gd (s : St) (d : Nat) (r : List Nat) : GR s d r (some .dfd) = z8 (s.put d .dfd0) r := rfl
theorem zvU (tm : Trie AV) (i : Nat) : (Opd.t i).ev tm = tm.get i := rfl
theorem zvE (tm : Trie AV) (v : AV) : (Opd.c v).ev tm = some v := rfl
theorem zz2 (tm : Trie AV) : evL tm [] = some [] := rfl
theorem Hu (tm : Trie AV) (x : Opd) (r : List Opd) : evL tm (x :: r) = uA (x.ev tm) (evL tm r) := rfl
theorem KN (tm : Trie AV) : evO tm none = some none := rfl
def Ln : Option AV → Option (Option AV)
 | some v => some (some v)
 | none => none
theorem U9 (tm : Trie AV) (x : Opd) : evO tm (some x) = Ln (x.ev tm) := by unfold evO Ln; rfl
theorem QP (v : AV) : Ln (some v) = some (some v) := rfl
theorem Jn (s : St) (v : AV) : ret1 s (some v) = some (v, s) := rfl
def b1 (f : AV → Option (AV × St)) : Option AV → Option (AV × St)
 | some v => f v
 | none => none
def b2 (f : AV → AV → Option (AV × St)) : Option AV → Option AV → Option (AV × St)
 | some v, some w => f v w
 | _, _ => none
def b3 (f : AV → AV → AV → Option (AV × St)) : Option AV → Option AV → Option AV → Option (AV × St)
 | some v, some w, some u => f v w u
 | _, _, _ => none
def k1 (s : St) (f : AV → Option AV) : Option AV → Option (AV × St)
 | some v => ret1 s (f v)
 | none => none
def k2 (s : St) (f : AV → AV → Option AV) : Option AV → Option AV → Option (AV × St)
 | some v, some w => ret1 s (f v w)
 | _, _ => none
def kL (s : St) (f : List AV → Option AV) : Option (List AV) → Option (AV × St)
 | some v => ret1 s (f v)
 | none => none
def kLL (s : St) (f : List AV → List AV → Option AV) : Option (List AV) → Option (List AV) → Option (AV × St)
 | some v, some w => ret1 s (f v w)
 | _, _ => none
def k3 (s : St) (f : AV → Option AV → Option AV → Option AV) : Option AV → Option (Option AV) → Option (Option AV) → Option (AV × St)
 | some v, some l, some h => ret1 s (f v l h)
 | _, _, _ => none
noncomputable def k4 (tm : Trie AV) (s : St) (x : Opd) (lo hi : Option Opd) (f : AV → Option AV → Option AV → Option AV → Option AV) : Option (Option AV) → Option (AV × St)
 | some m => vs3 tm s x lo hi (fun v l h => f v l h m)
 | none => none
theorem v1_k (tm : Trie AV) (s : St) (x : Opd) (f : AV → Option AV) : v1 tm s x f = k1 s f (x.ev tm) := by unfold v1 k1; cases x.ev tm <;> rfl
theorem v2_k (tm : Trie AV) (s : St) (x y : Opd) (f : AV → AV → Option AV) : v2 tm s x y f = k2 s f (x.ev tm) (y.ev tm) := by unfold v2 k2; cases x.ev tm <;> cases y.ev tm <;> rfl
theorem zyL (s : St) (f : AV → Option AV) (v : AV) : k1 s f (some v) = ret1 s (f v) := rfl
theorem zxf (s : St) (f : AV → AV → Option AV) (v w : AV) : k2 s f (some v) (some w) = ret1 s (f v w) := rfl
theorem o1_k (tm : Trie AV) (x : Opd) (f : AV → Option (AV × St)) : o1 tm x f = b1 f (x.ev tm) := by unfold o1 b1; cases x.ev tm <;> rfl
theorem o2_k (tm : Trie AV) (x y : Opd) (f : AV → AV → Option (AV × St)) : o2 tm x y f = b2 f (x.ev tm) (y.ev tm) := by unfold o2 b2; cases x.ev tm <;> cases y.ev tm <;> rfl
theorem vL_k (tm : Trie AV) (s : St) (l : List Opd) (f : List AV → Option AV) : vL tm s l f = kL s f (evL tm l) := by unfold vL kL; cases evL tm l <;> rfl
theorem zvL (tm : Trie AV) (s : St) (l m : List Opd) (f : List AV → List AV → Option AV) : vLL tm s l m f = kLL s f (evL tm l) (evL tm m) := by unfold vLL kLL; cases evL tm l <;> cases evL tm m <;> rfl
theorem zvD (tm : Trie AV) (s : St) (x : Opd) (lo hi : Option Opd) (f : AV → Option AV → Option AV → Option AV) : vs3 tm s x lo hi f = k3 s f (x.ev tm) (evO tm lo) (evO tm hi) := by unfold vs3 k3; cases x.ev tm <;> cases evO tm lo <;> cases evO tm hi <;> rfl
theorem zvC (tm : Trie AV) (s : St) (x : Opd) (lo hi mx : Option Opd) (f : AV → Option AV → Option AV → Option AV → Option AV) : vs4 tm s x lo hi mx f = k4 tm s x lo hi f (evO tm mx) := by unfold vs4 k4; cases evO tm mx <;> rfl
theorem zyJ (f : AV → Option (AV × St)) (v : AV) : b1 f (some v) = f v := rfl
theorem zz3 (f : AV → AV → Option (AV × St)) (v w : AV) : b2 f (some v) (some w) = f v w := rfl
theorem zxL (s : St) (f : List AV → Option AV) (l : List AV) : kL s f (some l) = ret1 s (f l) := rfl
theorem H6 (s : St) (f : List AV → List AV → Option AV) (l m : List AV) : kLL s f (some l) (some m) = ret1 s (f l m) := rfl
theorem zxG (s : St) (f : AV → Option AV → Option AV → Option AV) (v : AV) (l h : Option AV) : k3 s f (some v) (some l) (some h) = ret1 s (f v l h) := rfl
theorem zz0 (tm : Trie AV) (s : St) (x : Opd) (lo hi : Option Opd) (f : AV → Option AV → Option AV → Option AV → Option AV) (m : Option AV) : k4 tm s x lo hi f (some m) = vs3 tm s x lo hi (fun v l h => f v l h m) := rfl
theorem JI (S : Self) (f : Nat) (vs : List AV) (s : St) : evCl S f (some vs) s = S.call f vs s := rfl
theorem zzJ (S : Self) (f : Nat) (a c : List AV) (vs : List AV) (s : St) : evCv S (some (.fn f a c)) (some vs) s = S.call f (a ++ vs ++ c) s := rfl
theorem zzL (a b : Option AV) : ZM (some (.bool true)) a b = a := rfl
theorem zzT (a b : Option AV) : ZM (some (.bool false)) a b = b := rfl
theorem zx1 (x y z : Bool) : ZM (some (.bool x)) (some (.bool y)) (some (.bool z)) = some (.bool (bif x then y else z)) := by cases x <;> rfl
theorem zzD (off id o : Nat) : vFa off (.ptr id o) = some (.ptr id (o + off)) := rfl
theorem zvq (off : Nat) (cs : List AV) : vFa off (.vp cs) = some (.vp (yw off cs)) := rfl
theorem PC (i o : Nat) : vNck (.ptr i o) = some (.ptr i o) := rfl
theorem zy6 (s : St) (e : Nat) (v : AV) : oBox s e v = some (.ptr s.next 0, s.alloc (.row e v.cells false false)) := rfl
theorem KG (s : St) (e : Nat) (zs : List AV) : uH s e zs = some (.ptr s.next 0, s.alloc (.row e zs false false)) := rfl
theorem KQ (cs : List AV) : (AV.agg cs).cells = cs := rfl
theorem UZ (k : IntKind) (n : Int) : (AV.int k n).cells = [.int k n] := rfl
theorem GB (s : List Nat) : (AV.str s).cells = [.str s] := rfl
theorem Gf (n : Nat) (e : Bool) (l : List AV) : (AV.lst n e l).cells = [.lst n e l] := rfl
theorem Gp (i o : Nat) : (AV.ptr i o).cells = [.ptr i o] := rfl
theorem Ly (i o n : Nat) (c : Cap) : (AV.sl i o n c).cells = [.sl i o n c] := rfl
theorem HA (s : St) (t : List Nat) : vLen s .s (.str t) = some (.int .i64 (.ofNat t.length)) := by rw [← ye]; rfl
theorem JZ (s : St) : vLen s .v .nils = some (.int .i64 (.ofNat 0)) := rfl
theorem HR (s : St) (n : Nat) (e : Bool) (l : List AV) : vLen s .v (.lst n e l) = some (.int .i64 (.ofNat n)) := rfl
theorem zxQ (s : St) (i e n : Nat) (l : List AV) : vLen s .v (.gr i e n l) = some (.int .i64 (.ofNat n)) := rfl
theorem zxr (s : St) (i o n : Nat) (c : Cap) : vLen s .v (.sl i o n c) = some (.int .i64 (.ofNat n)) := rfl
theorem zx6 (b : Bool) : vUn .not (.bool b) = some (.bool (!b)) := rfl
theorem P0 (op : BinOp) (k k' : IntKind) (a b : Int) : vBin op (.int k a) (.int k' b) = binI op k a k' b := rfl
theorem zzs (op : BinOp) (a b : List Nat) : vBin op (.str a) (.str b) = binS op a b := rfl
def eqD (a b : Int) : Bool := decide (a = b)
def ltD (a b : Int) : Bool := decide (a < b)
theorem LL (k : IntKind) (a b : Int) : binI .eql k a k b = some (.bool (eqD a b)) := by
 have : xW k k = true := by cases k <;> rfl
 simp only [binI, this, cond_true, uu, eqD]
 by_cases h : a = b <;> simp [h]
theorem GT (k : IntKind) (a b : Int) : binI .neq k a k b = some (.bool (!eqD a b)) := by
 have : xW k k = true := by cases k <;> rfl
 simp only [binI, this, cond_true, uu, eqD]
 by_cases h : a = b <;> simp [h]
theorem HY (k : IntKind) (a b : Int) : binI .lss k a k b = some (.bool (ltD a b)) := by
 have : xW k k = true := by cases k <;> rfl
 simp only [binI, this, cond_true, qG, ltD]
theorem PG (k : IntKind) (a b : Int) : binI .leq k a k b = some (.bool (!ltD b a)) := by
 have : xW k k = true := by cases k <;> rfl
 simp only [binI, this, cond_true, qG, ltD]
theorem Lr (k : IntKind) (a b : Int) : binI .gtr k a k b = some (.bool (ltD b a)) := by
 have : xW k k = true := by cases k <;> rfl
 simp only [binI, this, cond_true, qG, ltD]
theorem zzh (k : IntKind) (a b : Int) : binI .geq k a k b = some (.bool (!ltD a b)) := by
 have : xW k k = true := by cases k <;> rfl
 simp only [binI, this, cond_true, qG, ltD]
theorem zxE (a b : Nat) : eqD (.ofNat a) (.ofNat b) = decide (a = b) := by
 unfold eqD; by_cases h : a = b
 ·subst h; simp
 ·simp only [h, decide_false, decide_eq_false_iff_not]; intro e; cases e; exact h rfl
theorem zyS (a b : Nat) : ltD (.ofNat a) (.ofNat b) = decide (a < b) := by
 unfold ltD; by_cases h : a < b <;> simp [h]
theorem zzA (a b : Nat) : ltD (.negSucc a) (.ofNat b) = true := by
 have : (Int.negSucc a) < 0 := Int.negSucc_lt_zero a
 have h2 : (0 : Int) ≤ Int.ofNat b := Int.natCast_nonneg b
 unfold ltD; exact decide_eq_true (by omega)
theorem UO {a b : Int} (h : a < b) : ltD a b = true := decide_eq_true h
theorem ZA {a b : Int} (h : b ≤ a) : ltD a b = false := decide_eq_false (by omega)
theorem j6 (k : IntKind) {a : Nat} (h : a < topN k) : xG k (.ofNat a) = .ofNat a := by
 show (bif Nat.blt a (topN k) then Int.ofNat a else _) = _
 rw [zP.2 h]; rfl
theorem addI (a b : Nat) : Int.add (.ofNat a) (.ofNat b) = .ofNat (a + b) := rfl
theorem mulI (a b : Nat) : Int.mul (.ofNat a) (.ofNat b) = .ofNat (a * b) := rfl
theorem subI {a b : Nat} (h : b ≤ a) : Int.sub (.ofNat a) (.ofNat b) = .ofNat (a - b) := by
 show (a : Int) - (b : Int) = ((a - b : Nat) : Int)
 omega
theorem zzd (k : IntKind) (a b : Int) : binI .add k a k b = some (.int k (xG k (Int.add a b))) := by
 have : xW k k = true := by cases k <;> rfl
 simp only [binI, this, cond_true]
theorem PZ (k : IntKind) (a b : Int) : binI .sub k a k b = some (.int k (xG k (Int.sub a b))) := by
 have : xW k k = true := by cases k <;> rfl
 simp only [binI, this, cond_true]
theorem zzw (k : IntKind) (a b : Int) : binI .mul k a k b = some (.int k (xG k (Int.mul a b))) := by
 have : xW k k = true := by cases k <;> rfl
 simp only [binI, this, cond_true]
theorem VS {a : Nat} (h : a < 9223372036854775808) : xG .i64 (.ofNat a) = .ofNat a := j6 .i64 h
theorem zw3 {a : Nat} (h : a < 2147483648) : xG .i32 (.ofNat a) = .ofNat a := j6 .i32 h
theorem qM {a : Nat} (h : a < 256) : xG .u8 (.ofNat a) = .ofNat a := j6 .u8 h
theorem wH {a : Nat} (h : a < 4294967296) : xG .u32 (.ofNat a) = .ofNat a := j6 .u32 h
theorem zzY (k k' : IntKind) (a : Int) : vCi k (.int k' a) = some (.int k (xG k a)) := rfl
theorem Hz (a b : List Nat) : binS .eql a b = some (.bool (decide (a = b))) := by
 show some (AV.bool (eqS a b)) = _
 rw [kX]; by_cases h : a = b <;> simp [h]
theorem LG (a b : List Nat) : binS .neq a b = some (.bool (!decide (a = b))) := by
 show some (AV.bool (!eqS a b)) = _
 rw [kX]; by_cases h : a = b <;> simp [h]
theorem Qe {a b : List Nat} (h : a.length + b.length < 9223372036854775808) : binS .add a b = some (.str (a ++ b)) := by
 show (bif Nat.blt (Nat.add (lenN a) (lenN b)) 9223372036854775808 then some (AV.str (a ++ b)) else none) = _
 rw [ye, ye, show Nat.blt (Nat.add a.length b.length) 9223372036854775808 = true from zP.2 h]; rfl
theorem Qk (v : AV) (l : List AV) : ux (v :: l) = some v := rfl
theorem zxn (vs : List AV) (i : Nat) : vEx (.tup vs) i = ux (yw i vs) := rfl
theorem KP (l : List AV) : aggO (some l) = some (.agg l) := rfl
theorem zyY (l : List AV) (off n : Nat) : cut l off n = yz n (yw off l) := rfl
theorem zzZ (k : IntKind) (a n : Nat) : idx (.int k (.ofNat a)) n = if a < n then some a else none := by
 show (bif Nat.blt a n then some a else none) = _
 by_cases h : a < n
 ·rw [if_pos h, zP.2 h]; rfl
 ·rw [if_neg h]
  cases hb : Nat.blt a n with
  | true => exact absurd (zP.1 hb) h
  | false => rfl
def vpK (cs : List AV) (esz : Nat) : Option Nat → Option AV
 | some k => some (.vp (yw (k * esz) cs))
 | none => none
theorem Lq (cs : List AV) (esz k : Nat) : vpK cs esz (some k) = some (.vp (yw (k * esz) cs)) := rfl
theorem zyk (esz n : Nat) (e : Bool) (cs : List AV) (i : AV) : vIa esz (.lst n e cs) i = vpK cs esz (idx i n) := by
 simp only [vIa, vpK]; generalize idx i n = x; cases x <;> rfl
def ptK (id off esz : Nat) : Option Nat → Option AV
 | some k => some (.ptr id (off + k * esz))
 | none => none
theorem Pf (id off esz k : Nat) : ptK id off esz (some k) = some (.ptr id (off + k * esz)) := rfl
theorem Lj (n esz id off : Nat) (i : AV) : vIaa n esz (.ptr id off) i = ptK id off esz (idx i n) := by
 simp only [vIaa, ptK]; generalize idx i n = x; cases x <;> rfl
theorem Qs (b : Nat) : XP (some b) = some (.int .u8 (.ofNat b)) := rfl
theorem zza (t : List Nat) (k : IntKind) (i : Nat) : vIxs (.str t) (.int k (.ofNat i)) = XP (getS t i) := rfl
def rowO : Option AObj → Option (List AV)
 | some (.row _ cs _ _) => some cs
 | some (.giv cs) => some cs
 | _ => none
theorem LU (e : Nat) (cs : List AV) (x fz : Bool) : rowO (some (.row e cs x fz)) = some cs := rfl
def cutO (off n : Nat) : Option (List AV) → Option (List AV)
 | some cs => cut cs off n
 | none => none
theorem KD (off n : Nat) (cs : List AV) : cutO off n (some cs) = yz n (yw off cs) := rfl
def VT : Option (List AV) → Option AV
 | some l => ux l
 | none => none
theorem Qr (l : List AV) : VT (some l) = ux l := rfl
theorem Z8 (G : List (List AV)) (s : St) (id off n : Nat) : xi G s (.ptr id off) n = cutO off n (rowO (s.get id)) := by
 unfold xi; simp only
 cases s.get id with
 | none => rfl
 | some o => cases o <;> rfl
theorem WM (G : List (List AV)) (s : St) (cs : List AV) (n : Nat) : xi G s (.vp cs) n = yz n cs := rfl
theorem zxe (G : List (List AV)) (s : St) (id off : Nat) : vLd G s (.ptr id off) = VT (cutO off 1 (rowO (s.get id))) := by
 rw [← Z8 G]; unfold vLd; cases xi G s (.ptr id off) 1 <;> rfl
theorem zwK (G : List (List AV)) (s : St) (cs : List AV) : vLd G s (.vp cs) = VT (yz 1 cs) := by
 rw [← WM G s]; unfold vLd; cases xi G s (.vp cs) 1 <;> rfl
theorem LM (G : List (List AV)) (s : St) (n id off : Nat) : vLdn G s n (.ptr id off) = aggO (cutO off n (rowO (s.get id))) := by
 rw [← Z8 G]; unfold vLdn; cases xi G s (.ptr id off) n <;> rfl
theorem zxP (G : List (List AV)) (s : St) (n : Nat) (cs : List AV) : vLdn G s n (.vp cs) = aggO (yz n cs) := by
 rw [← WM G s]; unfold vLdn; cases xi G s (.vp cs) n <;> rfl
noncomputable def putO (s : St) (id e : Nat) (x : Bool) : Option (List AV) → Option (AV × St)
 | some cs => some (xe, s.put id (.row e cs x false))
 | none => none
theorem Ga (s : St) (id e : Nat) (x : Bool) (cs : List AV) : putO s id e x (some cs) = some (xe, s.put id (.row e cs x false)) := rfl
noncomputable def stO (s : St) (id off n : Nat) (w : AV) : Option AObj → Option (AV × St)
 | some (.row e cs x false) => bif (Nat.beq (lenN w.cells) n && z5 w.cells) then putO s id e x (wz cs off w.cells) else none
 | _ => none
theorem zyi (s : St) (id off n : Nat) (w : AV) (e : Nat) (cs : List AV) (x : Bool) : stO s id off n w (some (.row e cs x false)) = (bif (Nat.beq (lenN w.cells) n && z5 w.cells) then putO s id e x (wz cs off w.cells) else none) := rfl
theorem zyn (s : St) (n id off : Nat) (w : AV) : oSt s n (.ptr id off) w = stO s id off n w (s.get id) := by
 unfold oSt x9; simp only
 cases s.get id with
 | none => cases Nat.beq (lenN w.cells) n <;> rfl
 | some o =>
  cases o <;> first | (cases Nat.beq (lenN w.cells) n <;> rfl) | skip
  rename_i e cs x fz
  cases fz
  ·simp only [stO]
   cases Nat.beq (lenN w.cells) n <;> cases z5 w.cells <;> simp only [Bool.false_or, Bool.not_true, Bool.not_false, cond_true, cond_false, Bool.and_true, Bool.and_false, Bool.true_and, Bool.false_and]
   cases wz cs off w.cells <;> rfl
  ·cases Nat.beq (lenN w.cells) n <;> rfl
theorem zwc (a b : Nat) : Nat.ble a b = decide (a ≤ b) := by
 cases h : Nat.ble a b with
 | true => exact (decide_eq_true (zL.1 h)).symm
 | false => exact (decide_eq_false (fun e => by rw [zL.2 e] at h; cases h)).symm
theorem zvF (a b : Nat) : Nat.blt a b = decide (a < b) := by
 cases h : Nat.blt a b with
 | true => exact (decide_eq_true (zP.1 h)).symm
 | false => exact (decide_eq_false (fun e => by rw [zP.2 e] at h; cases h)).symm
theorem zvP (a b : Nat) : Nat.beq a b = decide (a = b) := by
 cases h : Nat.beq a b with
 | true => exact (decide_eq_true (zw.1 h)).symm
 | false => exact (decide_eq_false (fun e => by rw [zw.2 e] at h; cases h)).symm
mutual
theorem ZZ (n0 : Nat) : ∀ {v : AV}, zD v = true → frz1 n0 v = some v
 | .bool _, _ => rfl
 | .int _ _, _ => rfl
 | .str _, _ => rfl
 | .nilp, _ => rfl
 | .gptr _ _, _ => rfl
 | .sl0, _ => rfl
 | .nils, _ => rfl
 | .nilm, _ => rfl
 | .nilf, _ => rfl
 | .nili, _ => rfl
 | .lst _ _ _, _ => rfl
 | .vp _, _ => rfl
 | .ifc _ v, h => by simp only [frz1, h, cond_true]
 | .fn _ a c, h => by simp only [frz1, h, cond_true]
 | .agg cs, h => by simp only [frz1, h, cond_true]
 | .tup vs, h => by simp only [frz1, h, cond_true]
 | .ptr _ _, h => by simp [zD] at h
 | .sl _ _ _ _, h => by simp [zD] at h
 | .map _, h => by simp [zD] at h
 | .yld _, h => by simp [zD] at h
 | .gr _ _ _ _, h => by simp [zD] at h
end
theorem Yo (n0 : Nat) : ∀ {l : List AV}, zu l = true → frzL n0 l = some l
 | [], _ => rfl
 | v :: r, h => by
  simp only [zu, Bool.and_eq_true] at h
  simp only [frzL, ZZ n0 h.1, Yo n0 h.2]
theorem Zr (n0 : Nat) {v : AV} (h : zD v = true) : frz2 n0 v = some v := by
 cases v <;> first | exact ZZ n0 h | skip
 rename_i cs
 simp only [zD] at h
 simp only [frz2, Yo n0 h]
theorem Yt (n0 : Nat) : ∀ {l : List AV}, zu l = true → frzT n0 l = some l
 | [], _ => rfl
 | v :: r, h => by
  simp only [zu, Bool.and_eq_true] at h
  simp only [frzT, Zr n0 h.1, Yt n0 h.2]
theorem Jl (n0 : Nat) {v : AV} (h : zD v = true) : frzA n0 v = some v := by
 cases v <;> first | exact Zr n0 h | skip
 rename_i cs
 simp only [zD] at h
 simp only [frzA, Yt n0 h]
def tupO : Option (List AV) → Option AV
 | some l => some (.tup l)
 | none => none
theorem Jo (l : List AV) : tupO (some l) = some (.tup l) := rfl
theorem PP (n0 : Nat) (vs : List AV) : frzA n0 (.tup vs) = tupO (frzT n0 vs) := by simp only [frzA, tupO]; cases frzT n0 vs <;> rfl
theorem PS (n0 : Nat) : frzT n0 [] = some [] := rfl
theorem KM (n0 : Nat) (v : AV) (r : List AV) : frzT n0 (v :: r) = uA (frz2 n0 v) (frzT n0 r) := by
 simp only [frzT, uA]; cases frz2 n0 v <;> cases frzT n0 r <;> rfl
theorem HN (n0 : Nat) : frzL n0 [] = some [] := rfl
theorem Gk (n0 : Nat) (v : AV) (r : List AV) : frzL n0 (v :: r) = uA (frz1 n0 v) (frzL n0 r) := by
 simp only [frzL, uA]; cases frz1 n0 v <;> cases frzL n0 r <;> rfl
theorem zy8 (n0 id e n : Nat) (cs : List AV) : frz1 n0 (.gr id e n cs) = if n0 ≤ id then some (.lst n false cs) else some (.gr id e n cs) := by
 simp only [frz1, zwc]; by_cases h : n0 ≤ id <;> simp [h]
theorem zzQ (n0 id e n : Nat) (cs : List AV) : frz2 n0 (.gr id e n cs) = if n0 ≤ id then some (.lst n false cs) else some (.gr id e n cs) := zy8 n0 id e n cs
theorem PF (n0 : Nat) (cs : List AV) : frz2 n0 (.agg cs) = aggO (frzL n0 cs) := rfl
theorem Vf : zh [] = [] := rfl
theorem Ws (b : Nat) (r : List Nat) : zh (b :: r) = .int .u8 (.ofNat b) :: zh r := rfl
theorem ul : ∀ l : List Nat, (zh l).length = l.length
 | [] => rfl
 | b :: r => by simp [zh, ul r]
theorem ql : ∀ (n : Nat) (l : List Nat), yw n (zh l) = zh (l.drop n)
 | 0, l => rfl
 | n + 1, [] => rfl
 | n + 1, b :: r => by simp only [zh, yw, List.drop_succ_cons]; exact ql n r
theorem jc : ∀ (n : Nat) (l : List Nat), tkN n (zh l) = zh (l.take n)
 | 0, l => by simp [tkN, zh]
 | n + 1, [] => rfl
 | n + 1, b :: r => by simp only [zh, tkN, List.take_succ_cons]; rw [jc n r]
theorem gQ : ∀ {n : Nat} {l : List Nat}, n ≤ l.length → yz n (zh l) = some (zh (l.take n))
 | 0, l, _ => by simp [yz, zh]
 | n + 1, [], h => by simp at h
 | n + 1, b :: r, h => by simp only [zh, yz, gQ (n := n) (l := r) (by simpa using h), List.take_succ_cons]
theorem qb : ∀ {l : List Nat}, (∀ b ∈ l, b < 256) → xo (zh l) = some l
 | [], _ => rfl
 | b :: r, h => by
  simp only [zh, xo, qb (l := r) (fun x hx => h x (by simp [hx])), zP.2 (h b (by simp)), cond_true]
theorem vC : ∀ l : List Nat, z5 (zh l) = true
 | [] => rfl
 | b :: r => by simp only [zh, z5, scal, cond_true, vC r]
theorem zw8 (a b : Nat) : Nat.lor a b = a ||| b := rfl
theorem PK (ρ : Nat → Option Nat) (k : IntKind) (n : Int) : renV ρ (.int k n) = some (.int k n) := by simp only [renV]
theorem J7 (ρ : Nat → Option Nat) (b : Bool) : renV ρ (.bool b) = some (.bool b) := by simp only [renV]
theorem G3 (ρ : Nat → Option Nat) (s : List Nat) : renV ρ (.str s) = some (.str s) := by simp only [renV]
theorem JA (ρ : Nat → Option Nat) : renV ρ .nils = some .nils := by simp only [renV]
theorem LY (ρ : Nat → Option Nat) (n : Nat) (e : Bool) (l : List AV) : renV ρ (.lst n e l) = some (.lst n e l) := by simp only [renV]
def jS (f : Nat → AV) : Option Nat → Option AV
 | some j => some (f j)
 | none => none
theorem zyN (f : Nat → AV) (j : Nat) : jS f (some j) = some (f j) := rfl
theorem Py (ρ : Nat → Option Nat) (i o : Nat) : renV ρ (.ptr i o) = jS (fun j => .ptr j o) (ρ i) := by simp only [renV]; cases ρ i <;> rfl
theorem zxD (ρ : Nat → Option Nat) (i o n : Nat) (c : Cap) : renV ρ (.sl i o n c) = jS (fun j => .sl j o n c) (ρ i) := by simp only [renV]; cases ρ i <;> rfl
theorem zxK (ρ : Nat → Option Nat) (i e n : Nat) (l : List AV) : renV ρ (.gr i e n l) = jS (fun j => .gr j e n l) (ρ i) := by simp only [renV]; cases ρ i <;> rfl
def fnO (f : Nat) : Option (List AV) → Option (List AV) → Option AV
 | some a, some c => some (.fn f a c)
 | _, _ => none
theorem G2 (f : Nat) (a c : List AV) : fnO f (some a) (some c) = some (.fn f a c) := rfl
theorem zym (ρ : Nat → Option Nat) (f : Nat) (a c : List AV) : renV ρ (.fn f a c) = fnO f (renC ρ (zu a) a) (renC ρ (zu c) c) := by
 simp only [renV]; cases renC ρ (zu a) a <;> cases renC ρ (zu c) c <;> rfl
theorem zwR (ρ : Nat → Option Nat) (l : List AV) : renC ρ true l = some l := by simp only [renC, cond_true]
theorem zwX (ρ : Nat → Option Nat) (l : List AV) : renC ρ false l = renL ρ l := by simp only [renC, cond_false]
theorem Lw (ρ : Nat → Option Nat) : renL ρ [] = some [] := by simp only [renL]
theorem KS (ρ : Nat → Option Nat) (v : AV) (r : List AV) : renL ρ (v :: r) = uA (renV ρ v) (renL ρ r) := by simp only [renL, uA]; cases renV ρ v <;> cases renL ρ r <;> rfl
theorem wX (b : Bool) : zD (.bool b) = true := rfl
theorem yu (k : IntKind) (n : Int) : zD (.int k n) = true := rfl
theorem yZ (s : List Nat) : zD (.str s) = true := rfl
theorem lX : zD .nilp = true := rfl
theorem VM (g o : Nat) : zD (.gptr g o) = true := rfl
theorem Jd : zD .sl0 = true := rfl
theorem Zb : zD .nils = true := rfl
theorem QL : zD .nilm = true := rfl
theorem Vk : zD .nilf = true := rfl
theorem QH : zD .nili = true := rfl
theorem yy (n : Nat) (e : Bool) (l : List AV) : zD (.lst n e l) = true := rfl
theorem LH (l : List AV) : zD (.vp l) = true := rfl
theorem U2 (t : Nat) (v : AV) : zD (.ifc t v) = zD v := rfl
theorem lP (f : Nat) (a c : List AV) : zD (.fn f a c) = (zu a && zu c) := rfl
theorem wA (l : List AV) : zD (.agg l) = zu l := rfl
theorem yF (l : List AV) : zD (.tup l) = zu l := rfl
theorem Gy (i o : Nat) : zD (.ptr i o) = false := rfl
theorem HM (i o n : Nat) (c : Cap) : zD (.sl i o n c) = false := rfl
theorem zI : zu [] = true := rfl
theorem zB (v : AV) (r : List AV) : zu (v :: r) = (zD v && zu r) := rfl
theorem zzb (n0 : Nat) (k : IntKind) (n : Int) : frz1 n0 (.int k n) = some (.int k n) := rfl
theorem P1 (n0 : Nat) (s : List Nat) : frz1 n0 (.str s) = some (.str s) := rfl
theorem Ku (n0 : Nat)  : frz1 n0 (.nils) = some (.nils) := rfl
theorem GV (n0 : Nat) (n : Nat) (e : Bool) (l : List AV) : frz1 n0 (.lst n e l) = some (.lst n e l) := rfl
theorem Hx (n0 : Nat) (k : IntKind) (n : Int) : frz2 n0 (.int k n) = some (.int k n) := rfl
theorem yh {C : Cx} {ib : ICode} {Q : Res → Fr → St → Prop} {α : Type} (m : α → Nat) (fr : α → Fr) (st : α → St) (I : α → Prop)
  (step : ∀ x, I x → Tri C ib (fr x) (st x) (za (fun f t => ∃ y, I y ∧ m y < m x ∧ Gc C f t (fr y) (st y)) Q)) : ∀ x, I x → TriL C ib (fr x) (st x) Q := by
 have key : ∀ n x, m x < n → I x → TriL C ib (fr x) (st x) Q := by
  intro n
  induction n with
  | zero => intro x h; omega
  | succ n ih =>
   intro x hx hI
   refine kP ((step x hI).mono fun r f t => ?_)
   cases r with
   | norm =>
    rintro ⟨y, h1, h2, h3⟩
    exact lF h3 (ih y (by omega) h1)
   | exit i => exact fun h => h
   | ret => exact fun h => h
 exact fun x hI => key (m x + 1) x (by omega) hI
theorem x3 : ∀ l : List Nat, wkL (zh l) = zh l
 | [] => rfl
 | b :: r => by simp only [zh, wkL, wkV, x3 r]
theorem wW : ∀ {a b : List Nat}, zh a = zh b → a = b
 | [], [], _ => rfl
 | [], _ :: _, h => by simp [zh] at h
 | _ :: _, [], h => by simp [zh] at h
 | x :: a, y :: b, h => by
  simp only [zh, List.cons.injEq, AV.int.injEq, true_and] at h
  obtain ⟨h1, h2⟩ := h
  have : x = y := by cases h1; rfl
  rw [this, wW h2]
structure Is (C : Cx) (E : Env) (O : Orc) (c : St) (M : Nat) : Prop where
 ok : CxOk C
 e : C.E = E
 o : C.O = O
 rd : C.rd = none
 s : C.s = c
 m : C.M = M
section
variable {C : Cx} {E : Env} {O : Orc} {c : St} {M : Nat} {ic : ICode} {fr fr' fr1 : Fr} {s s' s1 : St} {Q : Res → Fr → St → Prop} {res : Res}
theorem Is.eval (k : Is C E O c M) (h : evC E (evW E O) none ic fr s = some (res, fr', s')) (q : Q res fr' s') : Tri C ic fr s Q :=
 PY k.ok (by rw [k.e, k.o, k.rd]; exact h) q
theorem Is.ev (k : Is C E O c M) (h : ∃ r, evC E (evW E O) none ic fr s = some r ∧ Q r.1 r.2.1 r.2.2) : Tri C ic fr s Q := by
 obtain ⟨⟨res, fr', s'⟩, h1, h2⟩ := h
 exact k.eval h1 h2
theorem Is.gcs (k : Is C E O c M) {keep live : List Nat} {md : Bool} (h : gcF false c M keep live md fr s = some (fr1, s1)) : Gc C fr s fr1 s1 :=
 PA k.ok (wk := false) (keep := keep) (live := live) (md := md) (by rw [k.s, k.m]; exact h)
theorem Is.gc (k : Is C E O c M) (keep live : List Nat) (md : Bool) (h : gcF false c M keep live md fr s = some (fr1, s1)) (t : Tri C ic fr1 s1 Q) : Tri C ic fr s Q := YM (k.gcs h) t
theorem Is.gcL (k : Is C E O c M) (keep live : List Nat) (md : Bool) (h : gcF false c M keep live md fr s = some (fr1, s1)) (t : TriL C ic fr1 s1 Q) : TriL C ic fr s Q := lF (k.gcs h) t
end
def Cut (C : Cx) (fr1 : Fr) (s1 : St) (Q : Res → Fr → St → Prop) : Res → Fr → St → Prop
 | .norm, f, t => Gc C f t fr1 s1
 | r, f, t => Q r f t
theorem xO {C : Cx} {ia ib : ICode} {fr : Fr} {s : St} {Q : Res → Fr → St → Prop} (fr1 : Fr) (s1 : St) (h1 : Tri C ia fr s (Cut C fr1 s1 Q)) (h2 : Tri C ib fr1 s1 Q) : Tri C (.seq ia ib) fr s Q :=
 zd (h1.mono fun r f t => by
  cases r with
  | norm => exact fun h => YM h h2
  | exit i => exact fun h => h
  | ret => exact fun h => h)
theorem Is.sc {P : Program} {w0 : World} {E : Env} {O : Orc} (hO : OrcOk P w0 O) (hm : P.follows .mixedOrders = true) (hG : zH E.globs w0) (hE : vg P E) {f : Nat} {F : IFunc} {args : List AV} {os : List (Option AObj)} {b : Bool} {v : AV} {c' : St} (M : Nat)
  (hF : E.funs.get f = some F) (hle : args.length ≤ F.ntmps) (hM : ∀ i, M.testBit i = true → ∃ o, getO os i = some o ∧ y7 o = false)
  (h : ∀ C : Cx, Is C E O (H os 0 b) M → Tri C F.body { tm := yN (tmL []) 0 args, df := [] } (H os 0 b) (Fin E (H os 0 b) M F.res v c')) : SC P w0 f args (H os 0 b) v c' :=
 QT hO hm hG hE M hF hle rfl rfl rfl (fun i hi => by
  obtain ⟨o, h1, h2⟩ := hM i hi
  exact ⟨j4 h1, o, by rw [jW]; exact h1, h2⟩) fun C ok h1 h2 h3 h4 h5 => h C ⟨ok, h1, h2, h3, h4, h5⟩
theorem ze {E : Env} {c : St} {M : Nat} {res : List RV} {v : AV} {c' : St} {r : Res} {fr : Fr} {s s2 : St} {vs : List AV} {v0 : AV} (h0 : r = .norm ∨ r = .ret) (h1 : z8 s fr.df = some s2) (h2 : resV E.globs fr.tm s2 res = some vs) (h3 : frzA c.next (yQ vs) = some v0) (h4 : wkV v0 = v) (h5 : gcF true c M [] [] c.md { tm := tmL [], df := [] } s2 = some ({ tm := tmL [], df := [] }, c')) : Fin E c M res v c' r fr s :=
 ⟨h0, s2, vs, v0, _, h1, h2, h3, h4.symm, h5⟩
theorem xf {os : List (Option AObj)} : ∀ i, (0 : Nat).testBit i = true → ∃ o, getO os i = some o ∧ y7 o = false := fun i h => by simp at h
theorem qI {o : AObj} {os : List (Option AObj)} (hg : y7 o = false) : ∀ i, (1 : Nat).testBit i = true → ∃ o', getO (some o :: os) i = some o' ∧ y7 o' = false := fun i h => by
 cases i with
 | zero => exact ⟨o, rfl, hg⟩
 | succ i => rw [Nat.testBit_succ] at h; simp at h
def Byt (l : List Nat) : Prop := ∀ x ∈ l, x < 256
theorem Byt.drop {l : List Nat} (h : Byt l) (n : Nat) : Byt (l.drop n) := fun x hx => h x (List.mem_of_mem_drop hx)
theorem Byt.take {l : List Nat} (h : Byt l) (n : Nat) : Byt (l.take n) := fun x hx => h x (List.mem_of_mem_take hx)
theorem Byt.cons {c : Nat} {l : List Nat} (h : Byt (c :: l)) : c < 256 ∧ Byt l := ⟨h c (by simp), fun x hx => h x (by simp [hx])⟩
theorem Byt.append {l m : List Nat} (h : Byt l) (h' : Byt m) : Byt (l ++ m) := fun x hx => by
 rcases List.mem_append.1 hx with h1 | h1
 ·exact h x h1
 ·exact h' x h1
theorem Gr {b : List Nat} {e : Bool} {k k' : IntKind} {lo hi : Nat} (h1 : lo ≤ hi) (h2 : hi ≤ b.length) : vSlv 1 (.lst b.length e (zh b)) (some (.int k (.ofNat lo))) (some (.int k' (.ofNat hi))) none = some (.lst (hi - lo) (e && Nat.beq hi b.length) (zh ((b.drop lo).take (hi - lo)))) := by
 simp only [vSlv, vSlF, bnd, zL.2 h1, zL.2 h2, cond_true]
 show some (AV.lst (hi - lo) _ (tkN ((hi - lo) * 1) (yw (lo * 1) (zh b)))) = _
 rw [Nat.mul_one, Nat.mul_one, ql, jc]
theorem YL {b : List Nat} {e : Bool} {k : IntKind} {lo : Nat} (h1 : lo ≤ b.length) : vSlv 1 (.lst b.length e (zh b)) (some (.int k (.ofNat lo))) none none = some (.lst (b.length - lo) (e && Nat.beq b.length b.length) (zh (b.drop lo))) := by
 simp only [vSlv, vSlF, bnd, zL.2 h1, cond_true]
 show some (AV.lst (b.length - lo) _ (tkN ((b.length - lo) * 1) (yw (lo * 1) (zh b)))) = _
 rw [Nat.mul_one, Nat.mul_one, ql, jc, List.take_of_length_le (by simp)]
theorem YO {b : List Nat} {e : Bool} {k : IntKind} {hi : Nat} (h2 : hi ≤ b.length) : vSlv 1 (.lst b.length e (zh b)) none (some (.int k (.ofNat hi))) none = some (.lst hi (e && Nat.beq hi b.length) (zh (b.take hi))) := by
 simp only [vSlv, vSlF, bnd, zL.2 h2, zL.2 (Nat.zero_le hi), cond_true]
 show some (AV.lst (hi - 0) _ (tkN ((hi - 0) * 1) (yw (0 * 1) (zh b)))) = _
 rw [Nat.mul_one, Nat.mul_one, ql, jc]; simp
theorem Kc {s : St} {n : Nat} {e : Bool} {l : List Nat} (hn : l.length = n) (hb : Byt l) : vCbs s (.lst n e (zh l)) = some (.str l) := by
 subst hn
 simp only [vCbs, gQ (Nat.le_refl _), List.take_length, yJ, qb hb, vStr]
theorem Zq (l : List AV) : yJ (some l) = xo l := rfl
theorem Le {t : List Nat} (h : t.length < 9223372036854775808) (l : List (Nat × Option AObj)) (n m : Nat) (hd : List (Nat × Nat)) (on : Option (Nat × List Nat)) (e : Nat) : oCsb (KL l n m true hd on) e (.str t) = some (.lst t.length false (zh t), KL l n m true hd on) := by
 simp only [oCsb, ye, zP.2 h, cond_true, WK]
theorem ZD : z5 [] = true := rfl
theorem ZF (v : AV) (r : List AV) : z5 (v :: r) = (scal v && z5 r) := by simp only [z5]; cases scal v <;> rfl
theorem XH (k : IntKind) (n : Int) : scal (.int k n) = true := by simp only [scal]
theorem Wp (s : List Nat) : scal (.str s) = true := by simp only [scal]
theorem Jt (b : Bool) : scal (.bool b) = true := by simp only [scal]
theorem WD (n : Nat) (e : Bool) (l : List AV) : scal (.lst n e l) = true := by simp only [scal]
theorem zxj (i e n : Nat) (l : List AV) : scal (.gr i e n l) = true := by simp only [scal]
theorem Kh : scal .nils = true := by simp only [scal]
theorem HZ (i o : Nat) : scal (.ptr i o) = true := by simp only [scal]
theorem PX (i : Nat) : scal (.map i) = true := by simp only [scal]
theorem zyb {a b : Nat} (h : a < b) : decide (a < b) = true := decide_eq_true h
theorem zyc {a b : Nat} (h : b ≤ a) : decide (a < b) = false := decide_eq_false (by omega)
theorem zyH {a b : Nat} (h : a ≠ b) : decide (a = b) = false := decide_eq_false h
theorem Lk (k : IntKind) {a n : Nat} (h : a < n) : idx (.int k (.ofNat a)) n = some a := by rw [zzZ, if_pos h]
theorem vO {l : List AV} {n : Nat} (h : l.length = n) : yz n l = some l := by
 subst h
 induction l with
 | nil => rfl
 | cons v r ih => simp only [List.length_cons, yz, ih]
theorem jV (n : Nat) (e : Bool) (cs : List AV) : vD (.lst n e cs) = some n := rfl
theorem ZH (l : List (Nat × Option AObj)) (n m : Nat) (hd : List (Nat × Nat)) (on : Option (Nat × List Nat)) (t esz bytes : Nat) (e : Bool) (cs : List AV) (hl : cs.length = esz) (h1 : 1 ≤ esz) (hb : 2 * bytes ≤ 281474976710656) (hp : zu cs = true) :
  appV (KL l n m true hd on) t esz bytes .nils (.lst 1 e cs) = some (.gr n esz 1 cs, KL ((n, some (.app t cs)) :: l) (n + 1) m true hd on) := by
 have h2 : yz (Nat.mul 1 esz) cs = some cs := vO (by rw [hl]; show esz = 1 * esz; omega)
 simp only [appV, jV, xI, h2, appW, WK, hp, Bool.and_self, cond_true, uv]
 rw [show Nat.ble (Nat.mul (Nat.mul 2 1) bytes) 281474976710656 = true from zL.2 (by show 2 * 1 * bytes ≤ _; omega), show Nat.ble 1 esz = true from zL.2 h1]
 rfl
theorem zyR (l : List (Nat × Option AObj)) (n m : Nat) (b : Bool) (t esz bytes id k : Nat) (e : Bool) (old cs : List AV) (hg : getA l id = some (.app t old)) (hl : cs.length = esz) (h1 : 1 ≤ esz) (hb : 2 * (k + 1) * bytes ≤ 281474976710656) (hk : k < 1000000000) (hp : zu old = true) (hp2 : zu cs = true) (hs : z5 cs = true) :
  appV (KL l n m b [] none) t esz bytes (.gr id esz k old) (.lst 1 e cs) = some (.gr n esz (k + 1) (old ++ cs), KL ((n, some (.app t (old ++ cs))) :: (id, none) :: l) (n + 1) (m ||| 1 <<< id) b [] none) := by
 have h2 : yz (Nat.mul 1 esz) cs = some cs := vO (by rw [hl]; show esz = 1 * esz; omega)
 have h3 : zu (old ++ cs) = true := by rw [yB, hp, hp2]; rfl
 simp only [appV, jV, xI, h2, appW, xj, hg, zw.2, hs, Bool.and_self, cond_true, uv, h3]
 rw [show Nat.ble (Nat.mul (Nat.mul 2 (Nat.add k 1)) bytes) 281474976710656 = true from zL.2 hb, show Nat.ble 1 esz = true from zL.2 h1, show Nat.blt (Nat.add k 1) 9223372036854775808 = true from zP.2 (by show k + 1 < _; omega)]
 rfl
theorem zxy (l : List (Nat × Option AObj)) (n m : Nat) (hd : List (Nat × Nat)) (on : Option (Nat × List Nat)) (e len : Nat) (cs : List AV) (hp : zu cs = true) : oBsl (KL l n m true hd on) e len (some cs) = some (.lst len true cs, KL l n m true hd on) := by
 simp only [oBsl, WK, hp, Bool.and_self, cond_true]
noncomputable def Hm (zs : List AV) (off n : Nat) (tm : Trie AV) (r : List (Nat × Nat × Opd)) : Option AV → Option (List AV)
 | some v => bif Nat.beq (lenN v.cells) n && Nat.ble 1 n then (match wz zs off v.cells with
   | some zs' => wD zs' tm r
   | none => none) else none
 | none => none
theorem GF (zs : List AV) (tm : Trie AV) : wD zs tm [] = some zs := rfl
theorem Vr (zs : List AV) (tm : Trie AV) (off n : Nat) (x : Opd) (r : List (Nat × Nat × Opd)) : wD zs tm ((off, n, x) :: r) = Hm zs off n tm r (x.ev tm) := by
 simp only [wD, Hm]; cases x.ev tm <;> rfl
theorem Vv (zs : List AV) (off n : Nat) (tm : Trie AV) (r : List (Nat × Nat × Opd)) (v : AV) : Hm zs off n tm r (some v) = bif Nat.beq (lenN v.cells) n && Nat.ble 1 n then (match wz zs off v.cells with
   | some zs' => wD zs' tm r
   | none => none) else none := rfl
theorem WF {P : Program} {w0 : World} {E : Env} {O : Orc} (hO : OrcOk P w0 O) (hm : P.follows .mixedOrders = true) (hG : zH E.globs w0) (hE : vg P E) {n f : Nat} {args : List AV} {v : AV} (h : okV v ((evT E O n).call f args s0) = true) : ∃ s1, SC P w0 f args (s00 0 false) v s1 := by
 obtain ⟨s1, hs⟩ := Ph h
 have := (lZ hO.ext hm hG hE hO.ok n).call hs
 exact ⟨s1, this.1, fun φ w xs r hwf hf hx F k hF => this.2 r hwf hf hx F k hF⟩
section
variable {P : Program} {w0 : World} {f : Nat} {α : Type}
theorem SC.args {args args' : List AV} {s s' : St} {v : AV} (h : SC P w0 f args' s v s') (hw : ∀ φ xs, VRL φ args xs → VRL φ args' xs) : SC P w0 f args s v s' :=
 ⟨h.1, fun φ w xs r hwf hf hx F n hF => h.2 φ w xs r hwf hf (hw φ xs hx) F n hF⟩
open Classical in
noncomputable def orc0 (enc : α → List AV) (Pre : α → Prop) (F : α → AV) (args : List AV) (s : St) : Option (AV × St) :=
 if h : ∃ x, enc x = wkL args ∧ Pre x then some (F (Classical.choose h), s) else none
theorem yM {enc : α → List AV} {Pre : α → Prop} {F : α → AV} (inj : ∀ x y, enc x = enc y → x = y) {args : List AV} (s : St) (x : α) (hp : Pre x) (ha : wkL args = enc x) : orc0 enc Pre F args s = some (F x, s) := by
 have h : ∃ x, enc x = wkL args ∧ Pre x := ⟨x, ha.symm, hp⟩
 unfold orc0
 rw [dif_pos h]
 have := Classical.choose_spec h
 rw [inj _ x (this.1.trans ha)]
theorem yV {enc : α → List AV} {Pre : α → Prop} {F : α → AV} (args : List AV) (s : St) (v : AV) (s' : St) (h : orc0 enc Pre F args s = some (v, s')) : Ext s s' := by
 unfold orc0 at h
 split at h
 ·cases h; exact Ext.refl _
 ·cases h
theorem wP {enc : α → List AV} {Pre : α → Prop} {F : α → AV} (b : Bool) (hp1 : ∀ x, zu (enc x) = true) (hp2 : ∀ x, zD (F x) = true) (h : ∀ x, Pre x → ∃ s1, SC P w0 f (enc x) (s00 0 b) (F x) s1) : w9 P w0 f (orc0 enc Pre F) := by
 intro args s v s' hg
 unfold orc0 at hg
 split at hg
 ·rename_i hx
  cases hg
  obtain ⟨h1, h2⟩ := Classical.choose_spec hx
  obtain ⟨s1, hs⟩ := h _ h2
  refine SC.args (SC.up hs (hp1 _) (hp2 _) s) fun φ xs hv => ?_
  rw [h1]; exact xJ hv
 ·cases hg
open Classical in
noncomputable def XA (enc : α → Nat × List AV × List AV) (Pre : α → Prop) (F : α → AV × List AV) (s : St) (id : Nat) (r : List AV) : Option AObj → Option (AV × St)
 | some (.row e cells false false) => if h : ∃ x, enc x = (e, wkL cells, wkL r) ∧ Pre x then some ((F (Classical.choose h)).1, s.put id (.row e (F (Classical.choose h)).2 false false)) else none
 | _ => none
noncomputable def orc1 (enc : α → Nat × List AV × List AV) (Pre : α → Prop) (F : α → AV × List AV) (args : List AV) (s : St) : Option (AV × St) :=
 match args with
 | .ptr id 0 :: r => XA enc Pre F s id r (s.get id)
 | _ => none
theorem qB (enc : α → Nat × List AV × List AV) (Pre : α → Prop) (F : α → AV × List AV) (id : Nat) (r : List AV) (s : St) : orc1 enc Pre F (.ptr id 0 :: r) s = XA enc Pre F s id r (s.get id) := rfl
theorem v6 {enc : α → Nat × List AV × List AV} {Pre : α → Prop} {F : α → AV × List AV} (inj : ∀ x y, enc x = enc y → x = y) (s : St) (id : Nat) {r : List AV} {e : Nat} {cells : List AV} (x : α) (hp : Pre x) (h1 : enc x = (e, wkL cells, wkL r)) :
  XA enc Pre F s id r (some (.row e cells false false)) = some ((F x).1, s.put id (.row e (F x).2 false false)) := by
 have h : ∃ x, enc x = (e, wkL cells, wkL r) ∧ Pre x := ⟨x, h1, hp⟩
 simp only [XA]
 rw [dif_pos h]
 have := Classical.choose_spec h
 rw [inj _ x (this.1.trans h1.symm)]
theorem XQ {enc : α → Nat × List AV × List AV} {Pre : α → Prop} {F : α → AV × List AV} {args : List AV} {s : St} {v : AV} {s' : St} (h : orc1 enc Pre F args s = some (v, s')) :
  ∃ id r e cells x, args = .ptr id 0 :: r ∧ s.get id = some (.row e cells false false) ∧ enc x = (e, wkL cells, wkL r) ∧ Pre x ∧ v = (F x).1 ∧ s' = s.put id (.row e (F x).2 false false) := by
 unfold orc1 at h
 split at h
 ·rename_i id r
  unfold XA at h
  split at h
  ·rename_i e cells hg
   split at h
   ·rename_i hx
    cases h
    obtain ⟨h1, h2⟩ := Classical.choose_spec hx
    exact ⟨id, r, e, cells, _, rfl, hg, h1, h2, rfl, rfl⟩
   ·cases h
  ·cases h
 ·cases h
theorem vT {enc : α → Nat × List AV × List AV} {Pre : α → Prop} {F : α → AV × List AV} (args : List AV) (s : St) (v : AV) (s' : St) (h : orc1 enc Pre F args s = some (v, s')) : Ext s s' := by
 obtain ⟨id, r, e, cells, x, _, hg, _, _, _, rfl⟩ := XQ h
 exact lx s id _ _ (zE hg) (zZ hg) rfl
theorem gs {enc : α → Nat × List AV × List AV} {Pre : α → Prop} {F : α → AV × List AV} (b : Bool) (hp : ∀ x, Pre x → zu (enc x).2.1 = true ∧ zu (enc x).2.2 = true ∧ zD (F x).1 = true ∧ zu (F x).2 = true)
  (h : ∀ x, Pre x → SC P w0 f (.ptr 0 0 :: (enc x).2.2) (H [some (.row (enc x).1 (enc x).2.1 false false)] 0 b) (F x).1 (H [some (.row (enc x).1 (F x).2 false false)] 1 b)) : w9 P w0 f (orc1 enc Pre F) := by
 intro args s v s' hg
 obtain ⟨id, r, e, cells, x, rfl, hs, he, hx, rfl, rfl⟩ := XQ hg
 obtain ⟨h1, h2, h3, h4⟩ := hp x hx
 have hsc := h x hx
 rw [he] at h1 h2 hsc
 refine SC.args (SC.up1 hsc h2 h1 h4 h3 hs rfl) fun φ xs hv => ?_
 simp only [VRL] at hv ⊢
 obtain ⟨y, ys, rfl, q1, q2⟩ := hv
 exact ⟨y, ys, rfl, q1, xJ q2⟩
end
theorem HG (S : Self) (l : Nat) (vs : List AV) (s : St) : evCv S (some (.yld l)) (some vs) s = S.round l vs s := rfl
theorem YY (E : Env) (O : Orc) (l : Nat) (a : List AV) (s : St) : (evW E O).round l a s = x6 E (evW E O) l a s := by
 cases h : x6 E (evW E O) l a s with
 | some r => exact Jq h
 | none =>
  cases h2 : (evW E O).round l a s with
  | none => rfl
  | some r =>
   obtain ⟨n, hn⟩ := yU (α := AV × St) h2
   cases n with
   | zero => cases hn
   | succ n =>
    have h3 : x6 E (evT E O n) l a s = some r := hn
    have h4 : LeS (evT E O n) (evW E O) := ⟨fun f a s r h => wj (fun n r h => (x8 E O n).call _ _ _ _ h) h, fun rd b fr s r h => wj (fun n r h => (x8 E O n).loop _ _ _ _ _ h) h, fun l a s r h => wj (fun n r h => (x8 E O n).round _ _ _ _ h) h⟩
    rw [(gi E l a s).up _ _ h4 r h3] at h; cases h
theorem XY (E : Env) (O : Orc) (rd : Option Nat) (b : ICode) (fr : Fr) (s : St) : (evW E O).loop rd b fr s = evC E (evW E O) rd (.loop b) fr s := by
 cases h : evC E (evW E O) rd (.loop b) fr s with
 | some r => exact H1 h
 | none =>
  cases h2 : (evW E O).loop rd b fr s with
  | none => rfl
  | some r =>
   obtain ⟨n, hn⟩ := yU (α := Res × Fr × St) h2
   cases n with
   | zero => cases hn
   | succ n =>
    have h3 : evC E (evT E O n) rd (.loop b) fr s = some r := hn
    have h4 : LeS (evT E O n) (evW E O) := ⟨fun f a s r h => wj (fun n r h => (x8 E O n).call _ _ _ _ h) h, fun rd b fr s r h => wj (fun n r h => (x8 E O n).loop _ _ _ _ _ h) h, fun l a s r h => wj (fun n r h => (x8 E O n).round _ _ _ _ h) h⟩
    rw [(wE E rd (.loop b) fr s).up _ _ h4 r h3] at h; cases h
theorem XO (E : Env) (O : Orc) (rd : Option Nat) (b : ICode) (fr : Fr) (s : St) : evC E (evW E O) rd (.loop b) fr s = xZ (fun f t => evC E (evW E O) rd (.loop b) f t) (evC E (evW E O) rd b fr s) := by
 show xZ ((evW E O).loop rd b) _ = _
 congr 1
 funext f t
 exact XY E O rd b f t
noncomputable def rdK2 (E : Env) (S : Self) (l : Nat) (asg body : ICode) (s : St) : Option (Trie AV) → Option (AV × St)
 | some tm => yT E S l body (evC E S (some l) asg { tm := tm, df := [] } s)
 | none => none
noncomputable def rdK1 (E : Env) (S : Self) (l : Nat) (args : List AV) (s : St) : Option AObj → Option (AV × St)
 | some (.loop _ _ tm ps asg body _) => rdK2 E S l asg body s (v5 tm ps args)
 | _ => none
theorem JV (E : Env) (S : Self) (l : Nat) (args : List AV) (s : St) : x6 E S l args s = rdK1 E S l args s (s.get l) := by
 unfold x6 rdK1
 cases s.get l with
 | none => rfl
 | some o => cases o <;> first | rfl | (simp only [rdK2]; split <;> simp_all)
theorem Jp (E : Env) (S : Self) (l : Nat) (args : List AV) (s : St) (st : LSt) (pd : Option Res) (tm : Trie AV) (ps : List Nat) (asg body : ICode) (d : Nat) : rdK1 E S l args s (some (.loop st pd tm ps asg body d)) = rdK2 E S l asg body s (v5 tm ps args) := rfl
theorem GC (E : Env) (S : Self) (l : Nat) (asg body : ICode) (s : St) (tm : Trie AV) : rdK2 E S l asg body s (some tm) = yT E S l body (evC E S (some l) asg { tm := tm, df := [] } s) := rfl
noncomputable def rbK (E : Env) (S : Self) (l : Nat) (bd : ICode) (fr : Fr) (s : St) : Option AObj → Option (AV × St)
 | some (.loop .ready pd tm ps asg body d) => xH l (evC E S (some l) bd fr (s.put l (.loop .busy pd tm ps asg body d)))
 | _ => none
theorem lI (E : Env) (S : Self) (l : Nat) (bd : ICode) (fr : Fr) (s : St) : yT E S l bd (some (.norm, fr, s)) = rbK E S l bd fr s (s.get l) := by
 unfold yT rbK
 simp only
 cases s.get l with
 | none => rfl
 | some o => cases o <;> first | rfl | (rename_i st _ _ _ _ _ _; cases st <;> rfl)
theorem JR (E : Env) (S : Self) (l : Nat) (bd : ICode) (fr : Fr) (s : St) (pd : Option Res) (tm : Trie AV) (ps : List Nat) (asg body : ICode) (d : Nat) : rbK E S l bd fr s (some (.loop .ready pd tm ps asg body d)) = xH l (evC E S (some l) bd fr (s.put l (.loop .busy pd tm ps asg body d))) := rfl
noncomputable def reK (l : Nat) (r : Res) (s : St) : Option AObj → Option (AV × St)
 | some (.loop _ _ tm ps asg body d) => match r with
  | .norm => some (.bool true, s.put l (.loop .ready none tm ps asg body d))
  | r => some (.bool false, s.put l (.loop .done (some r) tm ps asg body d))
 | _ => none
theorem Zo (l : Nat) (r : Res) (fr : Fr) (s : St) : xH l (some (r, fr, s)) = reK l r s (s.get l) := by
 unfold xH reK
 simp only
 cases s.get l with
 | none => rfl
 | some o => cases o <;> first | rfl | (cases r <;> rfl)
theorem P5 (l : Nat) (s : St) (st : LSt) (pd : Option Res) (tm : Trie AV) (ps : List Nat) (asg body : ICode) (d : Nat) : reK l .norm s (some (.loop st pd tm ps asg body d)) = some (.bool true, s.put l (.loop .ready none tm ps asg body d)) := rfl
theorem zwy (E : Env) (S : Self) (rd : Option Nat) (g : Opd) (ps : List Nat) (asg body : ICode) (fr : Fr) (s : St) : evC E S rd (.rf g ps asg body) fr s = rfR S rd (g.ev fr.tm) ps asg body fr s := rfl
theorem zwD (S : Self) (f : Nat) (a c : List AV) (ps : List Nat) (asg body : ICode) (tm : Trie AV) (df : List Nat) (s : St) : rfR S none (some (.fn f a c)) ps asg body ⟨tm, df⟩ s = uz ⟨tm, df⟩ (s.next + 1) s.next (S.call f (a ++ .yld (s.next + 1) :: c) ((s.alloc .dfd).alloc (.loop .ready none tm ps asg body s.next))) := rfl
noncomputable def feK (fr : Fr) (l d : Nat) (s : St) : Option AObj → Option (Res × Fr × St)
 | some (.loop st pend tm ps asg body dd) => match st with
  | .busy => none
  | _ => some (WQ pend, { fr with df := d :: fr.df }, s.put l (.loop .exhausted pend tm ps asg body dd))
 | _ => none
theorem QC (fr : Fr) (l d : Nat) (v : AV) (s : St) : uz fr l d (some (v, s)) = feK fr l d s (s.get l) := by
 unfold uz feK
 simp only
 cases s.get l with
 | none => rfl
 | some o => cases o <;> rfl
theorem JF (tm0 : Trie AV) (df : List Nat) (l d : Nat) (s : St) (pend : Option Res) (tm : Trie AV) (ps : List Nat) (asg body : ICode) (dd : Nat) : feK ⟨tm0, df⟩ l d s (some (.loop .ready pend tm ps asg body dd)) = some (WQ pend, ⟨tm0, d :: df⟩, s.put l (.loop .exhausted pend tm ps asg body dd)) := rfl
theorem Q1 : WQ none = .norm := rfl
theorem zxz (n0 f : Nat) (a c : List AV) : frzA n0 (.fn f a c) = bif zD (.fn f a c) then some (.fn f a c) else none := rfl
def y6 {α : Type} (f : α → List AV) : List α → List AV
 | [] => []
 | x :: r => f x ++ y6 f r
section
variable {α : Type} {f : α → List AV} {k : Nat}
theorem qu : ∀ l m : List α, y6 f (l ++ m) = y6 f l ++ y6 f m
 | [], _ => rfl
 | x :: r, m => by simp only [List.cons_append, y6, qu r m, List.append_assoc]
theorem JQ (x : α) : y6 f [x] = f x := by simp only [y6, List.append_nil]
theorem jU (h : ∀ x, (f x).length = k) : ∀ (i : Nat) (l : List α), yw (i * k) (y6 f l) = y6 f (l.drop i)
 | 0, l => by rw [xu]; simp
 | i + 1, [] => by rw [xu]; simp [y6]
 | i + 1, x :: r => by
  rw [xu]
  simp only [y6, List.drop_succ_cons]
  rw [← jU h i r, xu, Nat.succ_mul, Nat.add_comm, ← List.drop_drop]
  congr 1
  rw [← h x]; simp
theorem uf (h : ∀ x, zu (f x) = true) : ∀ l : List α, zu (y6 f l) = true
 | [] => rfl
 | x :: r => by simp only [y6, yB, h, uf h r, Bool.and_self]
theorem Ww (h : ∀ x, wkL (f x) = f x) : ∀ l : List α, wkL (y6 f l) = y6 f l
 | [] => rfl
 | x :: r => by
  have ap : ∀ a b : List AV, wkL (a ++ b) = wkL a ++ wkL b := fun a b => by
   induction a with
   | nil => rfl
   | cons v a ih => simp only [List.cons_append, wkL, ih]
  simp only [y6, ap, h, Ww h r]
theorem ZQ (hk : ∀ x, (f x).length = k) (h0 : 0 < k) (h : ∀ x y, f x = f y → x = y) : ∀ {l m : List α}, y6 f l = y6 f m → l = m
 | [], [], _ => rfl
 | [], y :: m, e => by
  have := congrArg List.length e; simp only [y6, List.length_nil, List.length_append, hk] at this; omega
 | x :: l, [], e => by
  have := congrArg List.length e; simp only [y6, List.length_nil, List.length_append, hk] at this; omega
 | x :: l, y :: m, e => by
  simp only [y6] at e
  obtain ⟨h1, h2⟩ := List.append_inj e (by rw [hk, hk])
  rw [h x y h1, ZQ hk h0 h h2]
end
inductive DT where
 | mk (k n : Int) (t : List Nat) (ks : List DT) (p : Int)
mutual
def zT : DT → List AV
 | .mk k n t ks p => [.int .i64 k, .int .i64 n, .str t, .lst ks.length false (zm ks), .int .i64 p]
def zm : List DT → List AV
 | [] => []
 | d :: r => zT d ++ zm r
end
def encD (d : DT) : AV := .agg (zT d)
theorem zb (k n : Int) (t : List Nat) (ks : List DT) (p : Int) : zT (.mk k n t ks p) = [.int .i64 k, .int .i64 n, .str t, .lst ks.length false (zm ks), .int .i64 p] := by simp only [zT]
theorem zg : zm [] = [] := by simp only [zm]
theorem zF (d : DT) (r : List DT) : zm (d :: r) = zT d ++ zm r := by simp only [zm]
theorem wQ : ∀ l : List DT, zm l = y6 zT l
 | [] => by simp only [zm, y6]
 | d :: r => by simp only [zm, y6, wQ r]
theorem w8 : ∀ d : DT, (zT d).length = 5
 | .mk _ _ _ _ _ => by simp only [zT, List.length_cons, List.length_nil]
theorem yr : ∀ d : DT, zu (zT d) = true
 | .mk _ _ _ _ _ => by simp only [zT, zB, zI, yu, yZ, yy, Bool.and_self]
theorem zt (l : List DT) : zu (zm l) = true := by rw [wQ]; exact uf yr l
theorem XU : ∀ d : DT, z5 (zT d) = true
 | .mk _ _ _ _ _ => by simp only [zT, z5, scal, cond_true]
mutual
theorem wY : ∀ d : DT, wkL (zT d) = zT d
 | .mk k n t ks p => by simp only [zT, wkL, wkV, z7 ks]
theorem z7 : ∀ l : List DT, wkL (zm l) = zm l
 | [] => by simp only [zm, wkL]
 | d :: r => by
  have ap : ∀ a b : List AV, wkL (a ++ b) = wkL a ++ wkL b := fun a b => by
   induction a with
   | nil => rfl
   | cons v a ih => simp only [List.cons_append, wkL, ih]
  simp only [zm, ap, wY d, z7 r]
end
mutual
theorem jL : ∀ {d e : DT}, zT d = zT e → d = e
 | .mk k n t ks p, .mk k' n' t' ks' p', h => by
  simp only [zT, List.cons.injEq, AV.int.injEq, AV.str.injEq, AV.lst.injEq, true_and, and_true] at h
  obtain ⟨rfl, rfl, rfl, ⟨_, h1⟩, rfl⟩ := h
  rw [qW h1]
theorem qW : ∀ {l m : List DT}, zm l = zm m → l = m
 | [], [], _ => rfl
 | [], d :: m, h => by
  have := congrArg List.length h; simp only [zm, List.length_nil, List.length_append, w8] at this; omega
 | d :: l, [], h => by
  have := congrArg List.length h; simp only [zm, List.length_nil, List.length_append, w8] at this; omega
 | d :: l, e :: m, h => by
  simp only [zm] at h
  obtain ⟨h1, h2⟩ := List.append_inj h (by rw [w8, w8])
  rw [jL h1, qW h2]
end
theorem yR (i : Nat) (l : List DT) : yw (i * 5) (zm l) = zm (l.drop i) := by rw [wQ, wQ]; exact jU w8 i l
theorem yi (l m : List DT) : zm (l ++ m) = zm l ++ zm m := by simp only [wQ]; exact qu l m
theorem uG {d e : DT} (h : encD d = encD e) : d = e := jL (by simpa [encD] using h)
structure Tok where
 kind : Nat
 pos : Nat
 d : DT
def xc (t : Tok) : List AV := .int .i64 (.ofNat t.kind) :: .int .i64 (.ofNat t.pos) :: zT t.d
def yf (l : List Tok) : List AV := y6 xc l
theorem lS (t : Tok) : (xc t).length = 7 := by simp only [xc, List.length_cons, w8]
theorem qf (t : Tok) : zu (xc t) = true := by simp only [xc, zB, yu, yr, Bool.and_self]
theorem Jf (t : Tok) : wkL (xc t) = xc t := by simp only [xc, wkL, wkV, wY]
theorem VN {t u : Tok} (h : xc t = xc u) : t = u := by
 obtain ⟨k, p, d⟩ := t
 obtain ⟨k', p', d'⟩ := u
 simp only [xc, List.cons.injEq, AV.int.injEq, true_and] at h
 obtain ⟨h1, h2, h3⟩ := h
 cases h1; cases h2; rw [jL h3]
theorem x1 (l : List Tok) : zu (yf l) = true := uf qf l
theorem zy (l : List Tok) : wkL (yf l) = yf l := Ww Jf l
theorem zn (i : Nat) (l : List Tok) : yw (i * 7) (yf l) = yf (l.drop i) := jU lS i l
theorem p7 (l m : List Tok) : yf (l ++ m) = yf l ++ yf m := qu l m
theorem XB {l m : List Tok} (h : yf l = yf m) : l = m := ZQ lS (by omega) (fun _ _ h => VN h) h
theorem zl (t : Tok) (l : List Tok) : yf (t :: l) = xc t ++ yf l := rfl
theorem qj : yf [] = [] := rfl
attribute [go_sem] yH zve Wh vM Jy VD Vn H_eq zxc zvJ WK xj V9 zwV Ld VC zxt P2 zxp zxX zxh zyZ zy7 zxT zzI H3 WO WN WZ YZ Kk VI Q2 LO zxN H2 Kq KF Hr zz7 zyO G5 zze YQ Zl VJ Wv YG WS Xd Po Jb Lo J1 Px Qy Hc PR KA Kt GX U1 P9 U0 GA Gl VF HJ U4 Ge Hy zxo GY zyK zxU K2 Q0 PT Qu HS zyq PL zzP Pe Pt He zyl zxO H9 HH Lm Lf LZ H4 Hv LI zxl zxm P7 HX zx0 zx2 zyM zzu HD zxk G8 H5 P3 GH zyP Qw QM Q6 Jg zzH zyA Wm VA X4 Lu zzU zzm zyd Lz K1 Pq zxR zzj J9 Jr Gi XN YE zyu U6 Qn VB QE QG Ka LJ zw2 zzX Zj po Gd zvU zvE zz2 Hu KN U9 QP Jn v1_k v2_k zyL zxf o1_k o2_k vL_k zvL zvD zvC zyJ zz3 zxL H6 zxG zz0 JI zzJ zzL zzT zx1 zzD zvq PC zy6 KG KQ UZ GB Gf Gp Ly HA JZ HR zxQ zxr zx6 P0 zzs LL GT HY PG Lr zzh zxE zyS zzA addI mulI subI zzd PZ zzw VS zw3 qM wH zzY Hz LG Qe Qk zxn KP Lq zyk Pf Lj Qs zza LU KD Qr zxe zwK LM zxP Ga zyi zyn zwc zvF zvP Jo PP PS KM HN Gk zzQ PF Vf Ws ql zzF QA KB lenN yz yw wz over GF Vr Vv z5 scal hid memN cond_true cond_false Bool.not_true Bool.not_false Bool.true_and Bool.false_and Bool.and_true Bool.and_false Bool.true_or Bool.false_or Bool.or_true Bool.or_false beq_true Bool.not_not beq_self_eq_true decide_true decide_false Nat.add_zero Nat.zero_add Nat.mul_one Nat.one_mul Nat.zero_mul Nat.sub_zero Nat.succ_eq_add_one Nat.le_refl Nat.lt_irrefl Nat.zero_le gt_iff_lt ge_iff_le ne_eq not_false_eq_true not_true_eq_false eq_self List.nil_append List.cons_append List.length_cons List.length_nil Xx and_self and_true true_and Option.some.injEq gcF gcTm gcDf gcB gcB1 gcK Py zxD zxK zym zwR zwX Lw KS zyN G2 renO rho Z2 kN wX yu yZ lX Zb yy lP wA yF Gy HM zI zB yq wkO Jl List.append_nil yB zw8 PK J7 G3 JA LY zzb P1 Ku GV Hx wkV wkL x3 Gr YL Kc Le ZH zyR zxy zyb zyc zyH Lk Nat.add_sub_cancel_left List.cons.injEq List.take_succ_cons List.take_zero false_and and_false HG YY JV Jp GC lI JR Zo P5 zwy zwD QC JF Q1 zxz
def sxP := And.intro (And.intro (And.intro (And.intro (And.intro @wX @yu) (And.intro @yZ @lX)) (And.intro (And.intro @VM @Jd) (And.intro @Zb @QL))) (And.intro (And.intro (And.intro @Vk @QH) (And.intro @yy @LH)) (And.intro (And.intro @U2 @lP) (And.intro @wA @yF)))) (And.intro (And.intro (And.intro (And.intro @zI @zB) (And.intro @yq @yB)) (And.intro (And.intro @ZF @ZD) (And.intro @XH @Wp))) (And.intro (And.intro (And.intro @Jt @WD) (And.intro @zxj @Kh)) (And.intro (And.intro @HZ @PX) (And.intro @vM @Wh))))
theorem dis {p : Prop} (h : p := by first | assumption | omega | rfl | (simp only [sxP, Bool.and_self, List.length_cons, List.length_nil, List.length_take, List.length_drop, ↓reduceIte, Nat.reduceEqDiff]; first | done | omega) | exact Nat.le_of_ble_eq_true rfl | ((repeat (first | assumption | apply Byt.drop | apply Byt.take)); done) | fail) : p := h
attribute [go_sem] Ko Kg Kn Kd Ke Kf Ki
open Go.RowKit (Below)
section
variable {φ φ1 : Phi} {ρ : Nat → Option Nat}
mutual
theorem Z4 (h : RenOk φ φ1 ρ) : ∀ {v v1 : AV} {x : Value}, renV ρ v = some v1 → VR φ1 v1 x → VR φ v x
 | .ptr id off, v1, x, hr, hv => by
  simp only [renV] at hr
  split at hr
  ·rename_i j hj; cases hr; simp only [VR] at hv ⊢; rw [← h.m id j hj]; exact hv
  ·cases hr
 | .sl id off len c, v1, x, hr, hv => by
  simp only [renV] at hr
  split at hr
  ·rename_i j hj; cases hr; simp only [VR] at hv ⊢; rw [← h.m id j hj]; exact hv
  ·cases hr
 | .map id, v1, x, hr, hv => by
  simp only [renV] at hr
  split at hr
  ·rename_i j hj; cases hr; simp only [VR] at hv ⊢; rw [← h.m id j hj]; exact hv
  ·cases hr
 | .yld id, v1, x, hr, hv => by
  simp only [renV] at hr
  split at hr
  ·rename_i j hj; cases hr; simp only [VR] at hv ⊢; rw [← h.m id j hj]; exact hv
  ·cases hr
 | .gr id e n cs, v1, x, hr, hv => by
  simp only [renV] at hr
  split at hr
  ·rename_i j hj
   cases hr; simp only [VR] at hv ⊢; rw [← h.m id j hj]
   obtain ⟨h1, h2, h3, h4, B, ys, h5, h6, h7, h8, h9⟩ := hv
   exact ⟨h1, h2, h3, h4, B, ys, h5, h6, h7, h8.mono (fun _ _ _ t => by rw [← h.z]; exact t), VRL.pure (fun _ _ _ t => by rw [← h.z]; exact t) _ _ h1 h9⟩
  ·cases hr
 | .fn f a c, v1, x, hr, hv => by
  simp only [renV] at hr
  split at hr
  ·rename_i a' c' ha hc
   cases hr; simp only [VR] at hv ⊢
   obtain ⟨xs, ys, e, h1, h2⟩ := hv
   exact ⟨xs, ys, e, qF h ha h1, qF h hc h2⟩
  ·cases hr
 | .ifc t v, v1, x, hr, hv => by
  simp only [renV] at hr
  split at hr
  ·rename_i v' hv'
   cases hr; simp only [VR] at hv ⊢
   obtain ⟨y, e, h1⟩ := hv
   exact ⟨y, e, Z4 h hv' h1⟩
  ·cases hr
 | .agg cs, v1, x, hr, hv => by
  simp only [renV] at hr
  split at hr
  ·rename_i c' hc
   cases hr; simp only [VR] at hv ⊢
   obtain ⟨xs, e, h1⟩ := hv
   exact ⟨xs, e, qF h hc h1⟩
  ·cases hr
 | .tup cs, v1, x, hr, hv => by
  simp only [renV] at hr
  split at hr
  ·rename_i c' hc
   cases hr; simp only [VR] at hv ⊢
   obtain ⟨xs, e, h1⟩ := hv
   exact ⟨xs, e, qF h hc h1⟩
  ·cases hr
 | .bool _, v1, x, hr, hv => by simp only [renV, Option.some.injEq] at hr; subst hr; simpa [VR] using hv
 | .int _ _, v1, x, hr, hv => by simp only [renV, Option.some.injEq] at hr; subst hr; simpa [VR] using hv
 | .str _, v1, x, hr, hv => by simp only [renV, Option.some.injEq] at hr; subst hr; simpa [VR] using hv
 | .nilp, v1, x, hr, hv => by simp only [renV, Option.some.injEq] at hr; subst hr; simpa [VR] using hv
 | .gptr _ _, v1, x, hr, hv => by simp only [renV, Option.some.injEq] at hr; subst hr; simpa [VR] using hv
 | .sl0, v1, x, hr, hv => by simp only [renV, Option.some.injEq] at hr; subst hr; simpa [VR] using hv
 | .nils, v1, x, hr, hv => by simp only [renV, Option.some.injEq] at hr; subst hr; simpa [VR] using hv
 | .nilm, v1, x, hr, hv => by simp only [renV, Option.some.injEq] at hr; subst hr; simpa [VR] using hv
 | .nilf, v1, x, hr, hv => by simp only [renV, Option.some.injEq] at hr; subst hr; simpa [VR] using hv
 | .nili, v1, x, hr, hv => by simp only [renV, Option.some.injEq] at hr; subst hr; simpa [VR] using hv
 | .lst n ex cs, v1, x, hr, hv => by
  simp only [renV, Option.some.injEq] at hr; subst hr
  exact VR.pure (fun _ _ _ t => by rw [← h.z]; exact t) _ _ rfl hv
 | .vp cs, v1, x, hr, hv => by
  simp only [renV, Option.some.injEq] at hr; subst hr
  exact VR.pure (fun _ _ _ t => by rw [← h.z]; exact t) _ _ rfl hv
theorem qF (h : RenOk φ φ1 ρ) : ∀ {l l1 : List AV} {xs : List Value}, renC ρ (zu l) l = some l1 → VRL φ1 l1 xs → VRL φ l xs := fun {l l1 xs} hr hv => by
  unfold renC at hr
  cases hp : zu l with
  | true =>
   rw [hp] at hr; simp only [cond_true, Option.some.injEq] at hr; subst hr
   exact VRL.pure (fun _ _ _ t => by rw [← h.z]; exact t) _ _ hp hv
  | false => rw [hp] at hr; simp only [cond_false] at hr; exact kK h hr hv
theorem kK (h : RenOk φ φ1 ρ) : ∀ {l l1 : List AV} {xs : List Value}, renL ρ l = some l1 → VRL φ1 l1 xs → VRL φ l xs
 | [], l1, xs, hr, hv => by simp only [renL, Option.some.injEq] at hr; subst hr; simpa [VRL] using hv
 | v :: r, l1, xs, hr, hv => by
  simp only [renL] at hr
  split at hr
  ·rename_i v' r' h1 h2
   cases hr
   simp only [VRL] at hv
   obtain ⟨y, ys, rfl, h3, h4⟩ := hv
   exact VRL.cons (Z4 h h1 h3) (kK h h2 h4)
  ·cases hr
end
theorem X5 {ρ : Nat → Option Nat} {o o1 : AObj} (h : renO ρ o = some o1) : ZT o1 = ZT o ∧ (∀ B z, SepOf o1 B z → SepOf o B z) := by
 cases o <;> simp only [renO] at h
 case row e cells x fz =>
  split at h
  ·cases h; exact ⟨rfl, fun _ _ t => t⟩
  ·cases h
 case map es clock =>
  cases hp : g9 es <;> rw [hp] at h <;> simp at h
  subst h; exact ⟨rfl, fun _ _ t => t⟩
 case siter => cases h; exact ⟨rfl, fun _ _ t => t⟩
 case miter m since seen stepped =>
  cases m with
  | none => cases h; exact ⟨rfl, fun _ _ t => t⟩
  | some id =>
   simp only at h
   split at h
   ·cases h; exact ⟨rfl, fun _ _ t => t⟩
   ·cases h
 case loop => cases h
 case dfd => cases h; exact ⟨rfl, fun _ _ t => t⟩
 case dfd0 => cases h; exact ⟨rfl, fun _ _ t => t⟩
 case giv cells =>
  split at h
  ·cases h; exact ⟨rfl, fun _ _ t => t⟩
  ·cases h
 case app e cells =>
  cases hp : zu cells <;> rw [hp] at h <;> simp at h
  subst h; exact ⟨rfl, fun _ _ t => t⟩
theorem Gh {P : Program} (h : RenOk φ φ1 ρ) {w : World} {o o1 : AObj} {B : Blk} (hr : renO ρ o = some o1) (t : ObjRel P φ1 w o1 B) : ObjRel P φ w o B := by
 have hz : ∀ b o v, φ1.z b o = some v → φ.z b o = some v := fun _ _ _ t => by rw [← h.z]; exact t
 cases o <;> simp only [renO] at hr
 case row e cells x fz =>
  split at hr
  ·rename_i cs hc
   cases hr
   have hl := j9 hc
   simp only [ObjRel] at t ⊢
   obtain ⟨c, fr, h1, h2, h3, h4, h5, h6⟩ := t
   rw [hl] at h3 h4 h5
   exact ⟨c, fr, h1, h2, h3, h4, qF h hc h5, h6⟩
  ·cases hr
 case map es clock =>
  cases hp : g9 es <;> rw [hp] at hr <;> simp at hr
  subst hr
  obtain ⟨ents, h1, h2⟩ := t
  exact ⟨ents, h1, h2.pure hz hp⟩
 case siter => cases hr; exact t
 case miter m since seen stepped =>
  cases m with
  | none => cases hr; exact t
  | some id =>
   simp only at hr
   split at hr
   ·rename_i j hj
    cases hr
    simp only [ObjRel] at t ⊢
    obtain ⟨h0, m', h1, B', hB, e⟩ := t
    exact ⟨h0, m', h1, B', (h.m id j hj).symm.trans hB, e⟩
   ·cases hr
 case loop => cases hr
 case dfd => cases hr; exact t
 case dfd0 => cases hr; exact t
 case giv cells =>
  split at hr
  ·rename_i cs hc
   cases hr
   have hl := j9 hc
   simp only [ObjRel] at t ⊢
   obtain ⟨c, e, fr, h1, h2, h3⟩ := t
   rw [hl] at h2 h3
   exact ⟨c, e, fr, h1, h2, qF h hc h3⟩
  ·cases hr
 case app e cells =>
  cases hp : zu cells <;> rw [hp] at hr <;> simp at hr
  subst hr
  obtain ⟨c, fr, h1, h2, h3, h4, h5⟩ := t
  exact ⟨c, fr, h1, h2, h3, VRL.pure hz _ _ hp h4, h5⟩
end
def iot (ids : List Nat) (i : Nat) : Option Nat := ids[i]?
def iot' (ids : List Nat) (n k : Nat) (i : Nat) : Option Nat := if i < ids.length then ids[i]? else if i < k then some (n + (i - ids.length)) else none
structure Emb (s s' : St) (ids : List Nat) (os : List (Option AObj)) (M : Nat) : Prop where
 ext : Ext s s'
 len : ids.length ≤ os.length
 next : s'.next = s.next + (os.length - ids.length)
 old : ∀ id, id < s.next → (∀ i, ids[i]? = some id → M.testBit i = false) → ∀ o, s'.get id = some o ↔ s.get id = some o
 own : ∀ i id, ids[i]? = some id → M.testBit i = true → ∀ o1, s'.get id = some o1 → ∃ o, getO os i = some o ∧ renO (iot' ids s.next os.length) o = some o1
 new : ∀ j, ids.length ≤ j → j < os.length → ∀ o1, s'.get (s.next + (j - ids.length)) = some o1 → ∃ o, getO os j = some o ∧ renO (iot' ids s.next os.length) o = some o1
 bit : ∀ i id, ids[i]? = some id → M.testBit i = true → s'.wm.testBit id = true
theorem SC.emb {P : Program} {w0 : World} {f : Nat} {args args' : List AV} {v v' : AV} {os os' : List (Option AObj)} {b b' : Bool} {M : Nat} {s s' : St} {ids : List Nat} (h : SC P w0 f args (H os 0 b) v (H os' M b'))
  (hl : ids.length = os.length) (hnd : ids.Nodup) (hos : ∀ i id, ids[i]? = some id → ∃ o o1, getO os i = some o ∧ renO (iot ids) o = some o1 ∧ s.get id = some o1)
  (ha : renL (iot ids) args = some args') (hv : renV (iot' ids s.next os'.length) v = some v') (he : Emb s s' ids os' M) : SC P w0 f args' s v' s' := by
 refine ⟨h.1, fun φ w xs rl hwf hf hx F k hF => ?_⟩
 obtain ⟨φc, hφc⟩ : ∃ φc : Phi, φc = ⟨fun i => match ids[i]? with | some k => φ k | none => none, φ.z⟩ := ⟨_, rfl⟩
 have pc : ∀ i id, ids[i]? = some id → φc i = φ id := fun i id hi => by rw [hφc]; show (match ids[i]? with | some k => φ k | none => none) = _; rw [hi]
 have pn : ∀ i, ids[i]? = none → φc i = none := fun i hi => by rw [hφc]; show (match ids[i]? with | some k => φ k | none => none) = _; rw [hi]
 have pz : φc.z = φ.z := by rw [hφc]
 have hren : RenOk φc φ (iot ids) := ⟨fun i id hi => (pc i id hi).symm, pz.symm⟩
 have idlt : ∀ i id, ids[i]? = some id → id < s.next := fun i id hi => by
  obtain ⟨o, o1, _, _, hg⟩ := hos i id hi
  exact hwf.lt id o1 (zE hg)
 have src0 : ∀ i o, (H os 0 b).get i = some o → ∃ id o1, ids[i]? = some id ∧ renO (iot ids) o = some o1 ∧ s.get id = some o1 := fun i o ho => by
  rw [lR] at ho
  have hlt := j4 ho
  have hi : ids[i]? = some (ids[i]'(by omega)) := List.getElem?_eq_getElem (by omega)
  obtain ⟨o', o1, q1, q2, q3⟩ := hos i _ hi
  rw [ho] at q1; cases q1
  exact ⟨_, o1, hi, q2, q3⟩
 have r0 : Rel P w0 φc (H os 0 b).get w := by
  refine ⟨rl.base, fun i o ho => ?_, fun i B hB => ?_, fun i o B ho hB hlt => ?_, fun i j o o' B1 B2 h1 h2 q1 q2 q3 => ?_, fun b' i u hu => ?_, fun i o B ho hB => ?_⟩
  ·obtain ⟨id, o1, h1, h2, h3⟩ := src0 i o ho
   obtain ⟨B, hB, t⟩ := rl.obj id o1 h3
   exact ⟨B, (pc i id h1).trans hB, Gh hren h2 t⟩
  ·cases hi : ids[i]? with
   | none => rw [pn i hi] at hB; cases hB
   | some id => rw [pc i id hi] at hB; exact rl.rng id B hB
  ·obtain ⟨id, o1, h1, h2, h3⟩ := src0 i o ho
   rw [← (w7 h2).1]; exact rl.old id o1 B h3 (by rw [← pc i id h1]; exact hB) hlt
  ·obtain ⟨id, o1, g1, _, g3⟩ := src0 i o h1
   obtain ⟨id', o1', g1', _, g3'⟩ := src0 j o' h2
   rcases rl.inj id id' o1 o1' B1 B2 g3 g3' (by rw [← pc i id g1]; exact q1) (by rw [← pc j id' g1']; exact q2) q3 with e | e
   ·subst e; exact .inl (kU hnd g1 g1')
   ·exact .inr e
  ·rw [pz] at hu; exact rl.frz b' i u hu
  ·obtain ⟨id, o1, h1, h2, h3⟩ := src0 i o ho
   rw [pz]; exact (X5 h2).2 B _ (rl.sep id o1 B h3 (by rw [← pc i id h1]; exact hB))
 have hf0 : ∀ i, os.length ≤ i → φc i = none := fun i hi => pn i (List.getElem?_eq_none (by omega))
 have hcall := h.2 φc w xs r0 (H_wf _ _ _) (fun i hi => hf0 i hi) (kK hren ha hx) F k hF
 refine CallsIn.mono hcall ?_
 rintro e1 w1 ⟨φ1, x, rfl, k1, k2⟩
 obtain ⟨φ', hφ'⟩ : ∃ φ' : Phi, φ' = ⟨fun id => if id < s.next then φ id else if id < s'.next then φ1 (ids.length + (id - s.next)) else none, φ1.z⟩ := ⟨_, rfl⟩
 have d1 : ∀ id, id < s.next → φ' id = φ id := fun id hid => by rw [hφ']; exact if_pos hid
 have d2 : ∀ id, s.next ≤ id → id < s'.next → φ' id = φ1 (ids.length + (id - s.next)) := fun id h1 h2 => by rw [hφ']; show (if id < s.next then φ id else _) = _; rw [if_neg (by omega), if_pos h2]
 have d3 : ∀ id, s'.next ≤ id → φ' id = none := fun id h1 => by
  have := he.next
  rw [hφ']; show (if id < s.next then φ id else _) = _; rw [if_neg (by omega), if_neg (by omega)]
 have dz : φ'.z = φ1.z := by rw [hφ']
 have sm : ∀ i id, ids[i]? = some id → φ1 i = φ id := fun i id hi => by
  have hlt : i < os.length := by
   have := (List.getElem?_eq_some_iff.1 hi).1; omega
  exact (k1.same i (.inl hlt)).trans (pc i id hi)
 have hn := he.next
 have hln := he.len
 have ren1 : RenOk φ1 φ' (iot' ids s.next os'.length) := ⟨fun i id hi => by
  unfold iot' at hi
  by_cases h1 : i < ids.length
  ·rw [if_pos h1] at hi
   rw [d1 id (idlt i id hi), sm i id hi]
  ·rw [if_neg h1] at hi
   by_cases h2 : i < os'.length
   ·rw [if_pos h2] at hi; cases hi
    rw [d2 _ (by omega) (by omega)]
    congr 1; omega
   ·rw [if_neg h2] at hi; exact absurd hi (by simp), dz⟩
 have hfrm : ∀ b', b' < w.heap.size → (∀ i id B, ids[i]? = some id → M.testBit i = true → φ id = some B → B.b ≠ b') → w1.heap[b']? = w.heap[b']? := fun b' hb' hq => k1.frame b' hb' fun i o B ho hB hbe => by
  obtain ⟨id, o1, g1, _, _⟩ := src0 i o ho
  cases hM : M.testBit i with
  | false => exact hM
  | true => exact absurd hbe (hq i id B g1 hM (by rw [← pc i id g1]; exact hB))
 have hz : ∀ b' i u, φ1.z b' i = some u → φ.z b' i = some u ∨ w.heap.size ≤ b' ∨ ∃ j id o B, ids[j]? = some id ∧ s.get id = some o ∧ φ id = some B ∧ B.b = b' ∧ M.testBit j = true := fun b' i u hu => by
  rcases k1.zown b' i u hu with h1 | h1 | ⟨j, o0, B0, q1, q2, q3, q4⟩
  ·rw [pz] at h1; exact .inl h1
  ·exact .inr (.inl h1)
  ·obtain ⟨id, o1, g1, _, g3⟩ := src0 j o0 q1
   exact .inr (.inr ⟨j, id, o1, B0, g1, g3, by rw [← pc j id g1]; exact q2, q3, q4⟩)
 have hzs : ∀ b' i u, φ.z b' i = some u → φ1.z b' i = some u := fun b' i u hu => k1.zsub b' i u (by rw [pz]; exact hu)
 have apart : ∀ id o B, s.get id = some o → φ id = some B → (∀ i, ids[i]? = some id → M.testBit i = false) → ∀ i id' B', ids[i]? = some id' → M.testBit i = true → φ id' = some B' → B'.b ≠ B.b := fun id o B hg hB hq i id' B' hi hM hB' heq => by
  obtain ⟨o', o1, g1, g2, g3⟩ := hos i id' hi
  rcases rl.inj id' id o1 o B' B g3 hg hB' hB heq with e | e
  ·subst e; rw [hq i hi] at hM; cases hM
  ·have hgv := rl.old id' o1 B' g3 hB' e
   rw [(w7 g2).1] at hgv
   have h9 := k1.ext.giv i o' (by show i < os.length; exact j4 g1) (by rw [jW]; exact g1) hgv hM
   have : (0 : Nat).testBit i = true := h9
   simp at this
 have hsub : Sub φ φ' := ⟨fun id B hB => by
  have hlt : id < s.next := by
   apply Nat.lt_of_not_le; intro hle; rw [hf id hle] at hB; cases hB
  rw [d1 id hlt]; exact hB, fun b' i u hu => by rw [dz]; exact hzs b' i u hu⟩
 have hwf' := he.ext.wf hwf
 have src : ∀ id o, s'.get id = some o → (id < s.next ∧ s.get id = some o ∧ (∀ i, ids[i]? = some id → M.testBit i = false)) ∨ (∃ j o0, getO os' j = some o0 ∧ renO (iot' ids s.next os'.length) o0 = some o ∧ φ' id = φ1 j ∧ ((id < s.next ∧ ids[j]? = some id ∧ M.testBit j = true) ∨ (s.next ≤ id ∧ ids.length ≤ j ∧ id = s.next + (j - ids.length)))) := fun id o ho => by
  by_cases hid : id < s.next
  ·by_cases hex : ∃ i, ids[i]? = some id ∧ M.testBit i = true
   ·obtain ⟨i, h1, h2⟩ := hex
    obtain ⟨o0, g1, g2⟩ := he.own i id h1 h2 o ho
    exact .inr ⟨i, o0, g1, g2, by rw [d1 id hid, sm i id h1], .inl ⟨hid, h1, h2⟩⟩
   ·have hq : ∀ i, ids[i]? = some id → M.testBit i = false := fun i hi => by
     cases hM : M.testBit i with
     | false => rfl
     | true => exact absurd ⟨i, hi, hM⟩ hex
    exact .inl ⟨hid, (he.old id hid hq o).1 ho, hq⟩
  ·have hlt := hwf'.lt id o (zE ho)
   have e1 : id = s.next + ((ids.length + (id - s.next)) - ids.length) := by omega
   obtain ⟨o0, g1, g2⟩ := he.new (ids.length + (id - s.next)) (by omega) (by omega) o (by rw [← e1]; exact ho)
   exact .inr ⟨_, o0, g1, g2, d2 id (by omega) hlt, .inr ⟨by omega, by omega, e1⟩⟩
 have zsame : ∀ id o B, s.get id = some o → φ id = some B → (∀ i, ids[i]? = some id → M.testBit i = false) → ∀ i, φ'.z B.b i = φ.z B.b i := fun id o B hg hB hq i => by
  rw [dz]
  cases h1 : φ1.z B.b i with
  | none =>
   cases h2 : φ.z B.b i with
   | none => rfl
   | some u => rw [hzs _ _ _ h2] at h1; cases h1
  | some u =>
   rcases hz _ _ _ h1 with h2 | h2 | ⟨j, id', o', B', g1, g2, g3, g4, g5⟩
   ·exact h2.symm
   ·have := rl.rng id B hB; omega
   ·exact absurd g4 (apart id o B hg hB hq j id' B' g1 g5 g3)
 have gc' : ∀ j o0, getO os' j = some o0 → (H os' M b').get j = some o0 := fun j o0 hj => by rw [lR]; exact hj
 have mix : ∀ i (oi : AObj) Bi j (oj : AObj) Bj c, (i < s.next ∧ s.get i = some oi ∧ ∀ k, ids[k]? = some i → M.testBit k = false) → φ' i = some Bi → φ' j = φ1 c → ((j < s.next ∧ ids[c]? = some j ∧ M.testBit c = true) ∨ (s.next ≤ j ∧ ids.length ≤ c ∧ j = s.next + (c - ids.length))) → φ' j = some Bj → Bi.b = Bj.b → False := by
  rintro i oi Bi j oj Bj c ⟨h1, h2, h3⟩ hBi g3 g4 hBj heq
  rw [d1 i h1] at hBi
  rw [g3] at hBj
  rcases g4 with ⟨g5, g6, g7⟩ | ⟨g5, g6, g7⟩
  ·rw [sm c j g6] at hBj
   exact apart i oi Bi h2 hBi h3 c j Bj g6 g7 hBj heq.symm
  ·have hc2 : c < (H os' M b').next := by
    apply Nat.lt_of_not_le; intro hle
    have : φ1 c = none := (k1.same c (.inr hle)).trans (hf0 c (by have : os'.length ≤ c := hle; omega))
    rw [this] at hBj; cases hBj
   rcases k1.own c Bj (by show os.length ≤ c; omega) hc2 hBj with e | ⟨m, o0, B0, q1, q2, q3, q4⟩
   ·have := rl.rng i Bi hBi; omega
   ·obtain ⟨id', o1, f1, _, f3⟩ := src0 m o0 q1
    exact apart i oi Bi h2 hBi h3 m id' B0 f1 q4 (by rw [← pc m id' f1]; exact q2) (q3.trans heq.symm)
 refine ⟨φ', x, rfl, ⟨he.ext, ⟨k1.rel.base, ?_, ?_, ?_, ?_, ?_, ?_⟩, ?_, k1.size, ?_, ?_, ?_, ?_⟩, ur ren1 hv k2⟩
 ·intro id o ho
  rcases src id o ho with ⟨h1, h2, h3⟩ | ⟨j, o0, h1, h2, h3, _⟩
  ·obtain ⟨B, hB, t⟩ := rl.obj id o h2
   exact ⟨B, (d1 id h1).trans hB, t.keep hsub (hfrm _ (rl.rng id B hB) fun i id' B' q1 q2 q3 => apart id o B h2 hB h3 i id' B' q1 q2 q3)⟩
  ·obtain ⟨B, hB, t⟩ := k1.rel.obj j o0 (gc' j o0 h1)
   exact ⟨B, h3.trans hB, jX ren1 h2 t⟩
 ·intro id B hB
  by_cases h1 : id < s.next
  ·rw [d1 id h1] at hB; have := rl.rng id B hB; have := k1.size; omega
  ·by_cases h2 : id < s'.next
   ·rw [d2 id (by omega) h2] at hB; exact k1.rel.rng _ B hB
   ·rw [d3 id (by omega)] at hB; cases hB
 ·intro id o B ho hB hlt
  rcases src id o ho with ⟨h1, h2, h3⟩ | ⟨j, o0, h1, h2, h3, _⟩
  ·exact rl.old id o B h2 (by rw [← d1 id h1]; exact hB) hlt
  ·rw [(w7 h2).1]; exact k1.rel.old j o0 B (gc' j o0 h1) (by rw [← h3]; exact hB) hlt
 ·intro i j oi oj Bi Bj hi hj hBi hBj heq
  rcases src i oi hi with ⟨h1, h2, h3⟩ | ⟨a, o0, h1, h2, h3, h4⟩ <;> rcases src j oj hj with ⟨g1, g2, g3⟩ | ⟨c, o0', g1, g2, g3, g4⟩
  ·exact rl.inj i j oi oj Bi Bj h2 g2 (by rw [← d1 i h1]; exact hBi) (by rw [← d1 j g1]; exact hBj) heq
  ·exact (mix i oi Bi j oj Bj c ⟨h1, h2, h3⟩ hBi g3 g4 hBj heq).elim
  ·exact (mix j oj Bj i oi Bi a ⟨g1, g2, g3⟩ hBj h3 h4 hBi heq.symm).elim
  ·rcases k1.rel.inj a c o0 o0' Bi Bj (gc' a o0 h1) (gc' c o0' g1) (by rw [← h3]; exact hBi) (by rw [← g3]; exact hBj) heq with e | e
   ·subst e
    left
    rcases h4 with ⟨q1, q2, _⟩ | ⟨q1, q2, q3⟩ <;> rcases g4 with ⟨r1, r2, _⟩ | ⟨r1, r2, r3⟩
    ·rw [q2] at r2; cases r2; rfl
    ·have := (List.getElem?_eq_some_iff.1 q2).1; omega
    ·have := (List.getElem?_eq_some_iff.1 r2).1; omega
    ·omega
   ·exact .inr e
 ·intro b' i u hu
  rw [dz] at hu; exact k1.rel.frz b' i u hu
 ·intro id o B ho hB
  rcases src id o ho with ⟨h1, h2, h3⟩ | ⟨j, o0, h1, h2, h3, _⟩
  ·have hB' : φ id = some B := by rw [← d1 id h1]; exact hB
   exact (rl.sep id o B h2 hB').congr (zsame id o B h2 hB' h3)
  ·rw [dz]; exact (w7 h2).2 B _ (k1.rel.sep j o0 B (gc' j o0 h1) (by rw [← h3]; exact hB))
 ·intro id hid
  rcases hid with hid | hid
  ·exact d1 id hid
  ·rw [d3 id hid]; exact (hf id (by have := he.ext.next; omega)).symm
 ·intro b' hb' hq
  refine hfrm b' hb' fun i id B q1 q2 q3 q4 => ?_
  obtain ⟨o, o1, _, _, g3⟩ := hos i id q1
  have h9 := hq id o1 B g3 q3 q4
  rw [he.bit i id q1 q2] at h9; cases h9
 ·intro id B h1 h2 hB
  rw [d2 id h1 h2] at hB
  rcases k1.own (ids.length + (id - s.next)) B (by show os.length ≤ _; omega) (by show _ < os'.length; omega) hB with h3 | ⟨j, o0, B0, q1, q2, q3, q4⟩
  ·exact .inl h3
  ·obtain ⟨id', o1, g1, _, g3⟩ := src0 j o0 q1
   exact .inr ⟨id', o1, B0, g3, by rw [← pc j id' g1]; exact q2, q3, he.bit j id' g1 q4⟩
 ·intro b' i u hu; rw [dz]; exact hzs b' i u hu
 ·intro b' i u hu
  rw [dz] at hu
  rcases hz b' i u hu with h1 | h1 | ⟨j, id, o, B, g1, g2, g3, g4, g5⟩
  ·exact .inl h1
  ·exact .inr (.inl h1)
  ·exact .inr (.inr ⟨id, o, B, g2, g3, g4, he.bit j id g1 g5⟩)
open Go.RowKit (Below)
mutual
theorem Z3 (ρ : Nat → Option Nat) : ∀ {v : AV}, zD v = true → renV ρ v = some v
 | .ifc t v, h => by simp only [zD] at h; simp only [renV, Z3 ρ h]
 | .fn f a c, h => by
  simp only [zD, Bool.and_eq_true] at h
  simp only [renV, renC, h.1, h.2, cond_true]
 | .agg cs, h => by simp only [zD] at h; simp only [renV, renC, h, cond_true]
 | .tup cs, h => by simp only [zD] at h; simp only [renV, renC, h, cond_true]
 | .ptr _ _, h | .sl _ _ _ _, h | .map _, h | .yld _, h | .gr _ _ _ _, h => by simp [zD] at h
 | .bool _, _ | .int _ _, _ | .str _, _ | .nilp, _ | .gptr _ _, _ | .sl0, _ | .nils, _ | .nilm, _ | .nilf, _ | .nili, _ | .lst _ _ _, _ | .vp .., _ => by simp only [renV]
end
theorem jd (ρ : Nat → Option Nat) : ∀ {l : List AV}, zu l = true → renL ρ l = some l
 | [], _ => by simp only [renL]
 | v :: r, h => by
  simp only [zB, Bool.and_eq_true] at h
  simp only [renL, Z3 ρ h.1, jd ρ h.2]
def wrow (tw id j n : Nat) (disp : Bool) : AObj := .row tw [.ptr id 0, .sl j 0 n (.opn 1), .bool disp] false false
def brow (tb : Nat) (out : List Nat) : AObj := .row tb (zh out) true false
structure IsW {α : Type} (tw tb : Nat) (enc : α → List AV) (Pre : α → List Nat → Bool → Prop) (args : List AV) (s : St) (id j : Nat) (x : α) (out : List Nat) (disp : Bool) : Prop where
 a : ∃ r, args = .ptr id 0 :: r ∧ enc x = wkL r
 ne : id ≠ j
 hi : id < s.next
 hj : j < s.next
 w : s.get id = some (wrow tw id j out.length disp)
 b : s.get j = some (brow tb out)
 p : Pre x out disp
open Classical in
section
variable {α : Type} {tw tb : Nat} {enc : α → List AV} {Pre : α → List Nat → Bool → Prop} {F : α → Bool → List Nat}
end
theorem zwr (a o : Nat) : vEqk .ptr false (.ptr a o) .nilp = some (.bool false) := rfl
theorem zwA : vEqk .ptr false .nilp .nilp = some (.bool true) := rfl
theorem zwU (a o : Nat) : vEqk .ptr true (.ptr a o) (.ptr a o) = some (.bool false) := by
 simp only [vEqk, eqV, zw.2 (rfl : a = a), zw.2 (rfl : o = o), cond_true, Bool.not_true]
theorem qA : ∀ a b : List Nat, zh (a ++ b) = zh a ++ zh b
 | [], _ => rfl
 | x :: a, b => by simp only [List.cons_append, zh, qA a b]
theorem Ym (a : List Nat) : (zh a).length = a.length := ul a
theorem zwe {s : St} {t : Nat} {new : List Nat} (hb : new.length < 1000000000) (h0 : new ≠ []) : grow s t 1 1 (zh new) new.length = some (.sl s.next 0 new.length (.opn 1), s.alloc (.row t (zh new) true false)) := by
 simp only [grow]
 rw [show Nat.ble (Nat.mul (Nat.mul 2 new.length) 1) 281474976710656 = true from zL.2 (by show 2 * new.length * 1 ≤ _; omega), show Nat.ble 1 1 = true from rfl, show Nat.blt new.length 9223372036854775808 = true from zP.2 (by omega)]
 rfl
theorem zzN {l : List (Nat × Option AObj)} {n m t : Nat} {y : AV} {new : List Nat} (hl : vD y = some new.length) (h0 : new ≠ []) (hc : xI (KL l n m false [] none) 1 new.length y = some (zh new)) (hb : new.length < 1000000000) :
  appV (KL l n m false [] none) t 1 1 .nils y = some (.sl n 0 new.length (.opn 1), KL ((n, some (.row t (zh new) true false)) :: l) (n + 1) m false [] none) := by
 obtain ⟨q, hq⟩ : ∃ q, new.length = q + 1 := by
  cases new with
  | nil => exact absurd rfl h0
  | cons a r => exact ⟨r.length, rfl⟩
 rw [hq] at hc hl
 simp only [appV, hl, hc, appW, WK, Bool.false_and, cond_false]
 have := zwe (s := KL l n m false [] none) (t := t) hb h0
 rw [hq] at this ⊢
 exact this
theorem gD (out : List Nat) : cut (zh out) 0 (Nat.mul out.length 1) = some (zh out) := by
 have : Nat.mul out.length 1 = (zh out).length := by rw [Ym]; exact Nat.mul_one _
 rw [zyY, this]
 exact vO rfl
theorem zyx {l : List (Nat × Option AObj)} {n m t j : Nat} {b : Bool} {y : AV} {out new : List Nat} (hg : getA l j = some (.row t (zh out) true false)) (hl : vD y = some new.length) (h0 : new ≠ []) (hc : xI (KL l n m b [] none) 1 new.length y = some (zh new)) (hb : (out ++ new).length < 1000000000) :
  appV (KL l n m b [] none) t 1 1 (.sl j 0 out.length (.opn 1)) y = some (.sl n 0 (out ++ new).length (.opn 1), KL ((n, some (.row t (zh (out ++ new)) true false)) :: (j, none) :: l) (n + 1) (mark m j) b [] none) := by
 obtain ⟨q, hq⟩ : ∃ q, new.length = q + 1 := by
  cases new with
  | nil => exact absurd rfl h0
  | cons a r => exact ⟨r.length, rfl⟩
 have hq' := hq
 rw [hq] at hc hl
 have h1 : Nat.ble (Nat.add 0 (Nat.mul (Nat.add out.length (Nat.succ q)) 1)) (lenN (zh out)) = false := by
  rw [ye, Ym]
  cases h : Nat.ble (Nat.add 0 (Nat.mul (Nat.add out.length (Nat.succ q)) 1)) out.length with
  | false => rfl
  | true =>
   have h2 := zL.1 h
   have h3 : 0 + (out.length + (q + 1)) * 1 ≤ out.length := h2
   omega
 simp only [appV, hl, hc, appW, xj, hg, zw.2 (rfl : (1 : Nat) = 1), zw.2 (rfl : t = t), Bool.not_false, Bool.and_true, Bool.and_self, cond_true, h1, cond_false, vC, gD, zwS]
 have := zwe (s := KL ((j, none) :: l) n (mark m j) b [] none) (t := t) (new := out ++ new) hb (by simp [h0])
 rw [qA, List.length_append, hq] at this
 rw [qA, List.length_append, hq]
 exact this
theorem gr_lst {φ : Phi} {id e n : Nat} {cs : List AV} {x : Value} (h : VR φ (.gr id e n cs) x) : VR φ (.lst n false cs) x := by
 simp only [VR] at h ⊢
 obtain ⟨h1, h2, h3, h4, B, ys, h5, h6, h7, h8, h9⟩ := h
 exact ⟨h1, .inr ⟨B.b, B.o, _, ys, h6, by simp, h7, h8, h9⟩⟩
theorem zxJ {l : List (Nat × Option AObj)} {n m t id k : Nat} {b e : Bool} {old new : List Nat} (hg : getA l id = some (.app t (zh old))) (hk : k = old.length) (h0 : new ≠ []) (hb : (old ++ new).length < 1000000000) :
  appV (KL l n m b [] none) t 1 1 (.gr id 1 k (zh old)) (.lst new.length e (zh new)) = some (.gr n 1 (k + new.length) (zh (old ++ new)), KL ((n, some (.app t (zh (old ++ new)))) :: (id, none) :: l) (n + 1) (mark m id) b [] none) := by
 subst hk
 obtain ⟨q, hq⟩ : ∃ q, new.length = q + 1 := by
  cases new with
  | nil => exact absurd rfl h0
  | cons a r => exact ⟨r.length, rfl⟩
 have h2 : yz (Nat.mul (Nat.succ q) 1) (zh new) = some (zh new) := vO (by rw [ul, hq]; exact (Nat.mul_one _).symm)
 simp only [List.length_append] at hb
 rw [hq] at hb ⊢
 simp only [appV, jV, xI, h2, appW, xj, hg, zw.2 (rfl : (1 : Nat) = 1), zw.2 (rfl : t = t), zw.2 (rfl : lenN (zh old) = lenN (zh old)), vC, Bool.and_self, cond_true, uv, yB, yq]
 rw [show Nat.ble (Nat.mul (Nat.mul 2 (Nat.add old.length (Nat.succ q))) 1) 281474976710656 = true from zL.2 (by show 2 * (old.length + (q + 1)) * 1 ≤ _; omega), show Nat.ble 1 1 = true from rfl, show Nat.blt (Nat.add old.length (Nat.succ q)) 9223372036854775808 = true from zP.2 (by show old.length + (q + 1) < _; omega), qA]
 rfl
open Go.RowKit (Below)
def phiW (W : World) : Phi := ⟨fun _ => none, fun b o => W.cell? ⟨b, o, none⟩⟩
theorem V2 {w : World} {a : Addr} {v : Value} (h : w.cell? a = some v) : ∃ c e fr, w.heap[a.block]? = some (.cells c e fr) ∧ a.spot = none ∧ c[a.off]? = some v := by
 unfold World.cell? at h
 cases hb : w.heap[a.block]? with
 | none => rw [hb] at h; cases h
 | some o =>
  rw [hb] at h
  cases o <;> simp only at h <;> first | cases h | skip
  rename_i c e fr
  refine ⟨c, e, fr, rfl, ?_⟩
  cases hs : a.spot with
  | none => rw [hs] at h; simp at h; exact ⟨rfl, h⟩
  | some s => rw [hs] at h; simp at h
theorem XX {a : Addr} (h : a.spot = none) (n : Nat) : a.add n = ⟨a.block, a.off + n, none⟩ := by
 unfold Addr.add
 by_cases hn : n = 0
 ·subst hn; simp; cases a; simp_all
 ·rw [if_neg hn]
theorem JB (P : Program) (W : World) (b : Bool) : Rel P W (phiW W) (H [] 0 b).get W := by
 have hg : ∀ id o, (H [] 0 b).get id = some o → False := fun id o h => by
  rw [lR] at h; simp [getO] at h
 refine ⟨Below.refl _ _, fun id o h => (hg id o h).elim, fun id B h => (by cases h), fun id o B h => (hg id o h).elim, fun id id' o o' B B' h => (hg id o h).elim, fun b o v h => ?_, fun id o B h => (hg id o h).elim⟩
 obtain ⟨c, e, fr, h1, _, h3⟩ := V2 h
 exact ⟨c, e, fr, h1, h3⟩
section
variable {H0 : Type} {enc : TypeId × Value → H0} {P : Program} {W : World} {sp : Nat → Bool} {held : Bool} {tD tI tS tK tE : TypeId} {fs : Array Field} {α : Type} {f : α → List AV} {k : Nat}
theorem ZN {a : Addr} {n : Nat} (h0 : 0 < k) (hk : P.cellsOf tE = k) (hsp : a.spot = none)
  (ih : ∀ cs x, DataW.trod enc P W 0 sp held n tE cs = some x → ∃ d, VRL (phiW W) (f d) cs) :
  ∀ (len : Nat), (∀ i, i < len → ∃ x, (W.cells? 0 (a.add (i * k)) k).bind (DataW.trod enc P W 0 sp held n tE) = some x) →
   ∃ ds ys, ds.length = len ∧ ys.length = len * k ∧ VRL (phiW W) (y6 f ds) ys ∧ ∀ i y, ys[i]? = some y → (phiW W).z a.block (a.off + i) = some y
 | 0, _ => ⟨[], [], rfl, by simp, VRL.nil _, fun i y h => by simp at h⟩
 | len + 1, h => by
  obtain ⟨ds, ys, h1, h2, h3, h4⟩ := ZN h0 hk hsp ih len (fun i hi => h i (by omega))
  obtain ⟨x, hx⟩ := h len (by omega)
  cases hc : W.cells? 0 (a.add (len * k)) k with
  | none => rw [hc] at hx; cases hx
  | some cs =>
   rw [hc] at hx
   obtain ⟨d, hd⟩ := ih cs x hx
   obtain ⟨_, hl, hg⟩ := World.cells?_some hc
   refine ⟨ds ++ [d], ys ++ cs, by simp [h1], by rw [List.length_append, h2, hl, Nat.succ_mul], by rw [qu, JQ]; exact VRL.append h3 hd, fun i y hy => ?_⟩
   by_cases hi : i < ys.length
   ·rw [List.getElem?_append_left hi] at hy; exact h4 i y hy
   ·rw [List.getElem?_append_right (by omega)] at hy
    have hj : i - ys.length < k := by
     rw [← hl]; exact (List.getElem?_eq_some_iff.1 hy).1
    have := hg (i - ys.length) hj
    rw [hy, XX hsp, XX rfl] at this
    show W.cell? ⟨a.block, a.off + i, none⟩ = some y
    rw [← this]
    congr 2
    simp only; omega
theorem abs_slice (h0 : 0 < k) (hk : P.cellsOf tE = k) (hK : P.underlying tK = some (.slice tE)) (hp : ∀ d, zu (f d) = true) {n : Nat}
  (ih : ∀ m, m < n → ∀ cs x, DataW.trod enc P W 0 sp held m tE cs = some x → ∃ d, VRL (phiW W) (f d) cs)
  (hs : sp = fun _ => true) {cs : List Value} {x : DataW H0 × List MemPlace} (h : DataW.trod enc P W 0 sp held n tK cs = some x) :
  ∃ ds v, cs = [v] ∧ VR (phiW W) (.lst ds.length false (y6 f ds)) v ∧ ds.length ≤ maxLen := by
 rcases DataW.trod_slice hK h with ⟨rfl, _⟩ | ⟨a, len, cap, elems, rest, m, rfl, rfl, _, _, hlc, hcm, hel, hsl, hspare, _⟩
 ·exact ⟨[], _, rfl, by simp only [VR]; exact ⟨rfl, .inl ⟨rfl, _, rfl⟩⟩, by simp [maxLen]⟩
 ·rw [hk] at hsl hspare
  by_cases hcap : cap = 0
  ·subst hcap
   obtain rfl : len = 0 := by omega
   exact ⟨[], _, rfl, by simp only [VR]; exact ⟨rfl, .inl ⟨rfl, _, rfl⟩⟩, by simp [maxLen]⟩
  ·have hcell : ∃ x, (W.cells? 0 (a.add (0 * k)) k) = some x := by
    by_cases hl : 0 < len
    ·have := hsl 0 hl
     rw [List.getElem?_eq_getElem (by omega)] at this
     cases hc : W.cells? 0 (a.add (0 * k)) k with
     | none => rw [hc] at this; cases this
     | some y => exact ⟨y, rfl⟩
    ·obtain rfl : len = 0 := by omega
     obtain ⟨hr, hj⟩ := hspare (by rw [hs])
     have := hj 0 (by omega)
     rw [List.getElem?_eq_getElem (by omega)] at this
     rw [Nat.zero_add] at this
     cases hc : W.cells? 0 (a.add (0 * k)) k with
     | none => rw [hc] at this; cases this
     | some y => exact ⟨y, rfl⟩
   obtain ⟨y, hy⟩ := hcell
   have hspot : a.spot = none := by
    obtain ⟨_, hl, hg⟩ := World.cells?_some hy
    have h1 := hg 0 h0
    rw [List.getElem?_eq_getElem (by omega)] at h1
    obtain ⟨_, _, _, _, h2, _⟩ := V2 h1
    simpa [Addr.add] using h2
   obtain ⟨ds, ys, g1, _, g3, g4⟩ := ZN (W := W) (enc := enc) (sp := sp) (held := held) h0 hk hspot (ih m (by omega)) len fun i hi => by
    have := hsl i hi
    rw [List.getElem?_eq_getElem (by omega)] at this
    exact ⟨_, this⟩
   refine ⟨ds, _, rfl, ?_, by omega⟩
   simp only [VR]
   refine ⟨uf hp ds, .inr ⟨a.block, a.off, cap, ys, ?_, by simp, by omega, ZC.of g4, g3⟩⟩
   rw [g1]; cases a; simp only at hspot; subst hspot; rfl
structure DatumTy (P : Program) (tD tI tS tK : TypeId) (fs : Array Field) : Prop where
 d : P.underlying tD = some (.struct fs)
 fs : fs.toList.map (fun f => (f.type, f.offset)) = [(tI, 0), (tI, 1), (tS, 2), (tK, 3), (tI, 4)]
 i : P.underlying tI = some (.int .i64)
 s : P.underlying tS = some .string
 k : P.underlying tK = some (.slice tD)
 cd : P.cellsOf tD = 5
 ci : P.cellsOf tI = 1
 cs : P.cellsOf tS = 1
 ck : P.cellsOf tK = 1
end
open Go.RowKit (Below)
open Go.RowKit (Below)
def zvT (tw : Nat) (disp : Bool) : AObj := .row tw [.nilp, .nils, .bool disp] false false
structure IsW0 {α : Type} (tw : Nat) (enc : α → List AV) (Pre : α → Bool → Prop) (args : List AV) (s : St) (id : Nat) (x : α) (disp : Bool) : Prop where
 a : ∃ r, args = .ptr id 0 :: r ∧ enc x = wkL r
 hi : id < s.next
 w : s.get id = some (zvT tw disp)
 p : Pre x disp
open Classical in
section
variable {α : Type} {tw tb : Nat} {enc : α → List AV} {Pre : α → Bool → Prop} {F : α → Bool → List Nat}
end
theorem SC.up1g {P : Program} {w0 : World} {f : Nat} {args0 args : List AV} {v : AV} {e : Nat} {cells : List AV} {b b' : Bool} (h : SC P w0 f args0 (H [some (.row e cells false false)] 0 b) v (H [some (.row e cells false false)] 0 b'))
  (hp2 : zu cells = true) (hp4 : zD v = true) {s : St} {id : Nat} (ha : ∀ (φ : Phi) (B : Blk) (xs : List Value), φ id = some B → VRL φ args xs → VRL (φ.one B) args0 xs) (hs : s.get id = some (.row e cells false false)) : SC P w0 f args s v s := by
 refine ⟨h.1, fun φ w xs rl hwf hf hx F k hF => ?_⟩
 obtain ⟨B, hB, ht⟩ := rl.obj id _ hs
 have hnew := rl.new hs hB rfl
 have g0 : ∀ i o, (H [some (.row e cells false false)] 0 b).get i = some o → i = 0 ∧ o = .row e cells false false := fun i o ho => by
  rw [lR] at ho
  cases i with
  | zero => simp [getO] at ho; exact ⟨rfl, ho.symm⟩
  | succ i => simp [getO] at ho
 have r0 : Rel P w0 (φ.one B) (H [some (.row e cells false false)] 0 b).get w := by
  refine ⟨rl.base, fun i o ho => ?_, fun i B' hB' => ?_, fun i o B' ho hB' hlt => ?_, fun i j o o' B1 B2 h1 h2 _ _ _ => .inl ?_, rl.frz, fun i o B' ho hB' => ?_⟩
  ·obtain ⟨rfl, rfl⟩ := g0 i o ho
   refine ⟨B, Phi.one_0 φ B, ?_⟩
   simp only [ObjRel] at ht ⊢
   obtain ⟨c, fr, h1, h2, h3, h4, h5, h6⟩ := ht
   exact ⟨c, fr, h1, h2, h3, h4, VRL.pure (φ := φ) (φ' := φ.one B) (fun _ _ _ t => t) _ _ hp2 h5, h6⟩
  ·have hB2 : (if i = 0 then some B else none) = some B' := hB'
   by_cases hi : i = 0
   ·rw [if_pos hi] at hB2; cases hB2; exact rl.rng id B hB
   ·rw [if_neg hi] at hB2; cases hB2
  ·obtain ⟨rfl, rfl⟩ := g0 i o ho
   have hB2 : (if (0 : Nat) = 0 then some B else none) = some B' := hB'
   rw [if_pos rfl] at hB2; cases hB2; omega
  ·exact (g0 i o h1).1.trans (g0 j o' h2).1.symm
  ·obtain ⟨rfl, rfl⟩ := g0 i o ho
   have hB2 : (if (0 : Nat) = 0 then some B else none) = some B' := hB'
   rw [if_pos rfl] at hB2; cases hB2; exact fun i => (rl.sep id _ B hs hB : ∀ i, φ.z B.b i = none) i
 have hx0 := ha φ B xs hB hx
 have hcall := h.2 _ w xs r0 (H_wf _ _ _) (fun i hi => Phi.one_s φ B (by have : 1 ≤ i := hi; omega)) hx0 F k hF
 refine CallsIn.mono hcall ?_
 rintro e1 w1 ⟨φ1, x, rfl, k1, k2⟩
 have hfrm : ∀ b, b < w.heap.size → w1.heap[b]? = w.heap[b]? := fun b hb => k1.frame b hb fun i o B' ho hB' hbe => by
  show (0 : Nat).testBit i = false
  simp
 have hz : ∀ b i u, φ1.z b i = some u → φ.z b i = some u ∨ w.heap.size ≤ b := fun b i u hu => by
  rcases k1.zown b i u hu with h1 | h1 | ⟨id0, o0, B0, q1, q2, q3, q4⟩
  ·exact .inl h1
  ·exact .inr h1
  ·have : (0 : Nat).testBit id0 = true := q4
   simp at this
 have hsub : Sub φ (φ.zset φ1.z) := ⟨fun _ _ h => h, k1.zsub⟩
 refine ⟨φ.zset φ1.z, x, rfl, ⟨Ext.refl _, ⟨k1.rel.base, fun id o ho => ?_, fun id B hB => ?_, rl.old, rl.inj, k1.rel.frz, fun id o B ho hB => ?_⟩, fun _ _ => rfl, k1.size, fun b hlt _ => hfrm b hlt, (fun id _ h1 h2 => absurd h2 (by omega)), k1.zsub, fun b i u hu => ?_⟩, VR.pure (φ := φ1) (φ' := φ.zset φ1.z) (fun _ _ _ h => h) _ _ hp4 k2⟩
 ·obtain ⟨B, hB, t⟩ := rl.obj id o ho
  exact ⟨B, hB, t.keep (φ := φ) (φ' := φ.zset φ1.z) ⟨fun _ _ h => h, k1.zsub⟩ (hfrm _ (rl.rng id B hB))⟩
 ·have hB' : φ id = some B := hB
  have h1 := rl.rng id B hB'
  have h2 := k1.size
  omega
 ·refine (rl.sep id o B ho hB).congr fun i => ?_
  have hB' : φ id = some B := hB
  show φ1.z B.b i = φ.z B.b i
  cases h1 : φ1.z B.b i with
  | none =>
   cases h2 : φ.z B.b i with
   | none => rfl
   | some u => have := k1.zsub B.b i u h2; rw [h1] at this; cases this
  | some u =>
   rcases hz _ _ _ h1 with h2 | h2
   ·exact h2.symm
   ·have := rl.rng id B hB'; omega
 ·rcases hz b i u hu with h1 | h1
  ·exact .inl h1
  ·exact .inr (.inl h1)
open Go.RowKit (Below)
noncomputable def newG (t : Nat) (s : St) (id : Nat) (cs : List AV) : St := (s.del id).alloc (.app t cs)
theorem kg {t : Nat} {s : St} {id : Nat} {cs : List AV} (i : Nat) : (newG t s id cs).get i = if seen s i then (if i = s.next then some (.app t cs) else if i = id then none else s.objs.get i) else none := by
 rw [yY, yj (s := s) (s' := newG t s id cs) rfl rfl]
 congr 1
 show ((s.objs.del id).set s.next _).get i = _
 rw [Trie.get_set, Trie.get_del]
theorem lW {t : Nat} {s : St} {id : Nat} {cs cs' : List AV} (hb : s.get id = some (.app t cs)) : Ext s (newG t s id cs') := (l9 hb).trans (x4 _ _)
theorem Step.renG {P : Program} {w0 : World} {φ : Phi} {s : St} {w : World} (r : Rel P w0 φ s.get w) (hf : φ s.next = none) {t id : Nat} {cs : List AV} (hi : id < s.next) (hb : s.get id = some (.app t cs)) :
  ∃ B, φ id = some B ∧ Step P w0 φ s w (φ.set s.next B) (newG t s id cs) w := by
 obtain ⟨B, hB, tB⟩ := r.obj id _ hb
 have hsub : Sub φ (φ.set s.next B) := Phi.set_sub hf
 have hnew : (φ.set s.next B) s.next = some B := by show (if s.next = s.next then some B else φ s.next) = some B; rw [if_pos rfl]
 have hold : ∀ i, i ≠ s.next → (φ.set s.next B) i = φ i := fun i h => by show (if i = s.next then some B else φ i) = φ i; rw [if_neg h]
 have hget : ∀ i o, (newG t s id cs).get i = some o → (i = s.next ∧ o = .app t cs) ∨ (i ≠ s.next ∧ i ≠ id ∧ s.get i = some o) := fun i o h => by
  rw [kg] at h
  split at h
  ·rename_i hs
   split at h
   ·rename_i e; cases h; exact .inl ⟨e, rfl⟩
   ·rename_i e
    split at h
    ·cases h
    ·rename_i e2; exact .inr ⟨e, e2, by rw [yY, if_pos hs]; exact h⟩
  ·cases h
 have hwmj : (newG t s id cs).wm.testBit id = true := by
  show (s.wm ||| 1 <<< id).testBit id = true
  simp [Nat.testBit_or, Nat.testBit_shiftLeft]
 refine ⟨B, hB, lW hb, ⟨r.base, fun i o h => ?_, fun i B' h => ?_, fun i o B' h hB' => ?_, fun i i' o o' B1 B2 h h' h1 h2 he => ?_, r.frz, fun i o B' h hB' => ?_⟩, fun i h => ?_, Nat.le_refl _, fun _ _ _ => rfl, fun i B' h1 h2 h3 => ?_, fun _ _ _ h => h, fun _ _ _ h => .inl h⟩
 ·rcases hget i o h with ⟨rfl, rfl⟩ | ⟨e1, e2, h0⟩
  ·exact ⟨B, hnew, tB.keep hsub rfl⟩
  ·obtain ⟨B', hB', t'⟩ := r.obj i o h0
   exact ⟨B', by rw [hold _ e1]; exact hB', t'.keep hsub rfl⟩
 ·by_cases e : i = s.next
  ·subst e; rw [hnew] at h; cases h; exact r.rng id B hB
  ·rw [hold _ e] at h; exact r.rng i B' h
 ·intro hlt
  rcases hget i o h with ⟨rfl, rfl⟩ | ⟨e1, e2, h0⟩
  ·rw [hnew] at hB'; cases hB'; exact r.old id _ B hb hB hlt
  ·rw [hold _ e1] at hB'; exact r.old i o B' h0 hB' hlt
 ·have hcase : ∀ i o, (newG t s id cs).get i = some o → ∀ B', (φ.set s.next B) i = some B' → ∃ i0 o0, s.get i0 = some o0 ∧ φ i0 = some B' ∧ (i0 = i ∨ (i = s.next ∧ i0 = id)) ∧ (i0 = id → i = s.next) := fun i o h B' hB' => by
   rcases hget i o h with ⟨rfl, rfl⟩ | ⟨e1, e2, h0⟩
   ·rw [hnew] at hB'; cases hB'; exact ⟨id, _, hb, hB, .inr ⟨rfl, rfl⟩, fun _ => rfl⟩
   ·rw [hold _ e1] at hB'; exact ⟨i, _, h0, hB', .inl rfl, fun e => absurd e e2⟩
  obtain ⟨i0, o0, g1, g2, g3, g4⟩ := hcase i o h B1 h1
  obtain ⟨i1, o1, k1, k2, k3, k4⟩ := hcase i' o' h' B2 h2
  rcases r.inj i0 i1 o0 o1 B1 B2 g1 k1 g2 k2 he with e | e
  ·left
   by_cases ej : i0 = id
   ·rw [g4 ej, k4 (e ▸ ej)]
   ·rcases g3 with g3 | ⟨_, g3⟩
    ·rcases k3 with k3 | ⟨_, k3⟩
     ·rw [← g3, ← k3, e]
     ·exact absurd (e.trans k3) ej
    ·exact absurd g3 ej
  ·exact .inr e
 ·rcases hget i o h with ⟨rfl, rfl⟩ | ⟨e1, e2, h0⟩
  ·rw [hnew] at hB'; cases hB'; exact r.sep id _ B hb hB
  ·rw [hold _ e1] at hB'; exact r.sep i o B' h0 hB'
 ·have : i ≠ s.next := by
   have : (newG t s id cs).next = s.next + 1 := rfl
   omega
  exact hold _ this
 ·have e : i = s.next := by
   have : (newG t s id cs).next = s.next + 1 := rfl
   omega
  subst e
  rw [hnew] at h3; cases h3
  exact .inr ⟨id, _, B, hb, hB, rfl, hwmj⟩
theorem Is.renG {C : Cx} {E : Env} {O : Orc} {c : St} {M : Nat} (k : Is C E O c M) {l : List (Nat × Option AObj)} {n m : Nat} {md : Bool} {t id e q i : Nat} {cs : List AV} {r : List (Nat × AV)} {df : List Nat} (hi : id < n) (hb : getA l id = some (.app t cs)) :
  Gc C ⟨tmL ((i, .gr id e q cs) :: r), df⟩ (KL l n m md [] none) ⟨tmL ((i, .gr n e q cs) :: r), df⟩ (KL ((n, some (.app t cs)) :: (id, none) :: l) (n + 1) (mark m id) md [] none) := by
 intro φ w a ha hf
 obtain ⟨B, hB, st⟩ := Step.renG (t := t) (id := id) (cs := cs) ha.st.rel (ha.fresh _ (Nat.le_refl _)) hi (by rw [xj]; exact hb)
 have hn : φ n = none := ha.fresh n (Nat.le_refl _)
 have hs : Sub φ (φ.set n B) := Phi.set_sub hn
 refine ⟨φ.set n B, ha.step k.ok st, ⟨fun j v hv => ?_, hf.size, (hf.mono hs).df⟩⟩
 by_cases hj : j = i
 ·subst hj
  have h1 := hf.tm j (.gr id e q cs) (by rw [yH]; simp)
  have h2 : v = .gr n e q cs := by rw [yH] at hv; simpa using hv.symm
  subst h2
  simp only [VR] at h1 ⊢
  obtain ⟨a1, a2, a3, a4, B', ys, b1, b2, b3, b4, b5⟩ := h1
  rw [hB] at b1; cases b1
  exact ⟨a1, a2, a3, a4, B, ys, if_pos rfl, b2, b3, b4.mono hs.z, VRL.mono hs _ _ b5⟩
 ·exact (hf.mono hs).tm j v (by rw [yH] at hv ⊢; simpa [hj] using hv)
def FinG (E : Env) (c : St) (M : Nat) (keep : List Nat) (res : List RV) (v : AV) (c' : St) (r : Res) (fr : Fr) (s : St) : Prop :=
 (r = .norm ∨ r = .ret) ∧ ∃ s2 vs, z8 s fr.df = some s2 ∧ resV E.globs fr.tm s2 res = some vs ∧ gcF true c M keep [0] c.md { tm := tmL [(0, yQ vs)], df := [] } s2 = some ({ tm := tmL [(0, v)], df := [] }, c')
theorem Is.scG {P : Program} {w0 : World} {E : Env} {O : Orc} (hO : OrcOk P w0 O) (hm : P.follows .mixedOrders = true) (hG : zH E.globs w0) (hE : vg P E) {f : Nat} {F : IFunc} {args : List AV} {os : List (Option AObj)} {b : Bool} {v : AV} {c' : St} (M : Nat)
  (hF : E.funs.get f = some F) (hle : args.length ≤ F.ntmps) (hpos : 0 < F.ntmps) (hM : ∀ i, M.testBit i = true → ∃ o, getO os i = some o ∧ y7 o = false)
  (H0 : ∀ C : Cx, Is C E O (H os 0 b) M → Tri C F.body { tm := yN (tmL []) 0 args, df := [] } (H os 0 b) (fun r fr s => ∃ keep, FinG E (H os 0 b) M keep F.res v c' r fr s)) : SC P w0 f args (H os 0 b) v c' := by
 obtain ⟨fn, hfn, hcf⟩ := hE f F hF
 unfold We at hcf
 split at hcf
 ·cases hcf
 ·rename_i cd hbody
  split at hcf
  ·rename_i ib rs hb hrs
   cases hnm : (fn.name != "runtime.NumGoroutine") with
   | false => rw [hnm] at hcf; simp at hcf
   | true =>
    rw [hnm] at hcf; simp only [cond_true, Option.some.injEq] at hcf; subst hcf
    have hnm' : (fn.name == "runtime.NumGoroutine") = false := by simpa [bne] using hnm
    refine ⟨⟨fn, hfn, by rw [hbody]; rfl, hnm'⟩, ?_⟩
    intro φ w xs r hwf hf hx Fe n hFe
    have hM' : ∀ i, M.testBit i = true → i < (H os 0 b).next ∧ ∃ o, (H os 0 b).objs.get i = some o ∧ y7 o = false := fun i hi => by
     obtain ⟨o, h1, h2⟩ := hM i hi
     exact ⟨j4 h1, o, by rw [jW]; exact h1, h2⟩
    have ok : CxOk ⟨P, w0, E, O, fn.ntmps, none, φ, H os 0 b, w, M⟩ :=
     ⟨hO, hm, hG, hE, r, hwf, hf, rfl, rfl, fun i hi => by rw [show (⟨P, w0, E, O, fn.ntmps, none, φ, H os 0 b, w, M⟩ : Cx).s.wm = 0 from rfl] at hi; simp at hi, hM'⟩
    have hat : At ⟨P, w0, E, O, fn.ntmps, none, φ, H os 0 b, w, M⟩ φ (H os 0 b) w := ⟨Step.refl r, hf⟩
    have hxl : xs.length ≤ fn.ntmps := by rw [← VRL.length hx]; exact hle
    have hfr : FrRel φ fn.ntmps { tm := yN .leaf 0 args, df := [] } { tmps := xs.toArray ++ Array.replicate (fn.ntmps - xs.toArray.size) undef, defers := [] } :=
     ⟨uM hx _, by simp; omega, rfl⟩
    have hFp : Wide Fe.plain := ⟨hFe.fn, hFe.depth, hFe.alive⟩
    have ht := H0 _ ⟨ok, rfl, rfl, rfl, rfl, rfl⟩
    have key : CallsIn Fe.plain n P f xs.toArray w (RetQ P w0 φ (H os 0 b) w v c') := by
     refine callsIn_of_wp_marks hfn hbody (hFe.fn f) (wpIn_mono (ht cd hb φ w _ hat hfr Fe.plain n hFp (fun _ => rfl)) ?_)
     rintro e a' w' ⟨res, fr', s1, φ1, rfl, k1, k2, keep, hor, s2, vs, q1, q2, q4⟩
     have hleave : LeavesInM Fe.plain n P fn a'.tmps (RetQ P w0 φ (H os 0 b) w v c') a'.defers .returning w' := by
      refine YA ok q1 k2.df k1 fun w2 k3 => ?_
      have hre : resE E.globs fr'.tm s2 rs = some (yQ vs, s2) := by unfold resE; rw [q2]
      have hrel : Rel P w0 φ1 s2.get w2 := k3.st.rel
      obtain ⟨_, x, k4, k5⟩ := vE hG hrel k2.tm hrs hre
      have hsz : a'.tmps.size = fn.ntmps := k2.size
      have hpos' : 0 < a'.tmps.size := by rw [hsz]; exact hpos
      obtain ⟨φ2, g1, g2, gz⟩ := gw ok (fr := { tm := tmL [(0, yQ vs)], df := [] }) q4 k3 (a := { tmps := a'.tmps.set 0 x hpos', defers := [] }) ⟨(fun i u hi => by
       rw [yH] at hi
       by_cases h0 : i = 0
       ·subst h0
        simp only [if_true, Option.some.injEq] at hi
        rw [← hi]
        simpa using k5
       ·rw [if_neg h0] at hi
        simp [tmL, Trie.get] at hi), by simp [hsz], rfl⟩
      refine ⟨x, k4, φ2, x, rfl, g1.st, ?_⟩
      have := g2.tm 0 v (by rw [yH]; simp)
      simpa using this
     rcases hor with rfl | rfl
     ·exact hleave
     ·exact hleave
    exact key
  ·cases hcf
theorem wh {E : Env} {c : St} {M : Nat} {res : List RV} {v : AV} {c' : St} {r : Res} {fr : Fr} {s s2 : St} {vs : List AV} (keep : List Nat) (h0 : r = .norm ∨ r = .ret) (h1 : z8 s fr.df = some s2) (h2 : resV E.globs fr.tm s2 res = some vs) (h5 : gcF true c M keep [0] c.md { tm := tmL [(0, yQ vs)], df := [] } s2 = some ({ tm := tmL [(0, v)], df := [] }, c')) : ∃ keep, FinG E c M keep res v c' r fr s :=
 ⟨keep, h0, s2, vs, h1, h2, h5⟩
def gV (id esz : Nat) : Nat → List AV → AV
 | 0, _ => .nils
 | k + 1, cs => .gr id esz (k + 1) cs
def gOs (t : Nat) : Nat → List AV → List (Option AObj)
 | 0, _ => []
 | _ + 1, cs => [some (.app t cs)]
structure IsG {α : Type} (t esz : Nat) (enc : α → List AV) (Pre : α → Nat → List AV → Prop) (args : List AV) (s : St) (x : α) (k : Nat) (cs : List AV) (id : Nat) : Prop where
 a : ∃ r, args = r ++ [gV id esz k cs] ∧ enc x = wkL r
 z : k = 0 → id = 0 ∧ cs = []
 b : k ≠ 0 → id < s.next ∧ s.get id = some (.app t cs)
 p : Pre x k cs
noncomputable def outG (t : Nat) (s : St) (id k k' : Nat) (cs' : List AV) : St :=
 if k' = 0 then s else if k = 0 then s.alloc (.app t cs') else newG t s id cs'
open Classical in
noncomputable def orcG {α : Type} (t esz : Nat) (enc : α → List AV) (Pre : α → Nat → List AV → Prop) (F : α → Nat × List AV) (args : List AV) (s : St) : Option (AV × St) :=
 if h : ∃ q : α × Nat × List AV × Nat, IsG t esz enc Pre args s q.1 q.2.1 q.2.2.1 q.2.2.2 then
  some (gV s.next esz ((Classical.choose h).2.1 + (F (Classical.choose h).1).1) ((Classical.choose h).2.2.1 ++ (F (Classical.choose h).1).2),
   outG t s (Classical.choose h).2.2.2 (Classical.choose h).2.1 ((Classical.choose h).2.1 + (F (Classical.choose h).1).1) ((Classical.choose h).2.2.1 ++ (F (Classical.choose h).1).2))
 else none
section
variable {α : Type} {t esz : Nat} {enc : α → List AV} {Pre : α → Nat → List AV → Prop} {F : α → Nat × List AV}
theorem zwI {id id' k k' : Nat} {cs cs' : List AV} (h : gV id esz k cs = gV id' esz k' cs') (z : k = 0 → id = 0 ∧ cs = []) (z' : k' = 0 → id' = 0 ∧ cs' = []) : id = id' ∧ k = k' ∧ cs = cs' := by
 cases k with
 | zero =>
  cases k' with
  | zero =>
   obtain ⟨rfl, rfl⟩ := z rfl
   obtain ⟨rfl, rfl⟩ := z' rfl
   exact ⟨rfl, rfl, rfl⟩
  | succ k' => cases h
 | succ k =>
  cases k' with
  | zero => cases h
  | succ k' =>
   simp only [gV, AV.gr.injEq, true_and] at h
   exact ⟨h.1, h.2.1, h.2.2⟩
theorem IsG.uniq (inj : ∀ x y, enc x = enc y → x = y) {args : List AV} {s : St} {x x' : α} {k k' id id' : Nat} {cs cs' : List AV} (h : IsG t esz enc Pre args s x k cs id) (h' : IsG t esz enc Pre args s x' k' cs' id') : x' = x ∧ k' = k ∧ cs' = cs ∧ id' = id := by
 obtain ⟨r, ha, he⟩ := h.a
 obtain ⟨r', ha', he'⟩ := h'.a
 rw [ha] at ha'
 obtain ⟨h1, h2⟩ := List.append_inj' ha' rfl
 simp only [List.cons.injEq, and_true] at h2
 obtain ⟨e1, e2, e3⟩ := zwI h2 h.z h'.z
 subst h1
 exact ⟨inj _ _ (he'.trans he.symm), e2.symm, e3.symm, e1.symm⟩
theorem UA (inj : ∀ x y, enc x = enc y → x = y) {args : List AV} {s : St} {x : α} {k id : Nat} {cs : List AV} (h : IsG t esz enc Pre args s x k cs id) : orcG t esz enc Pre F args s = some (gV s.next esz (k + (F x).1) (cs ++ (F x).2), outG t s id k (k + (F x).1) (cs ++ (F x).2)) := by
 have hx : ∃ q : α × Nat × List AV × Nat, IsG t esz enc Pre args s q.1 q.2.1 q.2.2.1 q.2.2.2 := ⟨(x, k, cs, id), h⟩
 unfold orcG
 rw [dif_pos hx]
 obtain ⟨e1, e2, e3, e4⟩ := h.uniq inj (Classical.choose_spec hx)
 rw [e1, e2, e3, e4]
theorem zzq {s : St} {id k k' : Nat} {cs cs' : List AV} (h : k ≠ 0 → id < s.next ∧ s.get id = some (.app t cs)) : Ext s (outG t s id k k' cs') := by
 unfold outG
 split
 ·exact Ext.refl s
 ·split
  ·exact x4 _ _
  ·rename_i h1 h2; exact lW (h h2).2
theorem Xy (args : List AV) (s : St) (v : AV) (s' : St) (h : orcG t esz enc Pre F args s = some (v, s')) : Ext s s' := by
 unfold orcG at h
 split at h
 ·rename_i hx
  cases h
  exact zzq (Classical.choose_spec hx).b
 ·cases h
theorem q9 {ρ : Nat → Option Nat} : ∀ {a b a' b' : List AV}, renL ρ a = some a' → renL ρ b = some b' → renL ρ (a ++ b) = some (a' ++ b')
 | [], b, a', b', h, h' => by simp only [renL, Option.some.injEq] at h; subst h; simpa using h'
 | v :: a, b, a', b', h, h' => by
  simp only [renL] at h
  split at h
  ·rename_i v1 r1 h1 h2
   cases h
   simp only [List.cons_append, renL, h1, q9 h2 h']
  ·cases h
theorem VRL.wk1 {φ : Phi} {r : List AV} {v : AV} {xs : List Value} (h : VRL φ (r ++ [v]) xs) : VRL φ (wkL r ++ [v]) xs := by
 obtain ⟨y1, y2, rfl, h1, h2⟩ := VRL.split h
 exact VRL.append (xJ h1) h2
theorem La {P : Program} {w0 : World} {f : Nat} {b : Bool} (hpure : ∀ x, zu (enc x) = true) (hpc : ∀ x k cs, Pre x k cs → zu cs = true) (hpF : ∀ x, zu (F x).2 = true)
  (h0 : ∀ x, Pre x 0 [] → SC P w0 f (enc x ++ [.nils]) (H [] 0 b) (gV 0 esz (F x).1 (F x).2) (H (gOs t (F x).1 (F x).2) 0 b))
  (h1 : ∀ x k cs, Pre x (k + 1) cs → SC P w0 f (enc x ++ [.gr 0 esz (k + 1) cs]) (H [some (.app t cs)] 0 b) (.gr 1 esz (k + 1 + (F x).1) (cs ++ (F x).2)) (H [none, some (.app t (cs ++ (F x).2))] 1 b)) : w9 P w0 f (orcG t esz enc Pre F) := by
 intro args s v s' hg
 unfold orcG at hg
 split at hg
 ·rename_i hx
  simp only [Option.some.injEq, Prod.mk.injEq] at hg
  obtain ⟨rfl, rfl⟩ := hg
  have hs := Classical.choose_spec hx
  revert hs
  generalize Classical.choose hx = q
  obtain ⟨x, k, cs, id⟩ := q
  simp only
  intro hs
  obtain ⟨r, rfl, he⟩ := hs.a
  cases k with
  | zero =>
   obtain ⟨rfl, rfl⟩ := hs.z rfl
   refine SC.args (args' := enc x ++ [.nils]) ?_ (fun φ xs hv => by rw [he]; exact VRL.wk1 hv)
   have h0 := h0 x hs.p
   simp only [Nat.zero_add, List.nil_append]
   revert h0
   cases hF : F x with
   | mk k' cs' =>
   simp only
   intro h0
   cases k' with
   | zero =>
    exact SC.emb h0 (ids := []) rfl (by simp) (fun i k hk => by simp at hk) (q9 (jd _ (hpure x)) (by simp only [renL, renV])) (by simp only [gV, renV])
     ⟨by rw [show outG t s 0 0 0 cs' = s from rfl]; exact Ext.refl s, by simp, rfl, fun i _ _ o => by rw [show outG t s 0 0 0 cs' = s from rfl], fun i k hk => by simp at hk, fun j h1 h2 => by simp [gOs] at h2, fun i k hk => by simp at hk⟩
   | succ k' =>
    have e : outG t s 0 0 (k' + 1) cs' = s.alloc (.app t cs') := rfl
    rw [e]
    refine SC.emb h0 (ids := []) rfl (by simp) (fun i k hk => by simp at hk) (q9 (jd _ (hpure x)) (by simp only [renL, renV])) (by
     have : iot' [] s.next (gOs t (k' + 1) cs').length 0 = some s.next := rfl
     simp only [gV, renV, this]) ⟨x4 _ _, by simp, rfl, fun i hi _ o => ?_, fun i k hk => by simp at hk, fun j h1 h2 o1 ho => ?_, fun i k hk => by simp at hk⟩
    ·have hse := yj (s := s) (s' := s.alloc (.app t cs')) (id := i) rfl rfl
     rw [yY (s := s.alloc (.app t cs')), yY (s := s), hse]
     rw [show (s.alloc (.app t cs')).objs = s.objs.set s.next (.app t cs') from rfl, Trie.get_set, if_neg (show ¬ i = s.next by omega)]
    ·simp only [gOs, List.length_cons, List.length_nil] at h1 h2
     have : j = 0 := by omega
     subst this
     have h3 := zE ho
     simp only [List.length_nil, Nat.sub_zero, Nat.add_zero] at h3
     rw [show (s.alloc (.app t cs')).objs = s.objs.set s.next (.app t cs') from rfl, Trie.get_set_same] at h3
     cases h3
     exact ⟨.app t cs', rfl, by have := hpF x; rw [hF] at this; simp only [renO, this, cond_true]⟩
  | succ k =>
   obtain ⟨hlt, hb⟩ := hs.b (by omega)
   have h1 := h1 x k cs hs.p
   refine SC.args (args' := enc x ++ [.gr id esz (k + 1) cs]) ?_ (fun φ xs hv => by rw [he]; exact VRL.wk1 hv)
   have e : outG t s id (k + 1) (k + 1 + (F x).1) (cs ++ (F x).2) = newG t s id (cs ++ (F x).2) := by
    unfold outG; rw [if_neg (by omega), if_neg (by omega)]
   have e2 : gV s.next esz (k + 1 + (F x).1) (cs ++ (F x).2) = .gr s.next esz (k + 1 + (F x).1) (cs ++ (F x).2) := by
    rw [show k + 1 + (F x).1 = (k + (F x).1) + 1 by omega]; rfl
   rw [e, e2]
   have g0 : iot [id] 0 = some id := rfl
   have k1 : iot' [id] s.next 2 1 = some s.next := rfl
   refine SC.emb h1 (ids := [id]) rfl (by simp) (fun i q hk => ?_) (q9 (jd _ (hpure x)) (by simp only [renL, renV, g0])) (by
    rw [show ([none, some (AObj.app t (cs ++ (F x).2))] : List (Option AObj)).length = 2 from rfl]
    simp only [renV, k1]) ⟨lW hb, by simp, rfl, fun i hi hn o => ?_, fun i q hk hM o1 ho => ?_, fun j j1 j2 o1 ho => ?_, fun i q hk hM => ?_⟩
   ·match i, hk with
    | 0, hk => cases hk; exact ⟨_, .app t cs, rfl, by simp only [renO, hpc x _ cs hs.p, cond_true], hb⟩
    | i + 1, hk => simp at hk
   ·have n1 : i ≠ s.next := by omega
    have n3 : i ≠ id := fun e => absurd (hn 0 (by rw [e]; rfl)) (by decide)
    rw [kg, if_neg n1, if_neg n3, ← yY]
   ·match i, hk with
    | 0, hk =>
     cases hk
     rw [kg, zZ hb, if_pos rfl, if_neg (by omega), if_pos rfl] at ho
     cases ho
    | i + 1, hk => simp at hk
   ·simp only [List.length_cons, List.length_nil] at j1 j2
    have : j = 1 := by omega
    subst this
    rw [kg] at ho
    simp only [List.length_cons, List.length_nil] at ho
    split at ho
    ·rw [if_pos (by omega)] at ho
     cases ho
     exact ⟨_, rfl, by simp only [renO, yB, hpc x _ cs hs.p, hpF x, Bool.and_self, cond_true]⟩
    ·cases ho
   ·match i, hk with
    | 0, hk =>
     cases hk
     show (s.wm ||| 1 <<< id).testBit id = true
     simp [Nat.testBit_or, Nat.testBit_shiftLeft]
    | i + 1, hk => simp at hk
 ·cases hg
theorem zvm {E : Env} {O : Orc} {f : Nat} (hO : O f = some (orcG t esz enc Pre F)) (inj : ∀ x y, enc x = enc y → x = y) (x : α) (hp : Pre x 0 []) {k : Nat} {cs : List AV} (hF : F x = (k, cs)) (l : List (Nat × Option AObj)) (n m : Nat) (md : Bool) (r : List AV) (hr : enc x = wkL r) :
  (evW E O).call f (r ++ [.nils]) (KL l n m md [] none) = some (gV n esz k cs, if k = 0 then KL l n m md [] none else KL ((n, some (.app t cs)) :: l) (n + 1) m md [] none) := by
 have hg := UA (F := F) inj (t := t) (esz := esz) (Pre := Pre) (args := r ++ [.nils]) (s := KL l n m md [] none) (x := x) (k := 0) (cs := []) (id := 0) ⟨⟨r, rfl, hr⟩, fun _ => ⟨rfl, rfl⟩, fun h => absurd rfl h, hp⟩
 rw [zJ hO, hg, hF]
 simp only [Nat.zero_add, List.nil_append, outG, if_true]
 rfl
theorem zvp {E : Env} {O : Orc} {f : Nat} (hO : O f = some (orcG t esz enc Pre F)) (inj : ∀ x y, enc x = enc y → x = y) (x : α) {q : Nat} {old : List AV} (hp : Pre x (q + 1) old) {k : Nat} {cs : List AV} (hF : F x = (k, cs)) (l : List (Nat × Option AObj)) (n m : Nat) (md : Bool) (id : Nat) (hi : id < n) (hb : getA l id = some (.app t old)) (r : List AV) (hr : enc x = wkL r) :
  (evW E O).call f (r ++ [.gr id esz (q + 1) old]) (KL l n m md [] none) = some (.gr n esz (q + 1 + k) (old ++ cs), KL ((n, some (.app t (old ++ cs))) :: (id, none) :: l) (n + 1) (mark m id) md [] none) := by
 have hg := UA (F := F) inj (t := t) (esz := esz) (Pre := Pre) (args := r ++ [.gr id esz (q + 1) old]) (s := KL l n m md [] none) (x := x) (k := q + 1) (cs := old) (id := id) ⟨⟨r, rfl, hr⟩, fun h => by omega, fun _ => ⟨hi, by rw [xj]; exact hb⟩, hp⟩
 rw [zJ hO, hg, hF]
 simp only [outG]
 rw [if_neg (by omega), if_neg (by omega), show q + 1 + k = (q + k) + 1 by omega]
 rfl
end
end Go.Proofs.YthcmnajcjapjbaaGreatDoor.Ev

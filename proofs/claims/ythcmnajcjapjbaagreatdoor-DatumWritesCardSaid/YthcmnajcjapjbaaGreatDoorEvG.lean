/- Part of a verified evaluator of the model's code, generic over the program: a run of the evaluator that answers shows what the model's run answers. No conditions of its own. -/
import Derived.Test.YthcmnajcjapjbaaGreatDoorEvF
import Derived.Attr
import Derived.ChangeArms
import Derived.DataReads
set_option linter.unusedSimpArgs false
set_option linter.unusedVariables false
set_option linter.defProp false
namespace Go.Proofs.YthcmnajcjapjbaaGreatDoor.Ev
noncomputable def osA : List (Nat × Option AObj) → Trie AObj
 | [] => .leaf
 | p :: r => match p.2 with
  | some o => (osA r).set p.1 o
  | none => (osA r).del p.1
noncomputable def KL (l : List (Nat × Option AObj)) (n m : Nat) (b : Bool) (hd : List (Nat × Nat)) (on : Option (Nat × List Nat)) : St := { objs := osA l, next := n, wm := m, hide := hd, only := on, md := b }
def getA : List (Nat × Option AObj) → Nat → Option AObj
 | [], _ => none
 | p :: r, i => if i = p.1 then p.2 else getA r i
theorem hC : ∀ (l : List (Nat × Option AObj)) (i : Nat), (osA l).get i = getA l i
 | [], i => rfl
 | (j, o) :: r, i => by
  cases o with
  | some o => simp only [osA, getA]; rw [Trie.get_set, hC r i]
  | none => simp only [osA, getA]; rw [Trie.get_del, hC r i]
theorem XD (i : Nat) : getA [] i = none := rfl
theorem wA (j : Nat) (o : Option AObj) (r : List (Nat × Option AObj)) (i : Nat) : getA ((j, o) :: r) i = if i = j then o else getA r i := rfl
def u5 : Nat → List (Option AObj) → List (Nat × Option AObj)
 | _, [] => []
 | n, o :: r => match o with
  | some o => (n, some o) :: u5 (n + 1) r
  | none => u5 (n + 1) r
theorem JZ (n : Nat) : u5 n [] = [] := rfl
theorem WZ (n : Nat) (o : AObj) (r : List (Option AObj)) : u5 n (some o :: r) = (n, some o) :: u5 (n + 1) r := rfl
theorem WJ (n : Nat) (r : List (Option AObj)) : u5 n (none :: r) = u5 (n + 1) r := rfl
theorem X4 : ∀ (l : List (Option AObj)) (n : Nat), osT n l = osA (u5 n l)
 | [], n => rfl
 | o :: r, n => by cases o <;> simp only [osT, u5, osA] <;> rw [X4 r]
theorem H_eq (os : List (Option AObj)) (m : Nat) (b : Bool) : H os m b = KL (u5 0 os) os.length m b [] none := by
 unfold H KL; rw [X4]
theorem Pe (l : List (Nat × Option AObj)) (n m : Nat) (b : Bool) (hd : List (Nat × Nat)) (on : Option (Nat × List Nat)) : (KL l n m b hd on).next = n := rfl
theorem zxc (l : List (Nat × Option AObj)) (n m : Nat) (b : Bool) (hd : List (Nat × Nat)) (on : Option (Nat × List Nat)) : (KL l n m b hd on).wm = m := rfl
theorem Xg (l : List (Nat × Option AObj)) (n m : Nat) (b : Bool) (hd : List (Nat × Nat)) (on : Option (Nat × List Nat)) : (KL l n m b hd on).md = b := rfl
theorem x3 (l : List (Nat × Option AObj)) (n m : Nat) (b : Bool) (i : Nat) : (KL l n m b [] none).get i = getA l i := by
 rw [← hC]; rfl
theorem Vj (l : List (Nat × Option AObj)) (n m : Nat) (b : Bool) (hd : List (Nat × Nat)) (k : Nat) (ks : List Nat) (i : Nat) : (KL l n m b hd (some (k, ks))).get i = bif hid hd i then none else bif Nat.ble k i then getA l i else bif memN i ks then getA l i else none := by
 rw [← hC]; rfl
theorem GN (l : List (Nat × Option AObj)) (n m : Nat) (b : Bool) (hd : List (Nat × Nat)) (on : Option (Nat × List Nat)) (i : Nat) (o : AObj) : (KL l n m b hd on).put i o = KL ((i, some o) :: l) n (mark m i) b hd on := rfl
theorem zyU (l : List (Nat × Option AObj)) (n m : Nat) (b : Bool) (hd : List (Nat × Nat)) (on : Option (Nat × List Nat)) (i : Nat) : (KL l n m b hd on).del i = KL ((i, none) :: l) n (mark m i) b hd on := rfl
theorem Ht (l : List (Nat × Option AObj)) (n m : Nat) (b : Bool) (hd : List (Nat × Nat)) (on : Option (Nat × List Nat)) (o : AObj) : (KL l n m b hd on).alloc o = KL ((n, some o) :: l) (n + 1) m b hd on := rfl
theorem LY (m i : Nat) : mark m i = m ||| 1 <<< i := rfl
def zzZ (x : Option (Trie AV × St)) (k : Trie AV → St → Option (Trie AV × St)) : Option (Trie AV × St) :=
 match x with
 | some p => k p.1 p.2
 | none => none
theorem Wj (tm : Trie AV) (s : St) (k : Trie AV → St → Option (Trie AV × St)) : zzZ (some (tm, s)) k = k tm s := rfl
theorem zzw (G : Env) (S : Self) (tm : Trie AV) (s : St) : evS G S [] tm s = some (tm, s) := rfl
theorem Ll (G : Env) (S : Self) (o : SOper) (r : List SOper) (tm : Trie AV) (s : St) : evS G S (o :: r) tm s = zzZ (qB G S o tm s) (evS G S r) := rfl
theorem P4 (G : Env) (S : Self) (d : Option Nat) (op : IOp) (tm : Trie AV) (s : St) : qB G S ⟨d, op, none⟩ tm s = stS tm d (evOp G S op tm s) := rfl
noncomputable def HV (G : Env) (S : Self) (d : Option Nat) (op : IOp) (tm : Trie AV) (s : St) : Option Bool → Option (Trie AV × St)
 | some true => stS tm d (evOp G S op tm s)
 | some false => some (yM tm d xb, s)
 | none => none
def Zt (w : Bool) : Option AV → Option Bool
 | some (.bool b) => some (b == w)
 | some _ => some false
 | none => none
theorem zzd (G : Env) (S : Self) (d : Option Nat) (op : IOp) (i : Nat) (w : Bool) (tm : Trie AV) (s : St) : qB G S ⟨d, op, some (i, w)⟩ tm s = HV G S d op tm s (Zt w (tm.get i)) := by
 unfold qB qi
 simp only
 generalize tm.get i = x
 cases x with
 | none => rfl
 | some v => cases v <;> first | rfl | (rename_i b; cases b <;> cases w <;> rfl)
theorem LV (b : Bool) : Zt true (some (.bool b)) = some b := by cases b <;> rfl
theorem PV (b : Bool) : Zt false (some (.bool b)) = some (!b) := by cases b <;> rfl
theorem zza (w : Bool) (l : List AV) : Zt w (some (.tup l)) = some false := rfl
theorem U3 : xb = .tup [] := rfl
theorem Po (G : Env) (S : Self) (d : Option Nat) (op : IOp) (tm : Trie AV) (s : St) : HV G S d op tm s (some true) = stS tm d (evOp G S op tm s) := rfl
theorem L6 (G : Env) (S : Self) (d : Option Nat) (op : IOp) (tm : Trie AV) (s : St) : HV G S d op tm s (some false) = some (yM tm d xb, s) := rfl
theorem He (tm : Trie AV) (d : Option Nat) (v : AV) (s : St) : stS tm d (some (v, s)) = some (yM tm d v, s) := rfl
theorem X2 (l : List (Nat × AV)) (i : Nat) (v : AV) : yM (tmL l) (some i) v = tmL ((i, v) :: l) := rfl
theorem Y4 (tm : Trie AV) (v : AV) : yM tm none v = tm := rfl
theorem XY (tm : Trie AV) (i : Nat) : yD tm i [] = tm := rfl
theorem Z5 (l : List (Nat × AV)) (i : Nat) (v : AV) (r : List AV) : yD (tmL l) i (v :: r) = yD (tmL ((i, v) :: l)) (i + 1) r := rfl
def zz7 (x : Option (List LogE × Trie AV × St)) (k : List LogE → Trie AV → St → Option (Trie AV × St)) : Option (Trie AV × St) :=
 match x with
 | some p => k p.1 p.2.1 p.2.2
 | none => none
theorem Qy (log : List LogE) (tm : Trie AV) (s : St) (k : List LogE → Trie AV → St → Option (Trie AV × St)) : zz7 (some (log, tm, s)) k = k log tm s := rfl
theorem Hr (E : Env) (S : Self) (ops : List DOper) (tm : Trie AV) (df : List Nat) (l : List (Nat × Option AObj)) (n m : Nat) (b : Bool) (hd : List (Nat × Nat)) : j2 E S ops ⟨tm, df⟩ (KL l n m b hd none) = xW df (evD E S ops 0 [] tm (KL l n m b hd none)) := rfl
theorem zzK (G : Env) (S : Self) (i : Nat) (log : List LogE) (tm : Trie AV) (s : St) : evD G S [] i log tm s = some (tm, s) := rfl
theorem KF (G : Env) (S : Self) (o : DOper) (r : List DOper) (i : Nat) (log : List LogE) (tm : Trie AV) (s : St) : evD G S (o :: r) i log tm s = zz7 (qL G S o i log tm s) (evD G S r (i + 1)) := rfl
noncomputable def opD (G : Env) (S : Self) (d : Option Nat) (op : IOp) (deps i : Nat) (log : List LogE) (tm : Trie AV) (l : List (Nat × Option AObj)) (n m : Nat) (b : Bool) (hd : List (Nat × Nat)) (on : Option (Nat × List Nat)) (tch : Option (List Nat)) : Option (List LogE × Trie AV × St) :=
 endS2 d deps i log tm n m hd on tch (evOp G S op tm (KL l n 0 b (yo deps log hd) (onOf n tch)))
 where
 onOf (n : Nat) : Option (List Nat) → Option (Nat × List Nat)
  | some l => some (n, l)
  | none => none
 endS2 (d : Option Nat) (deps i : Nat) (log : List LogE) (tm : Trie AV) (n m : Nat) (hd : List (Nat × Nat)) (on : Option (Nat × List Nat)) (tch : Option (List Nat)) : Option (AV × St) → Option (List LogE × Trie AV × St)
  | some p => bif xK deps tch (zQ p.2.wm n) log then some ({ idx := i, lo := n, hi := p.2.next, tch := tch, wm := zQ p.2.wm n } :: log, yM tm d p.1, { p.2 with hide := hd, only := on, wm := Nat.lor m p.2.wm }) else none
  | none => none
theorem zyN (G : Env) (S : Self) (d : Option Nat) (op : IOp) (deps i : Nat) (log : List LogE) (tm : Trie AV) (l : List (Nat × Option AObj)) (n m : Nat) (b : Bool) (hd : List (Nat × Nat)) (on : Option (Nat × List Nat)) (tch : Option (List Nat)) :
  opD G S d op deps i log tm l n m b hd on tch = opD.endS2 d deps i log tm n m hd on tch (evOp G S op tm (KL l n 0 b (yo deps log hd) (opD.onOf n tch))) := rfl
theorem VG (n : Nat) (l : List Nat) : opD.onOf n (some l) = some (n, l) := rfl
theorem Jm (n : Nat) : opD.onOf n none = none := rfl
theorem Lo (d : Option Nat) (deps i : Nat) (log : List LogE) (tm : Trie AV) (n m : Nat) (hd : List (Nat × Nat)) (on : Option (Nat × List Nat)) (tch : Option (List Nat)) (v : AV) (l' : List (Nat × Option AObj)) (n' m' : Nat) (b' : Bool) (hd' : List (Nat × Nat)) (on' : Option (Nat × List Nat)) :
  opD.endS2 d deps i log tm n m hd on tch (some (v, KL l' n' m' b' hd' on')) = bif xK deps tch (zQ m' n) log then some (⟨i, n, n', tch, zQ m' n⟩ :: log, yM tm d v, KL l' n' (m ||| m') b' hd on) else none := rfl
theorem P9 (G : Env) (S : Self) (d : Option Nat) (op : IOp) (deps i : Nat) (log : List LogE) (tm : Trie AV) (l : List (Nat × Option AObj)) (n m : Nat) (b : Bool) (hd : List (Nat × Nat)) (on : Option (Nat × List Nat)) :
  qL G S ⟨⟨d, op, none⟩, deps⟩ i log tm (KL l n m b hd on) = opD G S d op deps i log tm l n m b hd on (yj op tm) := by
 simp only [qL, qi, endD, begD, opD]
 cases yj op tm <;> rfl
noncomputable def YB (G : Env) (S : Self) (d : Option Nat) (op : IOp) (deps i : Nat) (log : List LogE) (tm : Trie AV) (l : List (Nat × Option AObj)) (n m : Nat) (b : Bool) (hd : List (Nat × Nat)) (on : Option (Nat × List Nat)) : Option Bool → Option (List LogE × Trie AV × St)
 | some true => opD G S d op deps i log tm l n m b hd on (yj op tm)
 | some false => some (log, yM tm d xb, KL l n m b hd on)
 | none => none
theorem Ph (G : Env) (S : Self) (d : Option Nat) (op : IOp) (j : Nat) (w : Bool) (deps i : Nat) (log : List LogE) (tm : Trie AV) (l : List (Nat × Option AObj)) (n m : Nat) (b : Bool) (hd : List (Nat × Nat)) (on : Option (Nat × List Nat)) :
  qL G S ⟨⟨d, op, some (j, w)⟩, deps⟩ i log tm (KL l n m b hd on) = YB G S d op deps i log tm l n m b hd on (Zt w (tm.get j)) := by
 unfold qL qi
 simp only
 generalize tm.get j = x
 cases x with
 | none => rfl
 | some v =>
  cases v <;> first | rfl | skip
  rename_i c
  cases c <;> cases w <;> first | rfl | (simp only [YB, Zt, endD, begD, opD]; cases yj op tm <;> rfl)
theorem H2 (G : Env) (S : Self) (d : Option Nat) (op : IOp) (deps i : Nat) (log : List LogE) (tm : Trie AV) (l : List (Nat × Option AObj)) (n m : Nat) (b : Bool) (hd : List (Nat × Nat)) (on : Option (Nat × List Nat)) : YB G S d op deps i log tm l n m b hd on (some true) = opD G S d op deps i log tm l n m b hd on (yj op tm) := rfl
theorem Ku (G : Env) (S : Self) (d : Option Nat) (op : IOp) (deps i : Nat) (log : List LogE) (tm : Trie AV) (l : List (Nat × Option AObj)) (n m : Nat) (b : Bool) (hd : List (Nat × Nat)) (on : Option (Nat × List Nat)) : YB G S d op deps i log tm l n m b hd on (some false) = some (log, yM tm d xb, KL l n m b hd on) := rfl
theorem YE (deps : Nat) (h : List (Nat × Nat)) : yo deps [] h = h := rfl
theorem pE (deps : Nat) (i lo hi : Nat) (tch : Option (List Nat)) (wm : Nat) (r : List LogE) (h : List (Nat × Nat)) : yo deps (⟨i, lo, hi, tch, wm⟩ :: r) h = bif Nat.beq lo hi || deps.testBit i then yo deps r h else (lo, hi) :: yo deps r h := rfl
theorem Wd (deps : Nat) (tch : Option (List Nat)) (wm : Nat) : xK deps tch wm [] = true := rfl
theorem X9 (deps : Nat) (tch : Option (List Nat)) (wm : Nat) (i lo hi : Nat) (tch' : Option (List Nat)) (wm' : Nat) (r : List LogE) :
  xK deps tch wm (⟨i, lo, hi, tch', wm'⟩ :: r) = bif deps.testBit i then xK deps tch wm r else bif (Nat.beq wm 0 || offMask wm tch') && (Nat.beq wm' 0 || offMask wm' tch) then xK deps tch wm r else false := rfl
theorem Yr (m : Nat) : offMask m none = false := rfl
theorem Xr (m : Nat) : offMask m (some []) = true := rfl
theorem Yc (m a : Nat) (l : List Nat) : offMask m (some (a :: l)) = bif m.testBit a then false else offMask m (some l) := rfl
theorem Qz (m n : Nat) : zQ m n = m % 2 ^ n := rfl
theorem YW (m i : Nat) : m.testBit i = !(Nat.beq (m / 2 ^ i % 2) 0) := by
 rw [Nat.testBit_eq_decide_div_mod_eq]
 rcases Nat.mod_two_eq_zero_or_one (m / 2 ^ i) with h | h <;> rw [h] <;> rfl
theorem Lw (tm : Trie AV) (x : Opd) : yj (.mv x) tm = some [] := rfl
theorem Ux (tm : Trie AV) (x : Opd) : yj (.nck x) tm = some [] := rfl
theorem GQ (tm : Trie AV) (n : Nat) (x : Opd) : yj (.fa n x) tm = some [] := rfl
theorem Jy (tm : Trie AV) (op : BinOp) (x y : Opd) : yj (.bin op x y) tm = some [] := rfl
theorem J7 (tm : Trie AV) (k : EqK) (b : Bool) (x y : Opd) : yj (.eqk k b x y) tm = some [] := rfl
theorem KZ (tm : Trie AV) (op : UnOp) (x : Opd) : yj (.un op x) tm = some [] := rfl
theorem Qk (tm : Trie AV) (a b c : Opd) : yj (.pick a b c) tm = some [] := rfl
theorem Gb (tm : Trie AV) (k : IntKind) (x : Opd) : yj (.ci k x) tm = some [] := rfl
theorem HK (tm : Trie AV) (e : Nat) (x y : Opd) : yj (.ia e x y) tm = some [] := rfl
theorem V2 (tm : Trie AV) (x : Opd) (a b : Option Opd) : yj (.sls x a b) tm = some [] := rfl
theorem JX (tm : Trie AV) (e : Nat) (x : Opd) (a b c : Option Opd) : yj (.slv e x a b c) tm = some [] := rfl
theorem Jf (tm : Trie AV) (x : Opd) : yj (.usd x) tm = some [] := rfl
theorem KE (tm : Trie AV) (x : Opd) : yj (.ld x) tm = tPtr (x.ev tm) := rfl
theorem JH (tm : Trie AV) (n : Nat) (x : Opd) : yj (.ldn n x) tm = tPtr (x.ev tm) := rfl
theorem Hb (tm : Trie AV) (n : Nat) (x y : Opd) : yj (.st n x y) tm = tPtr (x.ev tm) := rfl
theorem Jk (tm : Trie AV) (k : LK) (x : Opd) : yj (.len k x) tm = tPtr (x.ev tm) := rfl
theorem UB (tm : Trie AV) (x : Opd) : yj (.cbs x) tm = tPtr (x.ev tm) := rfl
theorem VU (tm : Trie AV) (e : Nat) (x y : Opd) : yj (.ust e x y) tm = tPtr (x.ev tm) := rfl
theorem WA (tm : Trie AV) (f : Nat) (l : List Opd) : yj (.call f l) tm = none := rfl
theorem V5  : tPtr (some (.nilp)) = some [] := rfl
theorem U4  : tPtr (some (.nils)) = some [] := rfl
theorem G9 (n : Nat) (e : Bool) (l : List AV) : tPtr (some (.lst n e l)) = some [] := rfl
theorem Py (l : List AV) : tPtr (some (.vp l)) = some [] := rfl
theorem Gx (i o : Nat) : tPtr (some (.ptr i o)) = some [i] := rfl
theorem LU (i o n : Nat) (c : Cap) : tPtr (some (.sl i o n c)) = some [i] := rfl
theorem Pr (G : Env) (S : Self) (tm : Trie AV) (s : St) (x : Opd) : evOp G S (.mv x) tm s = v1 tm s x some := rfl
theorem UC (G : Env) (S : Self) (tm : Trie AV) (s : St) (c : Opd) (a : Opd) (b : Opd) : evOp G S (.pick c a b) tm s = ret1 s (Zr (c.ev tm) (a.ev tm) (b.ev tm)) := rfl
theorem Qx (G : Env) (S : Self) (tm : Trie AV) (s : St) (e : Nat) (zs : List AV) : evOp G S (.alloc e zs) tm s = uH s e zs := rfl
theorem Gz (G : Env) (S : Self) (tm : Trie AV) (s : St) (e : Nat) (x : Opd) : evOp G S (.box e x) tm s = o1 tm x (oBox s e) := rfl
theorem QD (G : Env) (S : Self) (tm : Trie AV) (s : St) (zs : List AV) (ps : List (Nat × Nat × Opd)) : evOp G S (.build zs ps) tm s = ret1 s (aggO (wL zs tm ps)) := rfl
theorem Kz (G : Env) (S : Self) (tm : Trie AV) (s : St) (e : Nat) (zs : List AV) (len : Nat) (ps : List (Nat × Nat × Opd)) : evOp G S (.bsl e zs len ps) tm s = oBsl s e len (wL zs tm ps) := rfl
theorem PW (G : Env) (S : Self) (tm : Trie AV) (s : St) (x : Opd) : evOp G S (.ld x) tm s = v1 tm s x (vLd G.globs s) := rfl
theorem GX (G : Env) (S : Self) (tm : Trie AV) (s : St) (n : Nat) (x : Opd) : evOp G S (.ldn n x) tm s = v1 tm s x (vLdn G.globs s n) := rfl
theorem PM (G : Env) (S : Self) (tm : Trie AV) (s : St) (n : Nat) (x : Opd) (v : Opd) : evOp G S (.st n x v) tm s = o2 tm x v (oSt s n) := rfl
theorem Gy (G : Env) (S : Self) (tm : Trie AV) (s : St) (x : Opd) : evOp G S (.nck x) tm s = v1 tm s x vNck := rfl
theorem GY (G : Env) (S : Self) (tm : Trie AV) (s : St) (op : BinOp) (x : Opd) (y : Opd) : evOp G S (.bin op x y) tm s = v2 tm s x y (vBin op) := rfl
theorem La (G : Env) (S : Self) (tm : Trie AV) (s : St) (k : EqK) (neg : Bool) (x : Opd) (y : Opd) : evOp G S (.eqk k neg x y) tm s = v2 tm s x y (vEqk k neg) := rfl
theorem Pz (G : Env) (S : Self) (tm : Trie AV) (s : St) (op : UnOp) (x : Opd) : evOp G S (.un op x) tm s = v1 tm s x (vUn op) := rfl
theorem zzF (G : Env) (S : Self) (tm : Trie AV) (s : St) (k : IntKind) (x : Opd) : evOp G S (.ci k x) tm s = v1 tm s x (vCi k) := rfl
theorem Lg (G : Env) (S : Self) (tm : Trie AV) (s : St) (e : Nat) (x : Opd) : evOp G S (.csb e x) tm s = o1 tm x (oCsb s e) := rfl
theorem H1 (G : Env) (S : Self) (tm : Trie AV) (s : St) (x : Opd) : evOp G S (.cup x) tm s = v1 tm s x (vCup s) := rfl
theorem KV (G : Env) (S : Self) (tm : Trie AV) (s : St) (L : List (Nat × Nat)) (x : Opd) : evOp G S (.cpu L x) tm s = v1 tm s x (vCpu s L) := rfl
theorem Hi (G : Env) (S : Self) (tm : Trie AV) (s : St) (x : Opd) : evOp G S (.cbs x) tm s = v1 tm s x (vCbs s) := rfl
theorem Kr (G : Env) (S : Self) (tm : Trie AV) (s : St) (x : Opd) : evOp G S (.cis x) tm s = v1 tm s x vCis := rfl
theorem Km (G : Env) (S : Self) (tm : Trie AV) (s : St) (x : Opd) (lo : Option Opd) (hi : Option Opd) : evOp G S (.sls x lo hi) tm s = vs3 tm s x lo hi vSls := rfl
theorem Hl (G : Env) (S : Self) (tm : Trie AV) (s : St) (esz : Nat) (x : Opd) (lo : Option Opd) (hi : Option Opd) (mx : Option Opd) : evOp G S (.slv esz x lo hi mx) tm s = vs4 tm s x lo hi mx (vSlv esz) := rfl
theorem Pj (G : Env) (S : Self) (tm : Trie AV) (s : St) (off : Nat) (x : Opd) : evOp G S (.fa off x) tm s = v1 tm s x (vFa off) := rfl
theorem zzf (G : Env) (S : Self) (tm : Trie AV) (s : St) (esz : Nat) (x : Opd) (i : Opd) : evOp G S (.ia esz x i) tm s = v2 tm s x i (vIa esz) := rfl
theorem Kw (G : Env) (S : Self) (tm : Trie AV) (s : St) (n : Nat) (esz : Nat) (x : Opd) (i : Opd) : evOp G S (.iaa n esz x i) tm s = v2 tm s x i (vIaa n esz) := rfl
theorem K6 (G : Env) (S : Self) (tm : Trie AV) (s : St) (x : Opd) (i : Opd) : evOp G S (.ixs x i) tm s = v2 tm s x i vIxs := rfl
theorem Pu (G : Env) (S : Self) (tm : Trie AV) (s : St) (x : Opd) : evOp G S (.rs x) tm s = o1 tm x (oRs s) := rfl
theorem Pm (G : Env) (S : Self) (tm : Trie AV) (s : St) (it : Opd) : evOp G S (.ns it) tm s = o1 tm it (oNs s) := rfl
theorem PK (G : Env) (S : Self) (tm : Trie AV) (s : St) (x : Opd) (i : Nat) : evOp G S (.ex x i) tm s = v1 tm s x (fun v => vEx v i) := rfl
theorem G8 (G : Env) (S : Self) (tm : Trie AV) (s : St) (k : LK) (x : Opd) : evOp G S (.len k x) tm s = v1 tm s x (vLen s k) := rfl
theorem Kp (G : Env) (S : Self) (tm : Trie AV) (s : St) (e : Nat) (esz : Nat) (bytes : Nat) (x : Opd) (y : Opd) : evOp G S (.app e esz bytes x y) tm s = o2 tm x y (appV s e esz bytes) := rfl
theorem Hh (G : Env) (S : Self) (tm : Trie AV) (s : St) (x : Opd) : evOp G S (.usd x) tm s = v1 tm s x vUsd := rfl
theorem Hq (G : Env) (S : Self) (tm : Trie AV) (s : St) (e : Nat) (x : Opd) (n : Opd) : evOp G S (.ust e x n) tm s = o2 tm x n (oUst s e) := rfl
theorem GM (G : Env) (S : Self) (tm : Trie AV) (s : St) (x : Opd) : evOp G S (.nes x) tm s = v1 tm s x some := rfl
theorem V4 (G : Env) (S : Self) (tm : Trie AV) (s : St) (f : Nat) (args : List Opd) : evOp G S (.call f args) tm s = evCl S f (evL tm args) s := rfl
theorem zzS (G : Env) (S : Self) (tm : Trie AV) (s : St) (x : Opd) (args : List Opd) : evOp G S (.cv x args) tm s = evCv S (x.ev tm) (evL tm args) s := rfl
theorem Qd (df : List Nat) (tm : Trie AV) (s : St) : xW df (some (tm, s)) = some (.norm, ⟨tm, df⟩, s) := rfl
theorem Wm (k : Fr → St → Option (Res × Fr × St)) (fr : Fr) (s : St) : we k (some (.norm, fr, s)) = k fr s := rfl
theorem Qi (k : Fr → St → Option (Res × Fr × St)) (i : Nat) (fr : Fr) (s : St) : we k (some (.exit i, fr, s)) = some (.exit i, fr, s) := rfl
theorem UL (k : Fr → St → Option (Res × Fr × St)) (fr : Fr) (s : St) : we k (some (.ret, fr, s)) = some (.ret, fr, s) := rfl
theorem zzy (a b : Fr → St → Option (Res × Fr × St)) (fr : Fr) (s : St) : u3 (some (.bool true)) a b fr s = a fr s := rfl
theorem LO (a b : Fr → St → Option (Res × Fr × St)) (fr : Fr) (s : St) : u3 (some (.bool false)) a b fr s = b fr s := rfl
theorem Xu (id : Nat) (p : Fr × St) : qg id (some (.norm, p)) = some (.norm, p) := rfl
theorem WY (id : Nat) (p : Fr × St) : qg id (some (.ret, p)) = some (.ret, p) := rfl
theorem X1 (id i : Nat) (p : Fr × St) : qg id (some (.exit i, p)) = if i = id then some (.norm, p) else some (.exit i, p) := by
 show (bif Nat.beq i id then some (Res.norm, p) else some (Res.exit i, p)) = _
 by_cases h : i = id
 ·rw [if_pos h, zn.2 h]; rfl
 ·rw [if_neg h]
  cases hb : Nat.beq i id with
  | true => exact absurd (zn.1 hb) h
  | false => rfl
theorem HH (G : Env) (S : Self) (rd : Option Nat) (fr : Fr) (s : St) : evC G S rd .skip fr s = some (.norm, fr, s) := rfl
theorem PJ (G : Env) (S : Self) (rd : Option Nat) (ops : List SOper) (tm : Trie AV) (df : List Nat) (s : St) : evC G S rd (.reg ops) ⟨tm, df⟩ s = xW df (evS G S ops tm s) := rfl
theorem LJ (G : Env) (S : Self) (rd : Option Nat) (ops : List DOper) (fr : Fr) (s : St) : evC G S rd (.regd ops) fr s = j2 G S ops fr s := rfl
theorem PL (G : Env) (S : Self) (rd : Option Nat) (a b : ICode) (fr : Fr) (s : St) : evC G S rd (.seq a b) fr s = we (evC G S rd b) (evC G S rd a fr s) := rfl
theorem LC (G : Env) (S : Self) (rd : Option Nat) (c : Opd) (a b : ICode) (tm : Trie AV) (df : List Nat) (s : St) : evC G S rd (.cond c a b) ⟨tm, df⟩ s = u3 (c.ev tm) (evC G S rd a) (evC G S rd b) ⟨tm, df⟩ s := rfl
theorem VY (G : Env) (S : Self) (rd : Option Nat) (id : Nat) (b : ICode) (fr : Fr) (s : St) : evC G S rd (.block id b) fr s = qg id (evC G S rd b fr s) := rfl
theorem G7 (G : Env) (S : Self) (rd : Option Nat) (id : Nat) (fr : Fr) (s : St) : evC G S rd (.exit id) fr s = some (.exit id, fr, s) := rfl
theorem zzb (G : Env) (S : Self) (rd : Option Nat) (fr : Fr) (s : St) : evC G S rd .ret fr s = some (.ret, fr, s) := rfl
theorem uL (E : Env) (O : Orc) (f : Nat) (a : List AV) (s : St) : (evW E O).call f a s = v8 E O (evW E O) f a s := by
 cases h : v8 E O (evW E O) f a s with
 | some r => exact HE h
 | none =>
  cases h2 : (evW E O).call f a s with
  | none => rfl
  | some r =>
   obtain ⟨n, hn⟩ := xi (α := AV × St) h2
   cases n with
   | zero => cases hn
   | succ n =>
    have h3 : v8 E O (evT E O n) f a s = some r := hn
    have h4 : LeS (evT E O n) (evW E O) := ⟨fun f a s r h => hU (fun n r h => (gg E O n).call _ _ _ _ h) h, fun rd b fr s r h => hU (fun n r h => (gg E O n).loop _ _ _ _ _ h) h, fun l a s r h => hU (fun n r h => (gg E O n).round _ _ _ _ h) h⟩
    rw [(lV E O f a s).up _ _ h4 r h3] at h; cases h
theorem zq {O : Orc} {f : Nat} {g : List AV → St → Option (AV × St)} (h : O f = some g) (E : Env) (a : List AV) (s : St) : (evW E O).call f a s = g a s := by
 rw [uL]; unfold v8; rw [h]
theorem z5 {E : Env} {O : Orc} {f : Nat} {F : IFunc} (h : O f = none) (hF : E.funs.get f = some F) (hp : E.pure f = true) (a : List AV) (l : List (Nat × Option AObj)) (n m : Nat) (b : Bool) (hd : List (Nat × Nat)) (on : Option (Nat × List Nat)) (ha : a.length ≤ F.ntmps) :
  (evW E O).call f a (KL l n m b hd on) = popR (KL l n m b hd on) (wl E.globs F.res (evC E (evW E O) none F.body ⟨yD (tmL []) 0 a, []⟩ (KL l n 0 true hd on))) := by
 rw [uL]; unfold v8 v9; rw [h, hF]
 simp only [zX, zE.2 ha, cond_true, hp]
 rfl
theorem xA {E : Env} {O : Orc} {f : Nat} {F : IFunc} (h : O f = none) (hF : E.funs.get f = some F) (hp : E.pure f = false) (a : List AV) (l : List (Nat × Option AObj)) (n m : Nat) (b : Bool) (hd : List (Nat × Nat)) (on : Option (Nat × List Nat)) (ha : a.length ≤ F.ntmps) :
  (evW E O).call f a (KL l n m b hd on) = mdR b (wl E.globs F.res (evC E (evW E O) none F.body ⟨yD (tmL []) 0 a, []⟩ (KL l n m false hd on))) := by
 rw [uL]; unfold v8 v9; rw [h, hF]
 simp only [zX, zE.2 ha, cond_true, hp, cond_false]
 rfl
theorem HR (b : Bool) (v : AV) (l : List (Nat × Option AObj)) (n m : Nat) (b' : Bool) (hd : List (Nat × Nat)) (on : Option (Nat × List Nat)) : mdR b (some (v, KL l n m b' hd on)) = some (v, KL l n m b hd on) := rfl
def popK (s t : St) (v : AV) : Option AV → Option (AV × St)
 | some v => some (v, s)
 | none => some (v, { t with wm := Nat.lor s.wm t.wm, md := s.md })
theorem J3 (s t : St) (v : AV) : popR s (some (v, t)) = popK s t v (bif Nat.beq (zQ t.wm s.next) 0 then frzA s.next v else none) := rfl
theorem Jx (s t : St) (v u : AV) : popK s t v (some u) = some (u, s) := rfl
theorem VZ (v : AV) (l : List (Nat × Option AObj)) (n m : Nat) (b : Bool) (hd : List (Nat × Nat)) (on : Option (Nat × List Nat)) (l' : List (Nat × Option AObj)) (n' m' : Nat) (b' : Bool) (hd' : List (Nat × Nat)) (on' : Option (Nat × List Nat)) :
  popK (KL l n m b hd on) (KL l' n' m' b' hd' on') v none = some (v, KL l' n' (m ||| m') b hd' on') := rfl
theorem Xk (G : List (List AV)) (res : List RV) (tm : Trie AV) (s : St) : wl G res (some (.ret, ⟨tm, []⟩, s)) = resE G tm s res := rfl
theorem YC (G : List (List AV)) (res : List RV) (tm : Trie AV) (s : St) : wl G res (some (.norm, ⟨tm, []⟩, s)) = resE G tm s res := rfl
def resK (s : St) : Option (List AV) → Option (AV × St)
 | some vs => some (yS vs, s)
 | none => none
theorem PZ (G : List (List AV)) (tm : Trie AV) (s : St) (res : List RV) : resE G tm s res = resK s (resV G tm s res) := by
 unfold resE resK; cases resV G tm s res <;> rfl
theorem UG (s : St) (vs : List AV) : resK s (some vs) = some (yS vs, s) := rfl
theorem Wz : yS [] = .tup [] := rfl
theorem WU (v : AV) : yS [v] = v := rfl
theorem WB (v w : AV) (r : List AV) : yS (v :: w :: r) = .tup (v :: w :: r) := rfl
def v5 (v : Option AV) (l : Option (List AV)) : Option (List AV) :=
 match v, l with
 | some v, some vs => some (v :: vs)
 | _, _ => none
theorem We (v : AV) (vs : List AV) : v5 (some v) (some vs) = some (v :: vs) := rfl
noncomputable def ldnK (G : List (List AV)) (s : St) (n : Nat) : Option AV → Option AV
 | some p => vLdn G s n p
 | none => none
theorem JM (G : List (List AV)) (s : St) (n : Nat) (p : AV) : ldnK G s n (some p) = vLdn G s n p := rfl
theorem Le (G : List (List AV)) (tm : Trie AV) (s : St) : resV G tm s [] = some [] := rfl
theorem zye (G : List (List AV)) (tm : Trie AV) (s : St) (i : Nat) (r : List RV) : resV G tm s (.t i :: r) = v5 (tm.get i) (resV G tm s r) := by
 simp only [resV, v5]; cases tm.get i <;> cases resV G tm s r <;> rfl
theorem PD (G : List (List AV)) (tm : Trie AV) (s : St) (a n : Nat) (r : List RV) : resV G tm s (.cn a n :: r) = v5 (ldnK G s n (tm.get a)) (resV G tm s r) := by
 simp only [resV, v5]
 cases tm.get a with
 | none => cases resV G tm s r <;> rfl
 | some p =>
  simp only [ldnK, vLdn]
  cases xd G s p n with
  | none => cases resV G tm s r <;> rfl
  | some l => cases resV G tm s r <;> rfl
theorem pF (s : St) : yb s [] = some s := rfl
theorem zxr (tm : Trie AV) (i : Nat) : (Opd.t i).ev tm = tm.get i := rfl
theorem zy5 (tm : Trie AV) (v : AV) : (Opd.c v).ev tm = some v := rfl
theorem Pd (tm : Trie AV) : evL tm [] = some [] := rfl
theorem Gr (tm : Trie AV) (x : Opd) (r : List Opd) : evL tm (x :: r) = v5 (x.ev tm) (evL tm r) := rfl
theorem Uo (tm : Trie AV) : evO tm none = some none := rfl
def Lk : Option AV → Option (Option AV)
 | some v => some (some v)
 | none => none
theorem VH (tm : Trie AV) (x : Opd) : evO tm (some x) = Lk (x.ev tm) := by unfold evO Lk; rfl
theorem Wy (v : AV) : Lk (some v) = some (some v) := rfl
theorem Uf (s : St) (v : AV) : ret1 s (some v) = some (v, s) := rfl
def b1 (f : AV → Option (AV × St)) : Option AV → Option (AV × St)
 | some v => f v
 | none => none
def b2 (f : AV → AV → Option (AV × St)) : Option AV → Option AV → Option (AV × St)
 | some v, some w => f v w
 | _, _ => none
def b3 (f : AV → AV → AV → Option (AV × St)) : Option AV → Option AV → Option AV → Option (AV × St)
 | some v, some w, some u => f v w u
 | _, _, _ => none
def k1 (s : St) (f : AV → Option AV) : Option AV → Option (AV × St)
 | some v => ret1 s (f v)
 | none => none
def k2 (s : St) (f : AV → AV → Option AV) : Option AV → Option AV → Option (AV × St)
 | some v, some w => ret1 s (f v w)
 | _, _ => none
def kLL (s : St) (f : List AV → List AV → Option AV) : Option (List AV) → Option (List AV) → Option (AV × St)
 | some v, some w => ret1 s (f v w)
 | _, _ => none
def k3 (s : St) (f : AV → Option AV → Option AV → Option AV) : Option AV → Option (Option AV) → Option (Option AV) → Option (AV × St)
 | some v, some l, some h => ret1 s (f v l h)
 | _, _, _ => none
noncomputable def k4 (tm : Trie AV) (s : St) (x : Opd) (lo hi : Option Opd) (f : AV → Option AV → Option AV → Option AV → Option AV) : Option (Option AV) → Option (AV × St)
 | some m => vs3 tm s x lo hi (fun v l h => f v l h m)
 | none => none
theorem v1_k (tm : Trie AV) (s : St) (x : Opd) (f : AV → Option AV) : v1 tm s x f = k1 s f (x.ev tm) := by unfold v1 k1; cases x.ev tm <;> rfl
theorem v2_k (tm : Trie AV) (s : St) (x y : Opd) (f : AV → AV → Option AV) : v2 tm s x y f = k2 s f (x.ev tm) (y.ev tm) := by unfold v2 k2; cases x.ev tm <;> cases y.ev tm <;> rfl
theorem zzo (s : St) (f : AV → Option AV) (v : AV) : k1 s f (some v) = ret1 s (f v) := rfl
theorem L0 (s : St) (f : AV → AV → Option AV) (v w : AV) : k2 s f (some v) (some w) = ret1 s (f v w) := rfl
theorem o1_k (tm : Trie AV) (x : Opd) (f : AV → Option (AV × St)) : o1 tm x f = b1 f (x.ev tm) := by unfold o1 b1; cases x.ev tm <;> rfl
theorem o2_k (tm : Trie AV) (x y : Opd) (f : AV → AV → Option (AV × St)) : o2 tm x y f = b2 f (x.ev tm) (y.ev tm) := by unfold o2 b2; cases x.ev tm <;> cases y.ev tm <;> rfl
theorem zxs (tm : Trie AV) (s : St) (x : Opd) (lo hi : Option Opd) (f : AV → Option AV → Option AV → Option AV) : vs3 tm s x lo hi f = k3 s f (x.ev tm) (evO tm lo) (evO tm hi) := by unfold vs3 k3; cases x.ev tm <;> cases evO tm lo <;> cases evO tm hi <;> rfl
theorem zy9 (tm : Trie AV) (s : St) (x : Opd) (lo hi mx : Option Opd) (f : AV → Option AV → Option AV → Option AV → Option AV) : vs4 tm s x lo hi mx f = k4 tm s x lo hi f (evO tm mx) := by unfold vs4 k4; cases evO tm mx <;> rfl
theorem zzM (f : AV → Option (AV × St)) (v : AV) : b1 f (some v) = f v := rfl
theorem zzx (f : AV → AV → Option (AV × St)) (v w : AV) : b2 f (some v) (some w) = f v w := rfl
theorem zzg (s : St) (f : AV → Option AV → Option AV → Option AV) (v : AV) (l h : Option AV) : k3 s f (some v) (some l) (some h) = ret1 s (f v l h) := rfl
theorem PI (tm : Trie AV) (s : St) (x : Opd) (lo hi : Option Opd) (f : AV → Option AV → Option AV → Option AV → Option AV) (m : Option AV) : k4 tm s x lo hi f (some m) = vs3 tm s x lo hi (fun v l h => f v l h m) := rfl
theorem U2 (S : Self) (f : Nat) (vs : List AV) (s : St) : evCl S f (some vs) s = S.call f vs s := rfl
theorem zzu (S : Self) (f : Nat) (a c : List AV) (vs : List AV) (s : St) : evCv S (some (.fn f a c)) (some vs) s = S.call f (a ++ vs ++ c) s := rfl
theorem zzp (a b : Option AV) : Zr (some (.bool true)) a b = a := rfl
theorem zzR (a b : Option AV) : Zr (some (.bool false)) a b = b := rfl
theorem Pb (x y z : Bool) : Zr (some (.bool x)) (some (.bool y)) (some (.bool z)) = some (.bool (bif x then y else z)) := by cases x <;> rfl
theorem LM (off id o : Nat) : vFa off (.ptr id o) = some (.ptr id (o + off)) := rfl
theorem zyj (off : Nat) (cs : List AV) : vFa off (.vp cs) = some (.vp (z4 off cs)) := rfl
theorem Gj (i o : Nat) : vNck (.ptr i o) = some (.ptr i o) := rfl
theorem zzc (s : St) (e : Nat) (v : AV) : oBox s e v = some (.ptr s.next 0, s.alloc (.row e v.cells false false)) := rfl
theorem UF (s : St) (e : Nat) (zs : List AV) : uH s e zs = some (.ptr s.next 0, s.alloc (.row e zs false false)) := rfl
theorem Uh (cs : List AV) : (AV.agg cs).cells = cs := rfl
theorem JR (k : IntKind) (n : Int) : (AV.int k n).cells = [.int k n] := rfl
theorem Jo (s : List Nat) : (AV.str s).cells = [.str s] := rfl
theorem WV (b : Bool) : (AV.bool b).cells = [.bool b] := rfl
theorem JL (i o : Nat) : (AV.ptr i o).cells = [.ptr i o] := rfl
theorem GJ (i o n : Nat) (c : Cap) : (AV.sl i o n c).cells = [.sl i o n c] := rfl
theorem Qn : AV.nils.cells = [.nils] := rfl
theorem GU (s : St) (t : List Nat) : vLen s .s (.str t) = some (.int .i64 (.ofNat t.length)) := by rw [← zX]; rfl
theorem U0 (s : St) : vLen s .v .nils = some (.int .i64 (.ofNat 0)) := rfl
theorem Lf (s : St) (n : Nat) (e : Bool) (l : List AV) : vLen s .v (.lst n e l) = some (.int .i64 (.ofNat n)) := rfl
theorem Pi (s : St) (i o n : Nat) (c : Cap) : vLen s .v (.sl i o n c) = some (.int .i64 (.ofNat n)) := rfl
theorem zzI (b : Bool) : vUn .not (.bool b) = some (.bool (!b)) := rfl
theorem Li (op : BinOp) (k k' : IntKind) (a b : Int) : vBin op (.int k a) (.int k' b) = binI op k a k' b := rfl
theorem Hp (op : BinOp) (a b : List Nat) : vBin op (.str a) (.str b) = binS op a b := rfl
def eqD (a b : Int) : Bool := decide (a = b)
def ltD (a b : Int) : Bool := decide (a < b)
theorem GW (k : IntKind) (a b : Int) : binI .eql k a k b = some (.bool (eqD a b)) := by
 have : x9 k k = true := by cases k <;> rfl
 simp only [binI, this, cond_true, vV, eqD]
 by_cases h : a = b <;> simp [h]
theorem GT (k : IntKind) (a b : Int) : binI .neq k a k b = some (.bool (!eqD a b)) := by
 have : x9 k k = true := by cases k <;> rfl
 simp only [binI, this, cond_true, vV, eqD]
 by_cases h : a = b <;> simp [h]
theorem KY (k : IntKind) (a b : Int) : binI .lss k a k b = some (.bool (ltD a b)) := by
 have : x9 k k = true := by cases k <;> rfl
 simp only [binI, this, cond_true, qM, ltD]
theorem Kt (k : IntKind) (a b : Int) : binI .leq k a k b = some (.bool (!ltD b a)) := by
 have : x9 k k = true := by cases k <;> rfl
 simp only [binI, this, cond_true, qM, ltD]
theorem Hf (k : IntKind) (a b : Int) : binI .gtr k a k b = some (.bool (ltD b a)) := by
 have : x9 k k = true := by cases k <;> rfl
 simp only [binI, this, cond_true, qM, ltD]
theorem Ks (k : IntKind) (a b : Int) : binI .geq k a k b = some (.bool (!ltD a b)) := by
 have : x9 k k = true := by cases k <;> rfl
 simp only [binI, this, cond_true, qM, ltD]
theorem LS (a b : Nat) : eqD (.ofNat a) (.ofNat b) = decide (a = b) := by
 unfold eqD; by_cases h : a = b
 ·subst h; simp
 ·simp only [h, decide_false, decide_eq_false_iff_not]; intro e; cases e; exact h rfl
theorem hY (a b : Nat) : ltD (.ofNat a) (.ofNat b) = decide (a < b) := by
 unfold ltD; by_cases h : a < b <;> simp [h]
theorem K8 (a b : Nat) : ltD (.ofNat a) (.negSucc b) = false := by
 have : (Int.negSucc b) < 0 := Int.negSucc_lt_zero b
 have h2 : (0 : Int) ≤ Int.ofNat a := Int.natCast_nonneg a
 unfold ltD; exact decide_eq_false (by omega)
theorem KH (a b : Nat) : ltD (.negSucc a) (.ofNat b) = true := by
 have : (Int.negSucc a) < 0 := Int.negSucc_lt_zero a
 have h2 : (0 : Int) ≤ Int.ofNat b := Int.natCast_nonneg b
 unfold ltD; exact decide_eq_true (by omega)
theorem jP (k : IntKind) {a : Nat} (h : a < topN k) : xD k (.ofNat a) = .ofNat a := by
 show (bif Nat.blt a (topN k) then Int.ofNat a else _) = _
 rw [zN.2 h]; rfl
theorem addI (a b : Nat) : Int.add (.ofNat a) (.ofNat b) = .ofNat (a + b) := rfl
theorem mulI (a b : Nat) : Int.mul (.ofNat a) (.ofNat b) = .ofNat (a * b) := rfl
theorem subI {a b : Nat} (h : b ≤ a) : Int.sub (.ofNat a) (.ofNat b) = .ofNat (a - b) := by
 show (a : Int) - (b : Int) = ((a - b : Nat) : Int)
 omega
theorem Hk (k : IntKind) (a b : Int) : binI .add k a k b = some (.int k (xD k (Int.add a b))) := by
 have : x9 k k = true := by cases k <;> rfl
 simp only [binI, this, cond_true]
theorem GE (k : IntKind) (a b : Int) : binI .sub k a k b = some (.int k (xD k (Int.sub a b))) := by
 have : x9 k k = true := by cases k <;> rfl
 simp only [binI, this, cond_true]
theorem Lr (k : IntKind) (a b : Int) : binI .mul k a k b = some (.int k (xD k (Int.mul a b))) := by
 have : x9 k k = true := by cases k <;> rfl
 simp only [binI, this, cond_true]
theorem zyE {a : Nat} (h : a < 9223372036854775808) : xD .i64 (.ofNat a) = .ofNat a := jP .i64 h
theorem WN {a : Nat} (h : a < 2147483648) : xD .i32 (.ofNat a) = .ofNat a := jP .i32 h
theorem qD {a : Nat} (h : a < 256) : xD .u8 (.ofNat a) = .ofNat a := jP .u8 h
theorem wE {a : Nat} (h : a < 4294967296) : xD .u32 (.ofNat a) = .ofNat a := jP .u32 h
theorem L4 (k k' : IntKind) (a : Int) : vCi k (.int k' a) = some (.int k (xD k a)) := rfl
theorem GF (a b : List Nat) : binS .eql a b = some (.bool (decide (a = b))) := by
 show some (AV.bool (eqS a b)) = _
 rw [ux]; by_cases h : a = b <;> simp [h]
theorem H4 (a b : List Nat) : binS .neq a b = some (.bool (!decide (a = b))) := by
 show some (AV.bool (!eqS a b)) = _
 rw [ux]; by_cases h : a = b <;> simp [h]
theorem G6 {a b : List Nat} (h : a.length + b.length < 9223372036854775808) : binS .add a b = some (.str (a ++ b)) := by
 show (bif Nat.blt (Nat.add (lenN a) (lenN b)) 9223372036854775808 then some (AV.str (a ++ b)) else none) = _
 rw [zX, zX, show Nat.blt (Nat.add a.length b.length) 9223372036854775808 = true from zN.2 h]; rfl
theorem Qc (v : AV) (l : List AV) : v6 (v :: l) = some v := rfl
theorem zzz (vs : List AV) (i : Nat) : vEx (.tup vs) i = v6 (z4 i vs) := rfl
theorem Jb (l : List AV) : aggO (some l) = some (.agg l) := rfl
theorem LT (l : List AV) (off n : Nat) : cut l off n = yh n (z4 off l) := rfl
theorem PX (k : IntKind) (a n : Nat) : idx (.int k (.ofNat a)) n = if a < n then some a else none := by
 show (bif Nat.blt a n then some a else none) = _
 by_cases h : a < n
 ·rw [if_pos h, zN.2 h]; rfl
 ·rw [if_neg h]
  cases hb : Nat.blt a n with
  | true => exact absurd (zN.1 hb) h
  | false => rfl
def vpK (cs : List AV) (esz : Nat) : Option Nat → Option AV
 | some k => some (.vp (z4 (k * esz) cs))
 | none => none
theorem GK (cs : List AV) (esz k : Nat) : vpK cs esz (some k) = some (.vp (z4 (k * esz) cs)) := rfl
theorem PU (esz n : Nat) (e : Bool) (cs : List AV) (i : AV) : vIa esz (.lst n e cs) i = vpK cs esz (idx i n) := by
 simp only [vIa, vpK]; generalize idx i n = x; cases x <;> rfl
theorem QB (b : Nat) : Xo (some b) = some (.int .u8 (.ofNat b)) := rfl
theorem KB (t : List Nat) (k : IntKind) (i : Nat) : vIxs (.str t) (.int k (.ofNat i)) = Xo (getS t i) := rfl
def rowO : Option AObj → Option (List AV)
 | some (.row _ cs _ _) => some cs
 | some (.giv cs) => some cs
 | _ => none
theorem Gu (e : Nat) (cs : List AV) (x fz : Bool) : rowO (some (.row e cs x fz)) = some cs := rfl
def cutO (off n : Nat) : Option (List AV) → Option (List AV)
 | some cs => cut cs off n
 | none => none
theorem V1 (off n : Nat) (cs : List AV) : cutO off n (some cs) = yh n (z4 off cs) := rfl
def HI : Option (List AV) → Option AV
 | some l => v6 l
 | none => none
theorem WC (l : List AV) : HI (some l) = v6 l := rfl
theorem ZV (G : List (List AV)) (s : St) (id off n : Nat) : xd G s (.ptr id off) n = cutO off n (rowO (s.get id)) := by
 unfold xd; simp only
 cases s.get id with
 | none => rfl
 | some o => cases o <;> rfl
theorem XT (G : List (List AV)) (s : St) (cs : List AV) (n : Nat) : xd G s (.vp cs) n = yh n cs := rfl
theorem zzA (G : List (List AV)) (s : St) (id off : Nat) : vLd G s (.ptr id off) = HI (cutO off 1 (rowO (s.get id))) := by
 rw [← ZV G]; unfold vLd; cases xd G s (.ptr id off) 1 <;> rfl
theorem zyY (G : List (List AV)) (s : St) (cs : List AV) : vLd G s (.vp cs) = HI (yh 1 cs) := by
 rw [← XT G s]; unfold vLd; cases xd G s (.vp cs) 1 <;> rfl
theorem LF (G : List (List AV)) (s : St) (n id off : Nat) : vLdn G s n (.ptr id off) = aggO (cutO off n (rowO (s.get id))) := by
 rw [← ZV G]; unfold vLdn; cases xd G s (.ptr id off) n <;> rfl
theorem zzE (G : List (List AV)) (s : St) (n : Nat) (cs : List AV) : vLdn G s n (.vp cs) = aggO (yh n cs) := by
 rw [← XT G s]; unfold vLdn; cases xd G s (.vp cs) n <;> rfl
noncomputable def putO (s : St) (id e : Nat) (x : Bool) : Option (List AV) → Option (AV × St)
 | some cs => some (xb, s.put id (.row e cs x false))
 | none => none
theorem UK (s : St) (id e : Nat) (x : Bool) (cs : List AV) : putO s id e x (some cs) = some (xb, s.put id (.row e cs x false)) := rfl
noncomputable def stO (s : St) (id off n : Nat) (w : AV) : Option AObj → Option (AV × St)
 | some (.row e cs x false) => bif (Nat.beq (lenN w.cells) n && zY w.cells) then putO s id e x (wy cs off w.cells) else none
 | _ => none
theorem PR (s : St) (id off n : Nat) (w : AV) (e : Nat) (cs : List AV) (x : Bool) : stO s id off n w (some (.row e cs x false)) = (bif (Nat.beq (lenN w.cells) n && zY w.cells) then putO s id e x (wy cs off w.cells) else none) := rfl
theorem zzm (s : St) (n id off : Nat) (w : AV) : oSt s n (.ptr id off) w = stO s id off n w (s.get id) := by
 unfold oSt wa; simp only
 cases s.get id with
 | none => cases Nat.beq (lenN w.cells) n <;> rfl
 | some o =>
  cases o <;> first | (cases Nat.beq (lenN w.cells) n <;> rfl) | skip
  rename_i e cs x fz
  cases fz
  ·simp only [stO]
   cases Nat.beq (lenN w.cells) n <;> cases zY w.cells <;> simp only [Bool.false_or, Bool.not_true, Bool.not_false, cond_true, cond_false, Bool.and_true, Bool.and_false, Bool.true_and, Bool.false_and]
   cases wy cs off w.cells <;> rfl
  ·cases Nat.beq (lenN w.cells) n <;> rfl
theorem zz5 (a b : Nat) : Nat.ble a b = decide (a ≤ b) := by
 cases h : Nat.ble a b with
 | true => exact (decide_eq_true (zE.1 h)).symm
 | false => exact (decide_eq_false (fun e => by rw [zE.2 e] at h; cases h)).symm
theorem zy4 (a b : Nat) : Nat.blt a b = decide (a < b) := by
 cases h : Nat.blt a b with
 | true => exact (decide_eq_true (zN.1 h)).symm
 | false => exact (decide_eq_false (fun e => by rw [zN.2 e] at h; cases h)).symm
theorem zxb (a b : Nat) : Nat.beq a b = decide (a = b) := by
 cases h : Nat.beq a b with
 | true => exact (decide_eq_true (zn.1 h)).symm
 | false => exact (decide_eq_false (fun e => by rw [zn.2 e] at h; cases h)).symm
mutual
theorem ZR (n0 : Nat) : ∀ {v : AV}, zy v = true → frz1 n0 v = some v
 | .bool _, _ => rfl
 | .int _ _, _ => rfl
 | .str _, _ => rfl
 | .nilp, _ => rfl
 | .gptr _ _, _ => rfl
 | .sl0, _ => rfl
 | .nils, _ => rfl
 | .nilm, _ => rfl
 | .nilf, _ => rfl
 | .nili, _ => rfl
 | .lst _ _ _, _ => rfl
 | .vp _, _ => rfl
 | .ifc _ v, h => by simp only [frz1, h, cond_true]
 | .fn _ a c, h => by simp only [frz1, h, cond_true]
 | .agg cs, h => by simp only [frz1, h, cond_true]
 | .tup vs, h => by simp only [frz1, h, cond_true]
 | .ptr _ _, h => by simp [zy] at h
 | .sl _ _ _ _, h => by simp [zy] at h
 | .map _, h => by simp [zy] at h
 | .yld _, h => by simp [zy] at h
 | .gr _ _ _ _, h => by simp [zy] at h
end
theorem ZZ (n0 : Nat) : ∀ {l : List AV}, zo l = true → frzL n0 l = some l
 | [], _ => rfl
 | v :: r, h => by
  simp only [zo, Bool.and_eq_true] at h
  simp only [frzL, ZR n0 h.1, ZZ n0 h.2]
theorem ZE (n0 : Nat) {v : AV} (h : zy v = true) : frz2 n0 v = some v := by
 cases v <;> first | exact ZR n0 h | skip
 rename_i cs
 simp only [zy] at h
 simp only [frz2, ZZ n0 h]
theorem ZI (n0 : Nat) : ∀ {l : List AV}, zo l = true → frzT n0 l = some l
 | [], _ => rfl
 | v :: r, h => by
  simp only [zo, Bool.and_eq_true] at h
  simp only [frzT, ZE n0 h.1, ZI n0 h.2]
theorem Ji (n0 : Nat) {v : AV} (h : zy v = true) : frzA n0 v = some v := by
 cases v <;> first | exact ZE n0 h | skip
 rename_i cs
 simp only [zy] at h
 simp only [frzA, ZI n0 h]
def tupO : Option (List AV) → Option AV
 | some l => some (.tup l)
 | none => none
theorem UE (l : List AV) : tupO (some l) = some (.tup l) := rfl
theorem Gl (n0 : Nat) (vs : List AV) : frzA n0 (.tup vs) = tupO (frzT n0 vs) := by simp only [frzA, tupO]; cases frzT n0 vs <;> rfl
theorem GC (n0 : Nat) : frzT n0 [] = some [] := rfl
theorem Jh (n0 : Nat) (v : AV) (r : List AV) : frzT n0 (v :: r) = v5 (frz2 n0 v) (frzT n0 r) := by
 simp only [frzT, v5]; cases frz2 n0 v <;> cases frzT n0 r <;> rfl
theorem Lc (n0 : Nat) : frzL n0 [] = some [] := rfl
theorem UZ (n0 : Nat) (v : AV) (r : List AV) : frzL n0 (v :: r) = v5 (frz1 n0 v) (frzL n0 r) := by
 simp only [frzL, v5]; cases frz1 n0 v <;> cases frzL n0 r <;> rfl
theorem Vu (n0 id e n : Nat) (cs : List AV) : frz1 n0 (.gr id e n cs) = if n0 ≤ id then some (.lst n false cs) else some (.gr id e n cs) := by
 simp only [frz1, zz5]; by_cases h : n0 ≤ id <;> simp [h]
theorem PO (n0 id e n : Nat) (cs : List AV) : frz2 n0 (.gr id e n cs) = if n0 ≤ id then some (.lst n false cs) else some (.gr id e n cs) := Vu n0 id e n cs
theorem zzQ (n0 id e n : Nat) (cs : List AV) : frzA n0 (.gr id e n cs) = if n0 ≤ id then some (.lst n false cs) else some (.gr id e n cs) := Vu n0 id e n cs
theorem Kc (n0 : Nat) (cs : List AV) : frz2 n0 (.agg cs) = aggO (frzL n0 cs) := rfl
theorem WR : zh [] = [] := rfl
theorem YR (b : Nat) (r : List Nat) : zh (b :: r) = .int .u8 (.ofNat b) :: zh r := rfl
theorem ln : ∀ l : List Nat, (zh l).length = l.length
 | [] => rfl
 | b :: r => by simp [zh, ln r]
theorem ue : ∀ (n : Nat) (l : List Nat), z4 n (zh l) = zh (l.drop n)
 | 0, l => rfl
 | n + 1, [] => rfl
 | n + 1, b :: r => by simp only [zh, z4, List.drop_succ_cons]; exact ue n r
theorem kI : ∀ (n : Nat) (l : List Nat), tkN n (zh l) = zh (l.take n)
 | 0, l => by simp [tkN, zh]
 | n + 1, [] => rfl
 | n + 1, b :: r => by simp only [zh, tkN, List.take_succ_cons]; rw [kI n r]
theorem gL : ∀ {n : Nat} {l : List Nat}, n ≤ l.length → yh n (zh l) = some (zh (l.take n))
 | 0, l, _ => by simp [yh, zh]
 | n + 1, [], h => by simp at h
 | n + 1, b :: r, h => by simp only [zh, yh, gL (n := n) (l := r) (by simpa using h), List.take_succ_cons]
theorem vh : ∀ {l : List Nat}, (∀ b ∈ l, b < 256) → xz (zh l) = some l
 | [], _ => rfl
 | b :: r, h => by
  simp only [zh, xz, vh (l := r) (fun x hx => h x (by simp [hx])), zN.2 (h b (by simp)), cond_true]
theorem u6 : ∀ l : List Nat, zY (zh l) = true
 | [] => rfl
 | b :: r => by simp only [zh, zY, scal, cond_true, u6 r]
theorem zym (a b : Nat) : Nat.lor a b = a ||| b := rfl
theorem HL (ρ : Nat → Option Nat) (k : IntKind) (n : Int) : renV ρ (.int k n) = some (.int k n) := by simp only [renV]
theorem Ud (ρ : Nat → Option Nat) (b : Bool) : renV ρ (.bool b) = some (.bool b) := by simp only [renV]
theorem G2 (ρ : Nat → Option Nat) (s : List Nat) : renV ρ (.str s) = some (.str s) := by simp only [renV]
theorem Jr (ρ : Nat → Option Nat) : renV ρ .nils = some .nils := by simp only [renV]
theorem Lu (ρ : Nat → Option Nat) (n : Nat) (e : Bool) (l : List AV) : renV ρ (.lst n e l) = some (.lst n e l) := by simp only [renV]
def jS (f : Nat → AV) : Option Nat → Option AV
 | some j => some (f j)
 | none => none
theorem PC (f : Nat → AV) (j : Nat) : jS f (some j) = some (f j) := rfl
theorem KN (ρ : Nat → Option Nat) (i o : Nat) : renV ρ (.ptr i o) = jS (fun j => .ptr j o) (ρ i) := by simp only [renV]; cases ρ i <;> rfl
theorem Pt (ρ : Nat → Option Nat) (i o n : Nat) (c : Cap) : renV ρ (.sl i o n c) = jS (fun j => .sl j o n c) (ρ i) := by simp only [renV]; cases ρ i <;> rfl
theorem Pv (ρ : Nat → Option Nat) (i e n : Nat) (l : List AV) : renV ρ (.gr i e n l) = jS (fun j => .gr j e n l) (ρ i) := by simp only [renV]; cases ρ i <;> rfl
def fnO (f : Nat) : Option (List AV) → Option (List AV) → Option AV
 | some a, some c => some (.fn f a c)
 | _, _ => none
theorem H3 (f : Nat) (a c : List AV) : fnO f (some a) (some c) = some (.fn f a c) := rfl
theorem L5 (ρ : Nat → Option Nat) (f : Nat) (a c : List AV) : renV ρ (.fn f a c) = fnO f (renC ρ (zo a) a) (renC ρ (zo c) c) := by
 simp only [renV]; cases renC ρ (zo a) a <;> cases renC ρ (zo c) c <;> rfl
theorem zyT (ρ : Nat → Option Nat) (l : List AV) : renC ρ true l = some l := by simp only [renC, cond_true]
theorem zyl (ρ : Nat → Option Nat) (l : List AV) : renC ρ false l = renL ρ l := by simp only [renC, cond_false]
theorem KI (ρ : Nat → Option Nat) : renL ρ [] = some [] := by simp only [renL]
theorem Ut (ρ : Nat → Option Nat) (v : AV) (r : List AV) : renL ρ (v :: r) = v5 (renV ρ v) (renL ρ r) := by simp only [renL, v5]; cases renV ρ v <;> cases renL ρ r <;> rfl
theorem qF (b : Bool) : zy (.bool b) = true := rfl
theorem yJ (k : IntKind) (n : Int) : zy (.int k n) = true := rfl
theorem qr (s : List Nat) : zy (.str s) = true := rfl
theorem Qo : zy .nilp = true := rfl
theorem Qg (g o : Nat) : zy (.gptr g o) = true := rfl
theorem JV : zy .sl0 = true := rfl
theorem jz : zy .nils = true := rfl
theorem Wu : zy .nilm = true := rfl
theorem QC : zy .nilf = true := rfl
theorem Qp : zy .nili = true := rfl
theorem yz (n : Nat) (e : Bool) (l : List AV) : zy (.lst n e l) = true := rfl
theorem Hz (l : List AV) : zy (.vp l) = true := rfl
theorem UV (t : Nat) (v : AV) : zy (.ifc t v) = zy v := rfl
theorem ul (f : Nat) (a c : List AV) : zy (.fn f a c) = (zo a && zo c) := rfl
theorem uT (l : List AV) : zy (.agg l) = zo l := rfl
theorem wz (l : List AV) : zy (.tup l) = zo l := rfl
theorem JA (i o : Nat) : zy (.ptr i o) = false := rfl
theorem G0 (i o n : Nat) (c : Cap) : zy (.sl i o n c) = false := rfl
theorem zJ : zo [] = true := rfl
theorem zD (v : AV) (r : List AV) : zo (v :: r) = (zy v && zo r) := rfl
theorem K5 (n0 : Nat) (k : IntKind) (n : Int) : frz1 n0 (.int k n) = some (.int k n) := rfl
theorem Lq (n0 : Nat) (s : List Nat) : frz1 n0 (.str s) = some (.str s) := rfl
theorem Gi (n0 : Nat) (n : Nat) (e : Bool) (l : List AV) : frz1 n0 (.lst n e l) = some (.lst n e l) := rfl
theorem Lh (n0 : Nat) (k : IntKind) (n : Int) : frz2 n0 (.int k n) = some (.int k n) := rfl
theorem zV {C : Cx} {ib : ICode} {Q : Res → Fr → St → Prop} {α : Type} (m : α → Nat) (fr : α → Fr) (st : α → St) (I : α → Prop)
  (step : ∀ x, I x → Tri C ib (fr x) (st x) (za (fun f t => ∃ y, I y ∧ m y < m x ∧ Gc C f t (fr y) (st y)) Q)) : ∀ x, I x → TriL C ib (fr x) (st x) Q := by
 have key : ∀ n x, m x < n → I x → TriL C ib (fr x) (st x) Q := by
  intro n
  induction n with
  | zero => intro x h; omega
  | succ n ih =>
   intro x hx hI
   refine yI ((step x hI).mono fun r f t => ?_)
   cases r with
   | norm =>
    rintro ⟨y, h1, h2, h3⟩
    exact Vw h3 (ih y (by omega) h1)
   | exit i => exact fun h => h
   | ret => exact fun h => h
 exact fun x hI => key (m x + 1) x (by omega) hI
theorem uX : ∀ l : List Nat, wkL (zh l) = zh l
 | [] => rfl
 | b :: r => by simp only [zh, wkL, wkV, uX r]
theorem vJ : ∀ {a b : List Nat}, zh a = zh b → a = b
 | [], [], _ => rfl
 | [], _ :: _, h => by simp [zh] at h
 | _ :: _, [], h => by simp [zh] at h
 | x :: a, y :: b, h => by
  simp only [zh, List.cons.injEq, AV.int.injEq, true_and] at h
  obtain ⟨h1, h2⟩ := h
  have : x = y := by cases h1; rfl
  rw [this, vJ h2]
structure Is (C : Cx) (E : Env) (O : Orc) (c : St) (M : Nat) : Prop where
 ok : CxOk C
 e : C.E = E
 o : C.O = O
 rd : C.rd = none
 s : C.s = c
 m : C.M = M
section
variable {C : Cx} {E : Env} {O : Orc} {c : St} {M : Nat} {ic : ICode} {fr fr' fr1 : Fr} {s s' s1 : St} {Q : Res → Fr → St → Prop} {res : Res}
theorem Is.eval (k : Is C E O c M) (h : evC E (evW E O) none ic fr s = some (res, fr', s')) (q : Q res fr' s') : Tri C ic fr s Q :=
 KW k.ok (by rw [k.e, k.o, k.rd]; exact h) q
theorem Is.ev (k : Is C E O c M) (h : ∃ r, evC E (evW E O) none ic fr s = some r ∧ Q r.1 r.2.1 r.2.2) : Tri C ic fr s Q := by
 obtain ⟨⟨res, fr', s'⟩, h1, h2⟩ := h
 exact k.eval h1 h2
theorem Is.gcs (k : Is C E O c M) {keep live : List Nat} {md : Bool} (h : gcF false c M keep live md fr s = some (fr1, s1)) : Gc C fr s fr1 s1 :=
 Gt k.ok (wk := false) (keep := keep) (live := live) (md := md) (by rw [k.s, k.m]; exact h)
theorem Is.gc (k : Is C E O c M) (keep live : List Nat) (md : Bool) (h : gcF false c M keep live md fr s = some (fr1, s1)) (t : Tri C ic fr1 s1 Q) : Tri C ic fr s Q := kX (k.gcs h) t
theorem Is.gcL (k : Is C E O c M) (keep live : List Nat) (md : Bool) (h : gcF false c M keep live md fr s = some (fr1, s1)) (t : TriL C ic fr1 s1 Q) : TriL C ic fr s Q := Vw (k.gcs h) t
end
def Cut (C : Cx) (fr1 : Fr) (s1 : St) (Q : Res → Fr → St → Prop) : Res → Fr → St → Prop
 | .norm, f, t => Gc C f t fr1 s1
 | r, f, t => Q r f t
theorem wH {C : Cx} {ia ib : ICode} {fr : Fr} {s : St} {Q : Res → Fr → St → Prop} (fr1 : Fr) (s1 : St) (h1 : Tri C ia fr s (Cut C fr1 s1 Q)) (h2 : Tri C ib fr1 s1 Q) : Tri C (.seq ia ib) fr s Q :=
 ze (h1.mono fun r f t => by
  cases r with
  | norm => exact fun h => kX h h2
  | exit i => exact fun h => h
  | ret => exact fun h => h)
theorem Is.sc {P : Program} {w0 : World} {E : Env} {O : Orc} (hO : OrcOk P w0 O) (hm : P.follows .mixedOrders = true) (hG : zt E.globs w0) (hE : qA P E) {f : Nat} {F : IFunc} {args : List AV} {os : List (Option AObj)} {b : Bool} {v : AV} {c' : St} (M : Nat)
  (hF : E.funs.get f = some F) (hle : args.length ≤ F.ntmps) (hM : ∀ i, M.testBit i = true → ∃ o, getO os i = some o ∧ yO o = false)
  (h : ∀ C : Cx, Is C E O (H os 0 b) M → Tri C F.body { tm := yD (tmL []) 0 args, df := [] } (H os 0 b) (Fin E (H os 0 b) M F.res v c')) : SC P w0 f args (H os 0 b) v c' :=
 WI hO hm hG hE M hF hle rfl rfl rfl (fun i hi => by
  obtain ⟨o, h1, h2⟩ := hM i hi
  exact ⟨kf h1, o, by rw [jn]; exact h1, h2⟩) fun C ok h1 h2 h3 h4 h5 => h C ⟨ok, h1, h2, h3, h4, h5⟩
theorem zd {E : Env} {c : St} {M : Nat} {res : List RV} {v : AV} {c' : St} {r : Res} {fr : Fr} {s s2 : St} {vs : List AV} {v0 : AV} (h0 : r = .norm ∨ r = .ret) (h1 : yb s fr.df = some s2) (h2 : resV E.globs fr.tm s2 res = some vs) (h3 : frzA c.next (yS vs) = some v0) (h4 : wkV v0 = v) (h5 : gcF true c M [] [] c.md { tm := tmL [], df := [] } s2 = some ({ tm := tmL [], df := [] }, c')) : Fin E c M res v c' r fr s :=
 ⟨h0, s2, vs, v0, _, h1, h2, h3, h4.symm, h5⟩
theorem z8 {os : List (Option AObj)} : ∀ i, (0 : Nat).testBit i = true → ∃ o, getO os i = some o ∧ yO o = false := fun i h => by simp at h
theorem zz9 {o : AObj} {os : List (Option AObj)} (hg : yO o = false) : ∀ i, (1 : Nat).testBit i = true → ∃ o', getO (some o :: os) i = some o' ∧ yO o' = false := fun i h => by
 cases i with
 | zero => exact ⟨o, rfl, hg⟩
 | succ i => rw [Nat.testBit_succ] at h; simp at h
def Byt (l : List Nat) : Prop := ∀ x ∈ l, x < 256
theorem Byt.drop {l : List Nat} (h : Byt l) (n : Nat) : Byt (l.drop n) := fun x hx => h x (List.mem_of_mem_drop hx)
theorem Byt.take {l : List Nat} (h : Byt l) (n : Nat) : Byt (l.take n) := fun x hx => h x (List.mem_of_mem_take hx)
theorem Byt.cons {c : Nat} {l : List Nat} (h : Byt (c :: l)) : c < 256 ∧ Byt l := ⟨h c (by simp), fun x hx => h x (by simp [hx])⟩
theorem Jp {b : List Nat} {e : Bool} {k k' : IntKind} {lo hi : Nat} (h1 : lo ≤ hi) (h2 : hi ≤ b.length) : vSlv 1 (.lst b.length e (zh b)) (some (.int k (.ofNat lo))) (some (.int k' (.ofNat hi))) none = some (.lst (hi - lo) (e && Nat.beq hi b.length) (zh ((b.drop lo).take (hi - lo)))) := by
 simp only [vSlv, vSlF, bnd, zE.2 h1, zE.2 h2, cond_true]
 show some (AV.lst (hi - lo) _ (tkN ((hi - lo) * 1) (z4 (lo * 1) (zh b)))) = _
 rw [Nat.mul_one, Nat.mul_one, ue, kI]
theorem YJ {b : List Nat} {e : Bool} {k : IntKind} {lo : Nat} (h1 : lo ≤ b.length) : vSlv 1 (.lst b.length e (zh b)) (some (.int k (.ofNat lo))) none none = some (.lst (b.length - lo) (e && Nat.beq b.length b.length) (zh (b.drop lo))) := by
 simp only [vSlv, vSlF, bnd, zE.2 h1, cond_true]
 show some (AV.lst (b.length - lo) _ (tkN ((b.length - lo) * 1) (z4 (lo * 1) (zh b)))) = _
 rw [Nat.mul_one, Nat.mul_one, ue, kI, List.take_of_length_le (by simp)]
theorem Zo {s : St} {n : Nat} {e : Bool} {l : List Nat} (hn : l.length = n) (hb : Byt l) : vCbs s (.lst n e (zh l)) = some (.str l) := by
 subst hn
 simp only [vCbs, gL (Nat.le_refl _), List.take_length, yQ, vh hb, vStr]
theorem pA (l : List AV) : yQ (some l) = xz l := rfl
theorem zyb {t : List Nat} (h : t.length < 9223372036854775808) (l : List (Nat × Option AObj)) (n m : Nat) (hd : List (Nat × Nat)) (on : Option (Nat × List Nat)) (e : Nat) : oCsb (KL l n m true hd on) e (.str t) = some (.lst t.length false (zh t), KL l n m true hd on) := by
 simp only [oCsb, zX, zN.2 h, cond_true, Xg]
theorem Ul : zY [] = true := rfl
theorem Uk (v : AV) (r : List AV) : zY (v :: r) = (scal v && zY r) := by simp only [zY]; cases scal v <;> rfl
theorem Hn (k : IntKind) (n : Int) : scal (.int k n) = true := by simp only [scal]
theorem KA (s : List Nat) : scal (.str s) = true := by simp only [scal]
theorem JT (b : Bool) : scal (.bool b) = true := by simp only [scal]
theorem G1 (n : Nat) (e : Bool) (l : List AV) : scal (.lst n e l) = true := by simp only [scal]
theorem zze (i e n : Nat) (l : List AV) : scal (.gr i e n l) = true := by simp only [scal]
theorem JJ : scal .nils = true := by simp only [scal]
theorem HD (i o : Nat) : scal (.ptr i o) = true := by simp only [scal]
theorem Ls (i : Nat) : scal (.map i) = true := by simp only [scal]
theorem Pa {a b : Nat} (h : a < b) : decide (a < b) = true := decide_eq_true h
theorem zzT {a b : Nat} (h : b ≤ a) : decide (a < b) = false := decide_eq_false (by omega)
theorem Pw {a b : Nat} (h : a ≠ b) : decide (a = b) = false := decide_eq_false h
theorem Hj (k : IntKind) {a n : Nat} (h : a < n) : idx (.int k (.ofNat a)) n = some a := by rw [PX, if_pos h]
theorem kP {l : List AV} {n : Nat} (h : l.length = n) : yh n l = some l := by
 subst h
 induction l with
 | nil => rfl
 | cons v r ih => simp only [List.length_cons, yh, ih]
theorem lU (n : Nat) (e : Bool) (cs : List AV) : qy (.lst n e cs) = some n := rfl
theorem li (l : List Nat) : qy (.str l) = some l.length := by rw [← zX]; rfl
theorem UM (l : List (Nat × Option AObj)) (n m : Nat) (hd : List (Nat × Nat)) (on : Option (Nat × List Nat)) (t esz bytes : Nat) (e : Bool) (cs : List AV) (hl : cs.length = esz) (h1 : 1 ≤ esz) (hb : 2 * bytes ≤ 281474976710656) (hp : zo cs = true) :
  appV (KL l n m true hd on) t esz bytes .nils (.lst 1 e cs) = some (.gr n esz 1 cs, KL ((n, some (.app t cs)) :: l) (n + 1) m true hd on) := by
 have h2 : yh (Nat.mul 1 esz) cs = some cs := kP (by rw [hl]; show esz = 1 * esz; omega)
 simp only [appV, lU, xg, h2, appW, Xg, hp, Bool.and_self, cond_true, uh]
 rw [show Nat.ble (Nat.mul (Nat.mul 2 1) bytes) 281474976710656 = true from zE.2 (by show 2 * 1 * bytes ≤ _; omega), show Nat.ble 1 esz = true from zE.2 h1]
 rfl
theorem zzk (l : List (Nat × Option AObj)) (n m : Nat) (b : Bool) (t esz bytes id k : Nat) (e : Bool) (old cs : List AV) (hg : getA l id = some (.app t old)) (hl : cs.length = esz) (h1 : 1 ≤ esz) (hb : 2 * (k + 1) * bytes ≤ 281474976710656) (hk : k < 1000000000) (hp : zo old = true) (hp2 : zo cs = true) (hs : zY cs = true) :
  appV (KL l n m b [] none) t esz bytes (.gr id esz k old) (.lst 1 e cs) = some (.gr n esz (k + 1) (old ++ cs), KL ((n, some (.app t (old ++ cs))) :: (id, none) :: l) (n + 1) (m ||| 1 <<< id) b [] none) := by
 have h2 : yh (Nat.mul 1 esz) cs = some cs := kP (by rw [hl]; show esz = 1 * esz; omega)
 have h3 : zo (old ++ cs) = true := by rw [wI, hp, hp2]; rfl
 simp only [appV, lU, xg, h2, appW, x3, hg, zn.2, hs, Bool.and_self, cond_true, uh, h3]
 rw [show Nat.ble (Nat.mul (Nat.mul 2 (Nat.add k 1)) bytes) 281474976710656 = true from zE.2 hb, show Nat.ble 1 esz = true from zE.2 h1, show Nat.blt (Nat.add k 1) 9223372036854775808 = true from zN.2 (by show k + 1 < _; omega)]
 rfl
theorem zzG (l : List (Nat × Option AObj)) (n m : Nat) (hd : List (Nat × Nat)) (on : Option (Nat × List Nat)) (e len : Nat) (cs : List AV) (hp : zo cs = true) : oBsl (KL l n m true hd on) e len (some cs) = some (.lst len true cs, KL l n m true hd on) := by
 simp only [oBsl, Xg, hp, Bool.and_self, cond_true]
noncomputable def KJ (zs : List AV) (off n : Nat) (tm : Trie AV) (r : List (Nat × Nat × Opd)) : Option AV → Option (List AV)
 | some v => bif Nat.beq (lenN v.cells) n && Nat.ble 1 n then (match wy zs off v.cells with
   | some zs' => wL zs' tm r
   | none => none) else none
 | none => none
theorem UX (zs : List AV) (tm : Trie AV) : wL zs tm [] = some zs := rfl
theorem WP (zs : List AV) (tm : Trie AV) (off n : Nat) (x : Opd) (r : List (Nat × Nat × Opd)) : wL zs tm ((off, n, x) :: r) = KJ zs off n tm r (x.ev tm) := by
 simp only [wL, KJ]; cases x.ev tm <;> rfl
theorem Qr (zs : List AV) (off n : Nat) (tm : Trie AV) (r : List (Nat × Nat × Opd)) (v : AV) : KJ zs off n tm r (some v) = bif Nat.beq (lenN v.cells) n && Nat.ble 1 n then (match wy zs off v.cells with
   | some zs' => wL zs' tm r
   | none => none) else none := rfl
theorem YZ {P : Program} {w0 : World} {E : Env} {O : Orc} (hO : OrcOk P w0 O) (hm : P.follows .mixedOrders = true) (hG : zt E.globs w0) (hE : qA P E) {n f : Nat} {args : List AV} {v : AV} (h : okV v ((evT E O n).call f args s0) = true) : ∃ s1, SC P w0 f args (s00 0 false) v s1 := by
 obtain ⟨s1, hs⟩ := HS h
 have := (lz hO.ext hm hG hE hO.ok n).call hs
 exact ⟨s1, this.1, fun φ w xs r hwf hf hx F k hF => this.2 r hwf hf hx F k hF⟩
section
variable {P : Program} {w0 : World} {f : Nat} {α : Type}
theorem SC.args {args args' : List AV} {s s' : St} {v : AV} (h : SC P w0 f args' s v s') (hw : ∀ φ xs, VRL φ args xs → VRL φ args' xs) : SC P w0 f args s v s' :=
 ⟨h.1, fun φ w xs r hwf hf hx F n hF => h.2 φ w xs r hwf hf (hw φ xs hx) F n hF⟩
open Classical in
noncomputable def orc0 (enc : α → List AV) (Pre : α → Prop) (F : α → AV) (args : List AV) (s : St) : Option (AV × St) :=
 if h : ∃ x, enc x = wkL args ∧ Pre x then some (F (Classical.choose h), s) else none
theorem zT {enc : α → List AV} {Pre : α → Prop} {F : α → AV} (inj : ∀ x y, enc x = enc y → x = y) {args : List AV} (s : St) (x : α) (hp : Pre x) (ha : wkL args = enc x) : orc0 enc Pre F args s = some (F x, s) := by
 have h : ∃ x, enc x = wkL args ∧ Pre x := ⟨x, ha.symm, hp⟩
 unfold orc0
 rw [dif_pos h]
 have := Classical.choose_spec h
 rw [inj _ x (this.1.trans ha)]
theorem yP {enc : α → List AV} {Pre : α → Prop} {F : α → AV} (args : List AV) (s : St) (v : AV) (s' : St) (h : orc0 enc Pre F args s = some (v, s')) : Ext s s' := by
 unfold orc0 at h
 split at h
 ·cases h; exact Ext.refl _
 ·cases h
theorem qO {enc : α → List AV} {Pre : α → Prop} {F : α → AV} (b : Bool) (hp1 : ∀ x, zo (enc x) = true) (hp2 : ∀ x, zy (F x) = true) (h : ∀ x, Pre x → ∃ s1, SC P w0 f (enc x) (s00 0 b) (F x) s1) : xI P w0 f (orc0 enc Pre F) := by
 intro args s v s' hg
 unfold orc0 at hg
 split at hg
 ·rename_i hx
  cases hg
  obtain ⟨h1, h2⟩ := Classical.choose_spec hx
  obtain ⟨s1, hs⟩ := h _ h2
  refine SC.args (SC.up hs (hp1 _) (hp2 _) s) fun φ xs hv => ?_
  rw [h1]; exact x2 hv
 ·cases hg
open Classical in
end
def xf {α : Type} (f : α → List AV) : List α → List AV
 | [] => []
 | x :: r => f x ++ xf f r
section
variable {α : Type} {f : α → List AV} {k : Nat}
theorem x1 : ∀ l m : List α, xf f (l ++ m) = xf f l ++ xf f m
 | [], _ => rfl
 | x :: r, m => by simp only [List.cons_append, xf, x1 r m, List.append_assoc]
theorem uM (x : α) : xf f [x] = f x := by simp only [xf, List.append_nil]
theorem v3 (h : ∀ x, (f x).length = k) : ∀ (i : Nat) (l : List α), z4 (i * k) (xf f l) = xf f (l.drop i)
 | 0, l => by rw [xB]; simp
 | i + 1, [] => by rw [xB]; simp [xf]
 | i + 1, x :: r => by
  rw [xB]
  simp only [xf, List.drop_succ_cons]
  rw [← v3 h i r, xB, Nat.succ_mul, Nat.add_comm, ← List.drop_drop]
  congr 1
  rw [← h x]; simp
theorem JE {a b : List AV} {n : Nat} (h : a.length = n) : yh n (a ++ b) = some a := by
 subst h
 induction a with
 | nil => rfl
 | cons v r ih => simp only [List.cons_append, List.length_cons, yh, ih]
theorem wP (h : ∀ x, zo (f x) = true) : ∀ l : List α, zo (xf f l) = true
 | [] => rfl
 | x :: r => by simp only [xf, wI, h, wP h r, Bool.and_self]
theorem pg (h : ∀ x, wkL (f x) = f x) : ∀ l : List α, wkL (xf f l) = xf f l
 | [] => rfl
 | x :: r => by
  have ap : ∀ a b : List AV, wkL (a ++ b) = wkL a ++ wkL b := fun a b => by
   induction a with
   | nil => rfl
   | cons v a ih => simp only [List.cons_append, wkL, ih]
  simp only [xf, ap, h, pg h r]
end
inductive DT where
 | mk (k n : Int) (t : List Nat) (ks : List DT) (p : Int)
mutual
def zF : DT → List AV
 | .mk k n t ks p => [.int .i64 k, .int .i64 n, .str t, .lst ks.length false (zl ks), .int .i64 p]
def zl : List DT → List AV
 | [] => []
 | d :: r => zF d ++ zl r
end
def encD (d : DT) : AV := .agg (zF d)
theorem zb (k n : Int) (t : List Nat) (ks : List DT) (p : Int) : zF (.mk k n t ks p) = [.int .i64 k, .int .i64 n, .str t, .lst ks.length false (zl ks), .int .i64 p] := by simp only [zF]
theorem xx : zl [] = [] := by simp only [zl]
theorem zM (d : DT) (r : List DT) : zl (d :: r) = zF d ++ zl r := by simp only [zl]
theorem wF : ∀ l : List DT, zl l = xf zF l
 | [] => by simp only [zl, xf]
 | d :: r => by simp only [zl, xf, wF r]
theorem wN : ∀ d : DT, (zF d).length = 5
 | .mk _ _ _ _ _ => by simp only [zF, List.length_cons, List.length_nil]
theorem y9 : ∀ d : DT, zo (zF d) = true
 | .mk _ _ _ _ _ => by simp only [zF, zD, zJ, yJ, qr, yz, Bool.and_self]
theorem yG (l : List DT) : zo (zl l) = true := by rw [wF]; exact wP y9 l
mutual
theorem x0 : ∀ d : DT, wkL (zF d) = zF d
 | .mk k n t ks p => by simp only [zF, wkL, wkV, xH ks]
theorem xH : ∀ l : List DT, wkL (zl l) = zl l
 | [] => by simp only [zl, wkL]
 | d :: r => by
  have ap : ∀ a b : List AV, wkL (a ++ b) = wkL a ++ wkL b := fun a b => by
   induction a with
   | nil => rfl
   | cons v a ih => simp only [List.cons_append, wkL, ih]
  simp only [zl, ap, x0 d, xH r]
end
mutual
theorem l9 : ∀ {d e : DT}, zF d = zF e → d = e
 | .mk k n t ks p, .mk k' n' t' ks' p', h => by
  simp only [zF, List.cons.injEq, AV.int.injEq, AV.str.injEq, AV.lst.injEq, true_and, and_true] at h
  obtain ⟨rfl, rfl, rfl, ⟨_, h1⟩, rfl⟩ := h
  rw [wp h1]
theorem wp : ∀ {l m : List DT}, zl l = zl m → l = m
 | [], [], _ => rfl
 | [], d :: m, h => by
  have := congrArg List.length h; simp only [zl, List.length_nil, List.length_append, wN] at this; omega
 | d :: l, [], h => by
  have := congrArg List.length h; simp only [zl, List.length_nil, List.length_append, wN] at this; omega
 | d :: l, e :: m, h => by
  simp only [zl] at h
  obtain ⟨h1, h2⟩ := List.append_inj h (by rw [wN, wN])
  rw [l9 h1, wp h2]
end
theorem yu (i : Nat) (l : List DT) : z4 (i * 5) (zl l) = zl (l.drop i) := by rw [wF, wF]; exact v3 wN i l
theorem jb (l m : List DT) : zl (l ++ m) = zl l ++ zl m := by simp only [wF]; exact x1 l m
theorem vq {d e : DT} (h : encD d = encD e) : d = e := l9 (by simpa [encD] using h)
structure Tok where
 kind : Nat
 pos : Nat
 d : DT
attribute [go_sem] kp zyN XD wA JZ WZ WJ H_eq Pe zxc Xg x3 Vj GN Ht Wj zzw Ll P4 zzd LV PV zza Po L6 He X2 Y4 XY Z5 Qy Hr zzK KF VG Jm Lo P9 Ph H2 Ku YE pE Wd X9 Yr Xr Yc Lw Ux GQ Jy J7 KZ Qk Gb HK V2 JX Jf KE JH Hb Jk UB VU WA V5 U4 G9 Py Gx LU Pr UC Qx Gz QD Kz PW GX PM Gy GY La Pz zzF Lg H1 KV Hi Kr Km Hl Pj zzf Kw K6 Pu Pm PK G8 Kp Hh Hq GM V4 zzS Qd Wm Qi UL zzy LO Xu WY X1 HH PJ LJ PL LC VY G7 zzb HR J3 Jx VZ Xk YC PZ UG Wz WU WB We JM Le zye PD pF zxr zy5 Pd Gr Uo VH Wy Uf v1_k v2_k zzo L0 o1_k o2_k zxs zy9 zzM zzx zzg PI U2 zzu zzp zzR Pb LM zyj Gj zzc UF Uh JR Jo WV JL GJ Qn GU U0 Lf Pi zzI Li Hp GW GT KY Kt Hf Ks LS hY K8 KH addI mulI subI Hk GE Lr zyE WN qD wE L4 GF H4 G6 Qc zzz Jb GK PU QB KB Gu V1 WC zzA zyY LF zzE UK PR zzm zz5 zy4 zxb UE Gl GC Jh Lc UZ PO zzQ Kc WR YR LY Qz U3 lenN yh z4 wy over UX WP Qr zY scal hid memN cond_true cond_false Bool.not_true Bool.not_false Bool.true_and Bool.false_and Bool.and_true Bool.and_false Bool.true_or Bool.false_or Bool.or_true Bool.or_false beq_true Bool.not_not beq_self_eq_true decide_true decide_false Nat.add_zero Nat.zero_add Nat.mul_one Nat.one_mul Nat.zero_mul Nat.mul_zero Nat.sub_zero Nat.succ_eq_add_one Nat.le_refl Nat.lt_irrefl Nat.zero_le gt_iff_lt ge_iff_le ne_eq not_false_eq_true not_true_eq_false eq_self List.nil_append List.cons_append List.length_cons List.length_nil YW and_self and_true true_and Option.some.injEq gcF gcTm gcDf gcB gcB1 gcK KN Pt Pv L5 zyT zyl KI Ut PC H3 renO rho pN kV qF yJ qr jz yz ul uT wz JA G0 zJ zD qb wkO Ji List.append_nil wI zym HL Ud G2 Jr Lu K5 Lq Gi Lh wkV wkL uX Jp YJ Zo zyb UM zzk zzG Pa zzT Pw Hj List.cons.injEq List.take_succ_cons List.take_zero false_and and_false
def sxP := And.intro (And.intro (And.intro (And.intro (And.intro @qF @yJ) (And.intro @qr @Qo)) (And.intro (And.intro @Qg @JV) (And.intro @jz @Wu))) (And.intro (And.intro (And.intro @QC @Qp) (And.intro @yz @Hz)) (And.intro (And.intro @UV @ul) (And.intro @uT @wz)))) (And.intro (And.intro (And.intro (And.intro @zJ @zD) (And.intro @qb @wI)) (And.intro (And.intro @Uk @Ul) (And.intro @Hn @KA))) (And.intro (And.intro (And.intro @JT @G1) (And.intro @zze @JJ)) (And.intro (And.intro @HD @Ls) (And.intro @wA @XD))))
theorem dis {p : Prop} (h : p := by first | assumption | omega | rfl | (simp only [sxP, Bool.and_self, List.length_cons, List.length_nil, List.length_take, List.length_drop, ↓reduceIte, Nat.reduceEqDiff]; first | done | omega) | exact Nat.le_of_ble_eq_true rfl | ((repeat (first | assumption | apply Byt.drop | apply Byt.take)); done) | fail) : p := h
attribute [go_sem] Ko Kg Kn Kd Ke Kf Ki
open Go.RowKit (Below)
section
variable {φ φ1 : Phi} {ρ : Nat → Option Nat}
mutual
theorem Zb (h : RenOk φ φ1 ρ) : ∀ {v v1 : AV} {x : Value}, renV ρ v = some v1 → VR φ1 v1 x → VR φ v x
 | .ptr id off, v1, x, hr, hv => by
  simp only [renV] at hr
  split at hr
  ·rename_i j hj; cases hr; simp only [VR] at hv ⊢; rw [← h.m id j hj]; exact hv
  ·cases hr
 | .sl id off len c, v1, x, hr, hv => by
  simp only [renV] at hr
  split at hr
  ·rename_i j hj; cases hr; simp only [VR] at hv ⊢; rw [← h.m id j hj]; exact hv
  ·cases hr
 | .map id, v1, x, hr, hv => by
  simp only [renV] at hr
  split at hr
  ·rename_i j hj; cases hr; simp only [VR] at hv ⊢; rw [← h.m id j hj]; exact hv
  ·cases hr
 | .yld id, v1, x, hr, hv => by
  simp only [renV] at hr
  split at hr
  ·rename_i j hj; cases hr; simp only [VR] at hv ⊢; rw [← h.m id j hj]; exact hv
  ·cases hr
 | .gr id e n cs, v1, x, hr, hv => by
  simp only [renV] at hr
  split at hr
  ·rename_i j hj
   cases hr; simp only [VR] at hv ⊢; rw [← h.m id j hj]
   obtain ⟨h1, h2, h3, h4, B, ys, h5, h6, h7, h8, h9⟩ := hv
   exact ⟨h1, h2, h3, h4, B, ys, h5, h6, h7, h8.mono (fun _ _ _ t => by rw [← h.z]; exact t), VRL.pure (fun _ _ _ t => by rw [← h.z]; exact t) _ _ h1 h9⟩
  ·cases hr
 | .fn f a c, v1, x, hr, hv => by
  simp only [renV] at hr
  split at hr
  ·rename_i a' c' ha hc
   cases hr; simp only [VR] at hv ⊢
   obtain ⟨xs, ys, e, h1, h2⟩ := hv
   exact ⟨xs, ys, e, qv h ha h1, qv h hc h2⟩
  ·cases hr
 | .ifc t v, v1, x, hr, hv => by
  simp only [renV] at hr
  split at hr
  ·rename_i v' hv'
   cases hr; simp only [VR] at hv ⊢
   obtain ⟨y, e, h1⟩ := hv
   exact ⟨y, e, Zb h hv' h1⟩
  ·cases hr
 | .agg cs, v1, x, hr, hv => by
  simp only [renV] at hr
  split at hr
  ·rename_i c' hc
   cases hr; simp only [VR] at hv ⊢
   obtain ⟨xs, e, h1⟩ := hv
   exact ⟨xs, e, qv h hc h1⟩
  ·cases hr
 | .tup cs, v1, x, hr, hv => by
  simp only [renV] at hr
  split at hr
  ·rename_i c' hc
   cases hr; simp only [VR] at hv ⊢
   obtain ⟨xs, e, h1⟩ := hv
   exact ⟨xs, e, qv h hc h1⟩
  ·cases hr
 | .bool _, v1, x, hr, hv => by simp only [renV, Option.some.injEq] at hr; subst hr; simpa [VR] using hv
 | .int _ _, v1, x, hr, hv => by simp only [renV, Option.some.injEq] at hr; subst hr; simpa [VR] using hv
 | .str _, v1, x, hr, hv => by simp only [renV, Option.some.injEq] at hr; subst hr; simpa [VR] using hv
 | .nilp, v1, x, hr, hv => by simp only [renV, Option.some.injEq] at hr; subst hr; simpa [VR] using hv
 | .gptr _ _, v1, x, hr, hv => by simp only [renV, Option.some.injEq] at hr; subst hr; simpa [VR] using hv
 | .sl0, v1, x, hr, hv => by simp only [renV, Option.some.injEq] at hr; subst hr; simpa [VR] using hv
 | .nils, v1, x, hr, hv => by simp only [renV, Option.some.injEq] at hr; subst hr; simpa [VR] using hv
 | .nilm, v1, x, hr, hv => by simp only [renV, Option.some.injEq] at hr; subst hr; simpa [VR] using hv
 | .nilf, v1, x, hr, hv => by simp only [renV, Option.some.injEq] at hr; subst hr; simpa [VR] using hv
 | .nili, v1, x, hr, hv => by simp only [renV, Option.some.injEq] at hr; subst hr; simpa [VR] using hv
 | .lst n ex cs, v1, x, hr, hv => by
  simp only [renV, Option.some.injEq] at hr; subst hr
  exact VR.pure (fun _ _ _ t => by rw [← h.z]; exact t) _ _ rfl hv
 | .vp cs, v1, x, hr, hv => by
  simp only [renV, Option.some.injEq] at hr; subst hr
  exact VR.pure (fun _ _ _ t => by rw [← h.z]; exact t) _ _ rfl hv
theorem qv (h : RenOk φ φ1 ρ) : ∀ {l l1 : List AV} {xs : List Value}, renC ρ (zo l) l = some l1 → VRL φ1 l1 xs → VRL φ l xs := fun {l l1 xs} hr hv => by
  unfold renC at hr
  cases hp : zo l with
  | true =>
   rw [hp] at hr; simp only [cond_true, Option.some.injEq] at hr; subst hr
   exact VRL.pure (fun _ _ _ t => by rw [← h.z]; exact t) _ _ hp hv
  | false => rw [hp] at hr; simp only [cond_false] at hr; exact ky h hr hv
theorem ky (h : RenOk φ φ1 ρ) : ∀ {l l1 : List AV} {xs : List Value}, renL ρ l = some l1 → VRL φ1 l1 xs → VRL φ l xs
 | [], l1, xs, hr, hv => by simp only [renL, Option.some.injEq] at hr; subst hr; simpa [VRL] using hv
 | v :: r, l1, xs, hr, hv => by
  simp only [renL] at hr
  split at hr
  ·rename_i v' r' h1 h2
   cases hr
   simp only [VRL] at hv
   obtain ⟨y, ys, rfl, h3, h4⟩ := hv
   exact VRL.cons (Zb h h1 h3) (ky h h2 h4)
  ·cases hr
end
theorem Xs {ρ : Nat → Option Nat} {o o1 : AObj} (h : renO ρ o = some o1) : Zc o1 = Zc o ∧ (∀ B z, SepOf o1 B z → SepOf o B z) := by
 cases o <;> simp only [renO] at h
 case row e cells x fz =>
  split at h
  ·cases h; exact ⟨rfl, fun _ _ t => t⟩
  ·cases h
 case map es clock =>
  cases hp : gv es <;> rw [hp] at h <;> simp at h
  subst h; exact ⟨rfl, fun _ _ t => t⟩
 case siter => cases h; exact ⟨rfl, fun _ _ t => t⟩
 case miter m since seen stepped =>
  cases m with
  | none => cases h; exact ⟨rfl, fun _ _ t => t⟩
  | some id =>
   simp only at h
   split at h
   ·cases h; exact ⟨rfl, fun _ _ t => t⟩
   ·cases h
 case loop => cases h
 case dfd => cases h; exact ⟨rfl, fun _ _ t => t⟩
 case dfd0 => cases h; exact ⟨rfl, fun _ _ t => t⟩
 case giv cells =>
  split at h
  ·cases h; exact ⟨rfl, fun _ _ t => t⟩
  ·cases h
 case app e cells =>
  cases hp : zo cells <;> rw [hp] at h <;> simp at h
  subst h; exact ⟨rfl, fun _ _ t => t⟩
theorem JN {P : Program} (h : RenOk φ φ1 ρ) {w : World} {o o1 : AObj} {B : Blk} (hr : renO ρ o = some o1) (t : ObjRel P φ1 w o1 B) : ObjRel P φ w o B := by
 have hz : ∀ b o v, φ1.z b o = some v → φ.z b o = some v := fun _ _ _ t => by rw [← h.z]; exact t
 cases o <;> simp only [renO] at hr
 case row e cells x fz =>
  split at hr
  ·rename_i cs hc
   cases hr
   have hl := j1 hc
   simp only [ObjRel] at t ⊢
   obtain ⟨c, fr, h1, h2, h3, h4, h5, h6⟩ := t
   rw [hl] at h3 h4 h5
   exact ⟨c, fr, h1, h2, h3, h4, qv h hc h5, h6⟩
  ·cases hr
 case map es clock =>
  cases hp : gv es <;> rw [hp] at hr <;> simp at hr
  subst hr
  obtain ⟨ents, h1, h2⟩ := t
  exact ⟨ents, h1, h2.pure hz hp⟩
 case siter => cases hr; exact t
 case miter m since seen stepped =>
  cases m with
  | none => cases hr; exact t
  | some id =>
   simp only at hr
   split at hr
   ·rename_i j hj
    cases hr
    simp only [ObjRel] at t ⊢
    obtain ⟨h0, m', h1, B', hB, e⟩ := t
    exact ⟨h0, m', h1, B', (h.m id j hj).symm.trans hB, e⟩
   ·cases hr
 case loop => cases hr
 case dfd => cases hr; exact t
 case dfd0 => cases hr; exact t
 case giv cells =>
  split at hr
  ·rename_i cs hc
   cases hr
   have hl := j1 hc
   simp only [ObjRel] at t ⊢
   obtain ⟨c, e, fr, h1, h2, h3⟩ := t
   rw [hl] at h2 h3
   exact ⟨c, e, fr, h1, h2, qv h hc h3⟩
  ·cases hr
 case app e cells =>
  cases hp : zo cells <;> rw [hp] at hr <;> simp at hr
  subst hr
  obtain ⟨c, fr, h1, h2, h3, h4, h5⟩ := t
  exact ⟨c, fr, h1, h2, h3, VRL.pure hz _ _ hp h4, h5⟩
end
def iot (ids : List Nat) (i : Nat) : Option Nat := ids[i]?
def iot' (ids : List Nat) (n k : Nat) (i : Nat) : Option Nat := if i < ids.length then ids[i]? else if i < k then some (n + (i - ids.length)) else none
structure Emb (s s' : St) (ids : List Nat) (os : List (Option AObj)) (M : Nat) : Prop where
 ext : Ext s s'
 len : ids.length ≤ os.length
 next : s'.next = s.next + (os.length - ids.length)
 old : ∀ id, id < s.next → (∀ i, ids[i]? = some id → M.testBit i = false) → ∀ o, s'.get id = some o ↔ s.get id = some o
 own : ∀ i id, ids[i]? = some id → M.testBit i = true → ∀ o1, s'.get id = some o1 → ∃ o, getO os i = some o ∧ renO (iot' ids s.next os.length) o = some o1
 new : ∀ j, ids.length ≤ j → j < os.length → ∀ o1, s'.get (s.next + (j - ids.length)) = some o1 → ∃ o, getO os j = some o ∧ renO (iot' ids s.next os.length) o = some o1
 bit : ∀ i id, ids[i]? = some id → M.testBit i = true → s'.wm.testBit id = true
theorem SC.emb {P : Program} {w0 : World} {f : Nat} {args args' : List AV} {v v' : AV} {os os' : List (Option AObj)} {b b' : Bool} {M : Nat} {s s' : St} {ids : List Nat} (h : SC P w0 f args (H os 0 b) v (H os' M b'))
  (hl : ids.length = os.length) (hnd : ids.Nodup) (hos : ∀ i id, ids[i]? = some id → ∃ o o1, getO os i = some o ∧ renO (iot ids) o = some o1 ∧ s.get id = some o1)
  (ha : renL (iot ids) args = some args') (hv : renV (iot' ids s.next os'.length) v = some v') (he : Emb s s' ids os' M) : SC P w0 f args' s v' s' := by
 refine ⟨h.1, fun φ w xs rl hwf hf hx F k hF => ?_⟩
 obtain ⟨φc, hφc⟩ : ∃ φc : Phi, φc = ⟨fun i => match ids[i]? with | some k => φ k | none => none, φ.z⟩ := ⟨_, rfl⟩
 have pc : ∀ i id, ids[i]? = some id → φc i = φ id := fun i id hi => by rw [hφc]; show (match ids[i]? with | some k => φ k | none => none) = _; rw [hi]
 have pn : ∀ i, ids[i]? = none → φc i = none := fun i hi => by rw [hφc]; show (match ids[i]? with | some k => φ k | none => none) = _; rw [hi]
 have pz : φc.z = φ.z := by rw [hφc]
 have hren : RenOk φc φ (iot ids) := ⟨fun i id hi => (pc i id hi).symm, pz.symm⟩
 have idlt : ∀ i id, ids[i]? = some id → id < s.next := fun i id hi => by
  obtain ⟨o, o1, _, _, hg⟩ := hos i id hi
  exact hwf.lt id o1 (zv hg)
 have src0 : ∀ i o, (H os 0 b).get i = some o → ∃ id o1, ids[i]? = some id ∧ renO (iot ids) o = some o1 ∧ s.get id = some o1 := fun i o ho => by
  rw [Vp] at ho
  have hlt := kf ho
  have hi : ids[i]? = some (ids[i]'(by omega)) := List.getElem?_eq_getElem (by omega)
  obtain ⟨o', o1, q1, q2, q3⟩ := hos i _ hi
  rw [ho] at q1; cases q1
  exact ⟨_, o1, hi, q2, q3⟩
 have r0 : Rel P w0 φc (H os 0 b).get w := by
  refine ⟨rl.base, fun i o ho => ?_, fun i B hB => ?_, fun i o B ho hB hlt => ?_, fun i j o o' B1 B2 h1 h2 q1 q2 q3 => ?_, fun b' i u hu => ?_, fun i o B ho hB => ?_⟩
  ·obtain ⟨id, o1, h1, h2, h3⟩ := src0 i o ho
   obtain ⟨B, hB, t⟩ := rl.obj id o1 h3
   exact ⟨B, (pc i id h1).trans hB, JN hren h2 t⟩
  ·cases hi : ids[i]? with
   | none => rw [pn i hi] at hB; cases hB
   | some id => rw [pc i id hi] at hB; exact rl.rng id B hB
  ·obtain ⟨id, o1, h1, h2, h3⟩ := src0 i o ho
   rw [← (wT h2).1]; exact rl.old id o1 B h3 (by rw [← pc i id h1]; exact hB) hlt
  ·obtain ⟨id, o1, g1, _, g3⟩ := src0 i o h1
   obtain ⟨id', o1', g1', _, g3'⟩ := src0 j o' h2
   rcases rl.inj id id' o1 o1' B1 B2 g3 g3' (by rw [← pc i id g1]; exact q1) (by rw [← pc j id' g1']; exact q2) q3 with e | e
   ·subst e; exact .inl (gf hnd g1 g1')
   ·exact .inr e
  ·rw [pz] at hu; exact rl.frz b' i u hu
  ·obtain ⟨id, o1, h1, h2, h3⟩ := src0 i o ho
   rw [pz]; exact (Xs h2).2 B _ (rl.sep id o1 B h3 (by rw [← pc i id h1]; exact hB))
 have hf0 : ∀ i, os.length ≤ i → φc i = none := fun i hi => pn i (List.getElem?_eq_none (by omega))
 have hcall := h.2 φc w xs r0 (H_wf _ _ _) (fun i hi => hf0 i hi) (ky hren ha hx) F k hF
 refine CallsIn.mono hcall ?_
 rintro e1 w1 ⟨φ1, x, rfl, k1, k2⟩
 obtain ⟨φ', hφ'⟩ : ∃ φ' : Phi, φ' = ⟨fun id => if id < s.next then φ id else if id < s'.next then φ1 (ids.length + (id - s.next)) else none, φ1.z⟩ := ⟨_, rfl⟩
 have d1 : ∀ id, id < s.next → φ' id = φ id := fun id hid => by rw [hφ']; exact if_pos hid
 have d2 : ∀ id, s.next ≤ id → id < s'.next → φ' id = φ1 (ids.length + (id - s.next)) := fun id h1 h2 => by rw [hφ']; show (if id < s.next then φ id else _) = _; rw [if_neg (by omega), if_pos h2]
 have d3 : ∀ id, s'.next ≤ id → φ' id = none := fun id h1 => by
  have := he.next
  rw [hφ']; show (if id < s.next then φ id else _) = _; rw [if_neg (by omega), if_neg (by omega)]
 have dz : φ'.z = φ1.z := by rw [hφ']
 have sm : ∀ i id, ids[i]? = some id → φ1 i = φ id := fun i id hi => by
  have hlt : i < os.length := by
   have := (List.getElem?_eq_some_iff.1 hi).1; omega
  exact (k1.same i (.inl hlt)).trans (pc i id hi)
 have hn := he.next
 have hln := he.len
 have ren1 : RenOk φ1 φ' (iot' ids s.next os'.length) := ⟨fun i id hi => by
  unfold iot' at hi
  by_cases h1 : i < ids.length
  ·rw [if_pos h1] at hi
   rw [d1 id (idlt i id hi), sm i id hi]
  ·rw [if_neg h1] at hi
   by_cases h2 : i < os'.length
   ·rw [if_pos h2] at hi; cases hi
    rw [d2 _ (by omega) (by omega)]
    congr 1; omega
   ·rw [if_neg h2] at hi; exact absurd hi (by simp), dz⟩
 have hfrm : ∀ b', b' < w.heap.size → (∀ i id B, ids[i]? = some id → M.testBit i = true → φ id = some B → B.b ≠ b') → w1.heap[b']? = w.heap[b']? := fun b' hb' hq => k1.frame b' hb' fun i o B ho hB hbe => by
  obtain ⟨id, o1, g1, _, _⟩ := src0 i o ho
  cases hM : M.testBit i with
  | false => exact hM
  | true => exact absurd hbe (hq i id B g1 hM (by rw [← pc i id g1]; exact hB))
 have hz : ∀ b' i u, φ1.z b' i = some u → φ.z b' i = some u ∨ w.heap.size ≤ b' ∨ ∃ j id o B, ids[j]? = some id ∧ s.get id = some o ∧ φ id = some B ∧ B.b = b' ∧ M.testBit j = true := fun b' i u hu => by
  rcases k1.zown b' i u hu with h1 | h1 | ⟨j, o0, B0, q1, q2, q3, q4⟩
  ·rw [pz] at h1; exact .inl h1
  ·exact .inr (.inl h1)
  ·obtain ⟨id, o1, g1, _, g3⟩ := src0 j o0 q1
   exact .inr (.inr ⟨j, id, o1, B0, g1, g3, by rw [← pc j id g1]; exact q2, q3, q4⟩)
 have hzs : ∀ b' i u, φ.z b' i = some u → φ1.z b' i = some u := fun b' i u hu => k1.zsub b' i u (by rw [pz]; exact hu)
 have apart : ∀ id o B, s.get id = some o → φ id = some B → (∀ i, ids[i]? = some id → M.testBit i = false) → ∀ i id' B', ids[i]? = some id' → M.testBit i = true → φ id' = some B' → B'.b ≠ B.b := fun id o B hg hB hq i id' B' hi hM hB' heq => by
  obtain ⟨o', o1, g1, g2, g3⟩ := hos i id' hi
  rcases rl.inj id' id o1 o B' B g3 hg hB' hB heq with e | e
  ·subst e; rw [hq i hi] at hM; cases hM
  ·have hgv := rl.old id' o1 B' g3 hB' e
   rw [(wT g2).1] at hgv
   have h9 := k1.ext.giv i o' (by show i < os.length; exact kf g1) (by rw [jn]; exact g1) hgv hM
   have : (0 : Nat).testBit i = true := h9
   simp at this
 have hsub : Sub φ φ' := ⟨fun id B hB => by
  have hlt : id < s.next := by
   apply Nat.lt_of_not_le; intro hle; rw [hf id hle] at hB; cases hB
  rw [d1 id hlt]; exact hB, fun b' i u hu => by rw [dz]; exact hzs b' i u hu⟩
 have hwf' := he.ext.wf hwf
 have src : ∀ id o, s'.get id = some o → (id < s.next ∧ s.get id = some o ∧ (∀ i, ids[i]? = some id → M.testBit i = false)) ∨ (∃ j o0, getO os' j = some o0 ∧ renO (iot' ids s.next os'.length) o0 = some o ∧ φ' id = φ1 j ∧ ((id < s.next ∧ ids[j]? = some id ∧ M.testBit j = true) ∨ (s.next ≤ id ∧ ids.length ≤ j ∧ id = s.next + (j - ids.length)))) := fun id o ho => by
  by_cases hid : id < s.next
  ·by_cases hex : ∃ i, ids[i]? = some id ∧ M.testBit i = true
   ·obtain ⟨i, h1, h2⟩ := hex
    obtain ⟨o0, g1, g2⟩ := he.own i id h1 h2 o ho
    exact .inr ⟨i, o0, g1, g2, by rw [d1 id hid, sm i id h1], .inl ⟨hid, h1, h2⟩⟩
   ·have hq : ∀ i, ids[i]? = some id → M.testBit i = false := fun i hi => by
     cases hM : M.testBit i with
     | false => rfl
     | true => exact absurd ⟨i, hi, hM⟩ hex
    exact .inl ⟨hid, (he.old id hid hq o).1 ho, hq⟩
  ·have hlt := hwf'.lt id o (zv ho)
   have e1 : id = s.next + ((ids.length + (id - s.next)) - ids.length) := by omega
   obtain ⟨o0, g1, g2⟩ := he.new (ids.length + (id - s.next)) (by omega) (by omega) o (by rw [← e1]; exact ho)
   exact .inr ⟨_, o0, g1, g2, d2 id (by omega) hlt, .inr ⟨by omega, by omega, e1⟩⟩
 have zsame : ∀ id o B, s.get id = some o → φ id = some B → (∀ i, ids[i]? = some id → M.testBit i = false) → ∀ i, φ'.z B.b i = φ.z B.b i := fun id o B hg hB hq i => by
  rw [dz]
  cases h1 : φ1.z B.b i with
  | none =>
   cases h2 : φ.z B.b i with
   | none => rfl
   | some u => rw [hzs _ _ _ h2] at h1; cases h1
  | some u =>
   rcases hz _ _ _ h1 with h2 | h2 | ⟨j, id', o', B', g1, g2, g3, g4, g5⟩
   ·exact h2.symm
   ·have := rl.rng id B hB; omega
   ·exact absurd g4 (apart id o B hg hB hq j id' B' g1 g5 g3)
 have gc' : ∀ j o0, getO os' j = some o0 → (H os' M b').get j = some o0 := fun j o0 hj => by rw [Vp]; exact hj
 have mix : ∀ i (oi : AObj) Bi j (oj : AObj) Bj c, (i < s.next ∧ s.get i = some oi ∧ ∀ k, ids[k]? = some i → M.testBit k = false) → φ' i = some Bi → φ' j = φ1 c → ((j < s.next ∧ ids[c]? = some j ∧ M.testBit c = true) ∨ (s.next ≤ j ∧ ids.length ≤ c ∧ j = s.next + (c - ids.length))) → φ' j = some Bj → Bi.b = Bj.b → False := by
  rintro i oi Bi j oj Bj c ⟨h1, h2, h3⟩ hBi g3 g4 hBj heq
  rw [d1 i h1] at hBi
  rw [g3] at hBj
  rcases g4 with ⟨g5, g6, g7⟩ | ⟨g5, g6, g7⟩
  ·rw [sm c j g6] at hBj
   exact apart i oi Bi h2 hBi h3 c j Bj g6 g7 hBj heq.symm
  ·have hc2 : c < (H os' M b').next := by
    apply Nat.lt_of_not_le; intro hle
    have : φ1 c = none := (k1.same c (.inr hle)).trans (hf0 c (by have : os'.length ≤ c := hle; omega))
    rw [this] at hBj; cases hBj
   rcases k1.own c Bj (by show os.length ≤ c; omega) hc2 hBj with e | ⟨m, o0, B0, q1, q2, q3, q4⟩
   ·have := rl.rng i Bi hBi; omega
   ·obtain ⟨id', o1, f1, _, f3⟩ := src0 m o0 q1
    exact apart i oi Bi h2 hBi h3 m id' B0 f1 q4 (by rw [← pc m id' f1]; exact q2) (q3.trans heq.symm)
 refine ⟨φ', x, rfl, ⟨he.ext, ⟨k1.rel.base, ?_, ?_, ?_, ?_, ?_, ?_⟩, ?_, k1.size, ?_, ?_, ?_, ?_⟩, vZ ren1 hv k2⟩
 ·intro id o ho
  rcases src id o ho with ⟨h1, h2, h3⟩ | ⟨j, o0, h1, h2, h3, _⟩
  ·obtain ⟨B, hB, t⟩ := rl.obj id o h2
   exact ⟨B, (d1 id h1).trans hB, t.keep hsub (hfrm _ (rl.rng id B hB) fun i id' B' q1 q2 q3 => apart id o B h2 hB h3 i id' B' q1 q2 q3)⟩
  ·obtain ⟨B, hB, t⟩ := k1.rel.obj j o0 (gc' j o0 h1)
   exact ⟨B, h3.trans hB, jh ren1 h2 t⟩
 ·intro id B hB
  by_cases h1 : id < s.next
  ·rw [d1 id h1] at hB; have := rl.rng id B hB; have := k1.size; omega
  ·by_cases h2 : id < s'.next
   ·rw [d2 id (by omega) h2] at hB; exact k1.rel.rng _ B hB
   ·rw [d3 id (by omega)] at hB; cases hB
 ·intro id o B ho hB hlt
  rcases src id o ho with ⟨h1, h2, h3⟩ | ⟨j, o0, h1, h2, h3, _⟩
  ·exact rl.old id o B h2 (by rw [← d1 id h1]; exact hB) hlt
  ·rw [(wT h2).1]; exact k1.rel.old j o0 B (gc' j o0 h1) (by rw [← h3]; exact hB) hlt
 ·intro i j oi oj Bi Bj hi hj hBi hBj heq
  rcases src i oi hi with ⟨h1, h2, h3⟩ | ⟨a, o0, h1, h2, h3, h4⟩ <;> rcases src j oj hj with ⟨g1, g2, g3⟩ | ⟨c, o0', g1, g2, g3, g4⟩
  ·exact rl.inj i j oi oj Bi Bj h2 g2 (by rw [← d1 i h1]; exact hBi) (by rw [← d1 j g1]; exact hBj) heq
  ·exact (mix i oi Bi j oj Bj c ⟨h1, h2, h3⟩ hBi g3 g4 hBj heq).elim
  ·exact (mix j oj Bj i oi Bi a ⟨g1, g2, g3⟩ hBj h3 h4 hBi heq.symm).elim
  ·rcases k1.rel.inj a c o0 o0' Bi Bj (gc' a o0 h1) (gc' c o0' g1) (by rw [← h3]; exact hBi) (by rw [← g3]; exact hBj) heq with e | e
   ·subst e
    left
    rcases h4 with ⟨q1, q2, _⟩ | ⟨q1, q2, q3⟩ <;> rcases g4 with ⟨r1, r2, _⟩ | ⟨r1, r2, r3⟩
    ·rw [q2] at r2; cases r2; rfl
    ·have := (List.getElem?_eq_some_iff.1 q2).1; omega
    ·have := (List.getElem?_eq_some_iff.1 r2).1; omega
    ·omega
   ·exact .inr e
 ·intro b' i u hu
  rw [dz] at hu; exact k1.rel.frz b' i u hu
 ·intro id o B ho hB
  rcases src id o ho with ⟨h1, h2, h3⟩ | ⟨j, o0, h1, h2, h3, _⟩
  ·have hB' : φ id = some B := by rw [← d1 id h1]; exact hB
   exact (rl.sep id o B h2 hB').congr (zsame id o B h2 hB' h3)
  ·rw [dz]; exact (wT h2).2 B _ (k1.rel.sep j o0 B (gc' j o0 h1) (by rw [← h3]; exact hB))
 ·intro id hid
  rcases hid with hid | hid
  ·exact d1 id hid
  ·rw [d3 id hid]; exact (hf id (by have := he.ext.next; omega)).symm
 ·intro b' hb' hq
  refine hfrm b' hb' fun i id B q1 q2 q3 q4 => ?_
  obtain ⟨o, o1, _, _, g3⟩ := hos i id q1
  have h9 := hq id o1 B g3 q3 q4
  rw [he.bit i id q1 q2] at h9; cases h9
 ·intro id B h1 h2 hB
  rw [d2 id h1 h2] at hB
  rcases k1.own (ids.length + (id - s.next)) B (by show os.length ≤ _; omega) (by show _ < os'.length; omega) hB with h3 | ⟨j, o0, B0, q1, q2, q3, q4⟩
  ·exact .inl h3
  ·obtain ⟨id', o1, g1, _, g3⟩ := src0 j o0 q1
   exact .inr ⟨id', o1, B0, g3, by rw [← pc j id' g1]; exact q2, q3, he.bit j id' g1 q4⟩
 ·intro b' i u hu; rw [dz]; exact hzs b' i u hu
 ·intro b' i u hu
  rw [dz] at hu
  rcases hz b' i u hu with h1 | h1 | ⟨j, id, o, B, g1, g2, g3, g4, g5⟩
  ·exact .inl h1
  ·exact .inr (.inl h1)
  ·exact .inr (.inr ⟨id, o, B, g2, g3, g4, he.bit j id g1 g5⟩)
open Go.RowKit (Below)
def FinK (E : Env) (c : St) (M : Nat) (keep : List Nat) (res : List RV) (v : AV) (c' : St) (r : Res) (fr : Fr) (s : St) : Prop :=
 (r = .norm ∨ r = .ret) ∧ ∃ s2 vs v0 fr1, yb s fr.df = some s2 ∧ resV E.globs fr.tm s2 res = some vs ∧ frzA c.next (yS vs) = some v0 ∧ v = wkV v0 ∧ gcF true c M keep [] c.md { tm := .leaf, df := [] } s2 = some (fr1, c')
theorem Xc {P : Program} {w0 : World} {E : Env} {O : Orc} (hO : OrcOk P w0 O) (hm : P.follows .mixedOrders = true) (hG : zt E.globs w0) (hE : qA P E) {f : Nat} {F : IFunc} {args : List AV} {c : St} {v : AV} {c' : St} (M : Nat)
  (hF : E.funs.get f = some F) (hle : args.length ≤ F.ntmps) (hh : c.hide = []) (ho : c.only = none) (hw : c.wm = 0) (hM : ∀ i, M.testBit i = true → i < c.next ∧ ∃ o, c.objs.get i = some o ∧ yO o = false)
  (H : ∀ C : Cx, CxOk C → C.E = E → C.O = O → C.rd = none → C.s = c → C.M = M → Tri C F.body { tm := yD .leaf 0 args, df := [] } c (fun r fr s => ∃ keep, FinK E c M keep F.res v c' r fr s)) : SC P w0 f args c v c' := by
 obtain ⟨fn, hfn, hcf⟩ := hE f F hF
 unfold Wa at hcf
 split at hcf
 ·cases hcf
 ·rename_i cd hbody
  split at hcf
  ·rename_i ib rs hb hrs
   cases hnm : (fn.name != "runtime.NumGoroutine") with
   | false => rw [hnm] at hcf; simp at hcf
   | true =>
    rw [hnm] at hcf; simp only [cond_true, Option.some.injEq] at hcf; subst hcf
    have hnm' : (fn.name == "runtime.NumGoroutine") = false := by simpa [bne] using hnm
    refine ⟨⟨fn, hfn, by rw [hbody]; rfl, hnm'⟩, ?_⟩
    intro φ w xs r hwf hf hx Fe n hFe
    have ok : CxOk ⟨P, w0, E, O, fn.ntmps, none, φ, c, w, M⟩ :=
     ⟨hO, hm, hG, hE, r, hwf, hf, hh, ho, fun i hi => by rw [show (⟨P, w0, E, O, fn.ntmps, none, φ, c, w, M⟩ : Cx).s.wm = 0 from hw] at hi; simp at hi, hM⟩
    have hat : At ⟨P, w0, E, O, fn.ntmps, none, φ, c, w, M⟩ φ c w := ⟨Step.refl r, hf⟩
    have hxl : xs.length ≤ fn.ntmps := by rw [← VRL.length hx]; exact hle
    have hfr : FrRel φ fn.ntmps { tm := yD .leaf 0 args, df := [] } { tmps := xs.toArray ++ Array.replicate (fn.ntmps - xs.toArray.size) undef, defers := [] } :=
     ⟨ub hx _, by simp; omega, rfl⟩
    have hFp : Wide Fe.plain := ⟨hFe.fn, hFe.depth⟩
    have ht := H _ ok rfl rfl rfl rfl rfl
    have key : CallsIn Fe.plain n P f xs.toArray w (RetQ P w0 φ c w v c') := by
     refine callsIn_of_wp_marks hfn hbody (hFe.fn f) (wpIn_mono (ht cd hb φ w _ hat hfr Fe.plain n hFp (fun _ => rfl)) ?_)
     rintro e a' w' ⟨res, fr', s1, φ1, rfl, k1, k2, keep, hor, s2, vs, v0, fr1, q1, q2, q3, hvv, q4⟩
     have hleave : LeavesInM Fe.plain n P fn a'.tmps (RetQ P w0 φ c w v c') a'.defers .returning w' := by
      refine Zg ok q1 k2.df k1 fun w2 k3 => ?_
      have hre : resE E.globs fr'.tm s2 rs = some (yS vs, s2) := by unfold resE; rw [q2]
      have hrel : Rel P w0 φ1 s2.get w2 := k3.st.rel
      obtain ⟨_, x, k4, k5⟩ := vd hG hrel k2.tm hrs hre
      obtain ⟨φ2, g1, _, gz⟩ := kR ok (fr := { tm := .leaf, df := [] }) q4 k3 (a := { tmps := a'.tmps, defers := [] }) ⟨fun i v hv => by simp [Trie.get] at hv, k2.size, rfl⟩
      refine ⟨x, k4, φ2, x, rfl, g1.st, ?_⟩
      refine hvv ▸ u1 (jg (φ := φ1) (φ2 := φ2) (fun b o u hu => by rw [gz]; exact hu) (fun id hid => ?_) q3 k5)
      exact (g1.st.same id (.inl hid)).trans (k3.st.same id (.inl hid)).symm
     rcases hor with rfl | rfl
     ·exact hleave
     ·exact hleave
    exact key
  ·cases hcf
theorem Is.scK {P : Program} {w0 : World} {E : Env} {O : Orc} (hO : OrcOk P w0 O) (hm : P.follows .mixedOrders = true) (hG : zt E.globs w0) (hE : qA P E) {f : Nat} {F : IFunc} {args : List AV} {os : List (Option AObj)} {b : Bool} {v : AV} {c' : St} (M : Nat)
  (hF : E.funs.get f = some F) (hle : args.length ≤ F.ntmps) (hM : ∀ i, M.testBit i = true → ∃ o, getO os i = some o ∧ yO o = false)
  (h : ∀ C : Cx, Is C E O (H os 0 b) M → Tri C F.body { tm := yD (tmL []) 0 args, df := [] } (H os 0 b) (fun r fr s => ∃ keep, FinK E (H os 0 b) M keep F.res v c' r fr s)) : SC P w0 f args (H os 0 b) v c' :=
 Xc hO hm hG hE M hF hle rfl rfl rfl (fun i hi => by
  obtain ⟨o, h1, h2⟩ := hM i hi
  exact ⟨kf h1, o, by rw [jn]; exact h1, h2⟩) fun C ok h1 h2 h3 h4 h5 => h C ⟨ok, h1, h2, h3, h4, h5⟩
theorem zP {E : Env} {c : St} {M : Nat} {res : List RV} {v : AV} {c' : St} {r : Res} {fr : Fr} {s s2 : St} {vs : List AV} {v0 : AV} (keep : List Nat) (h0 : r = .norm ∨ r = .ret) (h1 : yb s fr.df = some s2) (h2 : resV E.globs fr.tm s2 res = some vs) (h3 : frzA c.next (yS vs) = some v0) (h4 : wkV v0 = v) (h5 : gcF true c M keep [] c.md { tm := tmL [], df := [] } s2 = some ({ tm := tmL [], df := [] }, c')) : ∃ keep, FinK E c M keep res v c' r fr s :=
 ⟨keep, h0, s2, vs, v0, _, h1, h2, h3, h4.symm, h5⟩
mutual
theorem ZA (ρ : Nat → Option Nat) : ∀ {v : AV}, zy v = true → renV ρ v = some v
 | .ifc t v, h => by simp only [zy] at h; simp only [renV, ZA ρ h]
 | .fn f a c, h => by
  simp only [zy, Bool.and_eq_true] at h
  simp only [renV, renC, h.1, h.2, cond_true]
 | .agg cs, h => by simp only [zy] at h; simp only [renV, renC, h, cond_true]
 | .tup cs, h => by simp only [zy] at h; simp only [renV, renC, h, cond_true]
 | .ptr _ _, h | .sl _ _ _ _, h | .map _, h | .yld _, h | .gr _ _ _ _, h => by simp [zy] at h
 | .bool _, _ | .int _ _, _ | .str _, _ | .nilp, _ | .gptr _ _, _ | .sl0, _ | .nils, _ | .nilm, _ | .nilf, _ | .nili, _ | .lst _ _ _, _ | .vp .., _ => by simp only [renV]
end
theorem kY (ρ : Nat → Option Nat) : ∀ {l : List AV}, zo l = true → renL ρ l = some l
 | [], _ => by simp only [renL]
 | v :: r, h => by
  simp only [zD, Bool.and_eq_true] at h
  simp only [renL, ZA ρ h.1, kY ρ h.2]
def wrow (tw id j n : Nat) (disp : Bool) : AObj := .row tw [.ptr id 0, .sl j 0 n (.opn 1), .bool disp] false false
def brow (tb : Nat) (out : List Nat) : AObj := .row tb (zh out) true false
noncomputable def newW (tw tb : Nat) (s : St) (id j : Nat) (out : List Nat) (disp : Bool) : St := ((s.put id (wrow tw id s.next out.length disp)).del j).alloc (brow tb out)
structure IsW {α : Type} (tw tb : Nat) (enc : α → List AV) (Pre : α → List Nat → Bool → Prop) (args : List AV) (s : St) (id j : Nat) (x : α) (out : List Nat) (disp : Bool) : Prop where
 a : ∃ r, args = .ptr id 0 :: r ∧ enc x = wkL r
 ne : id ≠ j
 hi : id < s.next
 hj : j < s.next
 w : s.get id = some (wrow tw id j out.length disp)
 b : s.get j = some (brow tb out)
 p : Pre x out disp
open Classical in
noncomputable def orcW {α : Type} (tw tb : Nat) (enc : α → List AV) (Pre : α → List Nat → Bool → Prop) (F : α → Bool → List Nat) (args : List AV) (s : St) : Option (AV × St) :=
 if h : ∃ q : Nat × Nat × α × List Nat × Bool, IsW tw tb enc Pre args s q.1 q.2.1 q.2.2.1 q.2.2.2.1 q.2.2.2.2 then
  some (.tup [], newW tw tb s (Classical.choose h).1 (Classical.choose h).2.1 ((Classical.choose h).2.2.2.1 ++ F (Classical.choose h).2.2.1 (Classical.choose h).2.2.2.2) (Classical.choose h).2.2.2.2)
 else none
section
variable {α : Type} {tw tb : Nat} {enc : α → List AV} {Pre : α → List Nat → Bool → Prop} {F : α → Bool → List Nat}
theorem IsW.uniq (inj : ∀ x y, enc x = enc y → x = y) {args : List AV} {s : St} {id j id' j' : Nat} {x x' : α} {out out' : List Nat} {disp disp' : Bool} (h : IsW tw tb enc Pre args s id j x out disp) (h' : IsW tw tb enc Pre args s id' j' x' out' disp') : id' = id ∧ j' = j ∧ x' = x ∧ out' = out ∧ disp' = disp := by
 obtain ⟨r, ha, he⟩ := h.a
 obtain ⟨r', ha', he'⟩ := h'.a
 rw [ha] at ha'
 simp only [List.cons.injEq, AV.ptr.injEq, and_true] at ha'
 obtain ⟨rfl, rfl⟩ := ha'
 have hw := h.w.symm.trans h'.w
 simp only [wrow, Option.some.injEq, AObj.row.injEq, List.cons.injEq, AV.sl.injEq, AV.bool.injEq, and_true, true_and] at hw
 obtain ⟨⟨rfl, _⟩, rfl⟩ := hw
 have hb := h.b.symm.trans h'.b
 simp only [brow, Option.some.injEq, AObj.row.injEq, and_true, true_and] at hb
 exact ⟨rfl, rfl, inj _ _ (he'.trans he.symm), (vJ hb).symm, rfl⟩
theorem P6 (inj : ∀ x y, enc x = enc y → x = y) {args : List AV} {s : St} {id j : Nat} {x : α} {out : List Nat} {disp : Bool} (h : IsW tw tb enc Pre args s id j x out disp) : orcW tw tb enc Pre F args s = some (.tup [], newW tw tb s id j (out ++ F x disp) disp) := by
 have hx : ∃ q : Nat × Nat × α × List Nat × Bool, IsW tw tb enc Pre args s q.1 q.2.1 q.2.2.1 q.2.2.2.1 q.2.2.2.2 := ⟨(id, j, x, out, disp), h⟩
 unfold orcW
 rw [dif_pos hx]
 obtain ⟨e1, e2, e3, e4, e5⟩ := h.uniq inj (Classical.choose_spec hx)
 rw [e1, e2, e3, e4, e5]
theorem WT {s : St} {id j : Nat} {o o' : AObj} (hne : id ≠ j) (h : s.get j = some o) : (s.put id o').get j = some o := by
 rw [yX, z7 (s := s) (s' := s.put id o') rfl rfl, zO h, if_pos rfl]
 exact (Trie.get_set_ne _ _ (Ne.symm hne)).trans (zv h)
theorem lH {s : St} {id j : Nat} {out out' : List Nat} {disp : Bool} (hne : id ≠ j) (hw : s.get id = some (wrow tw id j out.length disp)) (hb : s.get j = some (brow tb out)) : Ext s (newW tw tb s id j out' disp) :=
 ((xQ hw).trans (pp (WT hne hb))).trans (wu _ _)
theorem uq {s : St} {id j : Nat} {out' : List Nat} {disp : Bool} (i : Nat) : (newW tw tb s id j out' disp).get i = if seen s i then (if i = s.next then some (brow tb out') else if i = j then none else if i = id then some (wrow tw id s.next out'.length disp) else s.objs.get i) else none := by
 rw [yX, z7 (s := s) (s' := newW tw tb s id j out' disp) rfl rfl]
 congr 1
 show (((s.objs.set id _).del j).set s.next _).get i = _
 rw [Trie.get_set, Trie.get_del, Trie.get_set]
theorem lE {ρ : Nat → Option Nat} {tw id j n a b : Nat} {disp : Bool} (h1 : ρ id = some a) (h2 : ρ j = some b) : renO ρ (wrow tw id j n disp) = some (wrow tw a b n disp) := by
 have hp : zo [AV.ptr id 0, .sl j 0 n (.opn 1), .bool disp] = false := rfl
 simp only [renO, wrow, hp, renC, cond_false, renL, renV, h1, h2]
theorem lX {ρ : Nat → Option Nat} {tb : Nat} {out : List Nat} : renO ρ (brow tb out) = some (brow tb out) := by
 simp only [renO, brow, renC, qb, cond_true]
theorem vo (args : List AV) (s : St) (v : AV) (s' : St) (h : orcW tw tb enc Pre F args s = some (v, s')) : Ext s s' := by
 unfold orcW at h
 split at h
 ·rename_i hx
  cases h
  have hs := Classical.choose_spec hx
  exact lH hs.ne hs.w hs.b
 ·cases h
theorem Yb {P : Program} {w0 : World} {f : Nat} {b : Bool} (hpure : ∀ x, zo (enc x) = true) (h : ∀ x out disp, Pre x out disp → SC P w0 f (.ptr 0 0 :: enc x) (H [some (wrow tw 0 1 out.length disp), some (brow tb out)] 0 b) (.tup []) (H [some (wrow tw 0 2 (out ++ F x disp).length disp), none, some (brow tb (out ++ F x disp))] 3 b)) : xI P w0 f (orcW tw tb enc Pre F) := by
 intro args s v s' hg
 unfold orcW at hg
 split at hg
 ·rename_i hx
  simp only [Option.some.injEq, Prod.mk.injEq] at hg
  obtain ⟨rfl, rfl⟩ := hg
  have hs := Classical.choose_spec hx
  revert hs
  generalize Classical.choose hx = q
  obtain ⟨id, j, x, out, disp⟩ := q
  simp only
  intro hs
  obtain ⟨r, rfl, he⟩ := hs.a
  have g0 : iot [id, j] 0 = some id := rfl
  have g1 : iot [id, j] 1 = some j := rfl
  have k0 : iot' [id, j] s.next 3 0 = some id := rfl
  have k2 : iot' [id, j] s.next 3 2 = some s.next := rfl
  refine SC.args (args' := .ptr id 0 :: enc x) (SC.emb (h x out disp hs.p) (ids := [id, j]) rfl (by simp [hs.ne]) (fun i k hk => ?_) (by simp only [renL, renV, g0, kY _ (hpure x)]) (by simp only [renV, renC, zJ, cond_true]) ?_) fun φ xs hv => ?_
  ·match i, hk with
   | 0, hk => cases hk; exact ⟨_, _, rfl, lE g0 g1, hs.w⟩
   | 1, hk => cases hk; exact ⟨_, _, rfl, lX, hs.b⟩
   | i + 2, hk => simp at hk
  ·refine ⟨lH hs.ne hs.w hs.b, by simp, rfl, fun i hi hn o => ?_, fun i k hk hM o1 ho => ?_, fun i h1 h2 o1 ho => ?_, fun i k hk hM => ?_⟩
   ·have n1 : i ≠ s.next := by omega
    have n2 : i ≠ j := fun e => absurd (hn 1 (by rw [e]; rfl)) (by decide)
    have n3 : i ≠ id := fun e => absurd (hn 0 (by rw [e]; rfl)) (by decide)
    rw [uq, if_neg n1, if_neg n2, if_neg n3, ← yX]
   ·match i, hk with
    | 0, hk =>
     cases hk
     rw [uq, zO hs.w, if_pos rfl, if_neg (by have := hs.hi; omega), if_neg hs.ne, if_pos rfl] at ho
     cases ho
     exact ⟨_, rfl, lE k0 k2⟩
    | 1, hk =>
     cases hk
     rw [uq, zO hs.b, if_pos rfl, if_neg (by have := hs.hj; omega), if_pos rfl] at ho
     cases ho
    | i + 2, hk => simp at hk
   ·simp only [List.length_cons, List.length_nil] at h1 h2
    have : i = 2 := by omega
    subst this
    rw [uq] at ho
    simp only [List.length_cons, List.length_nil] at ho
    split at ho
    ·rw [if_pos (by omega)] at ho
     cases ho
     exact ⟨_, rfl, lX⟩
    ·cases ho
   ·match i, hk with
    | 0, hk =>
     cases hk
     show (mark (mark s.wm id) j).testBit id = true
     simp only [mark]
     show ((s.wm ||| 1 <<< id) ||| 1 <<< j).testBit id = true
     simp [Nat.testBit_or, Nat.testBit_shiftLeft]
    | 1, hk =>
     cases hk
     show ((s.wm ||| 1 <<< id) ||| 1 <<< j).testBit j = true
     simp [Nat.testBit_or, Nat.testBit_shiftLeft]
    | i + 2, hk => simp at hk
  ·simp only [VRL] at hv ⊢
   obtain ⟨y, ys, rfl, q1, q2⟩ := hv
   exact ⟨y, ys, rfl, q1, by rw [he]; exact x2 q2⟩
 ·cases hg
theorem HF {E : Env} {O : Orc} {f : Nat} (hO : O f = some (orcW tw tb enc Pre F)) (inj : ∀ x y, enc x = enc y → x = y) (x : α) (out : List Nat) (disp : Bool) (hp : Pre x out disp) (l : List (Nat × Option AObj)) (n m : Nat) (md : Bool) (id j : Nat) (r : List AV) (hr : enc x = wkL r) (ne : id ≠ j) (hi : id < n) (hj : j < n)
  (hw : getA l id = some (.row tw [.ptr id 0, .sl j 0 out.length (.opn 1), .bool disp] false false)) (hb : getA l j = some (.row tb (zh out) true false)) :
  (evW E O).call f (.ptr id 0 :: r) (KL l n m md [] none) = some (.tup [], KL ((n, some (.row tb (zh (out ++ F x disp)) true false)) :: (j, none) :: (id, some (.row tw [.ptr id 0, .sl n 0 (out ++ F x disp).length (.opn 1), .bool disp] false false)) :: l) (n + 1) (mark (mark m id) j) md [] none) := by
 rw [zq hO, P6 inj (x := x) (out := out) (disp := disp) (id := id) (j := j) ⟨⟨r, rfl, hr⟩, ne, hi, hj, by rw [x3]; exact hw, by rw [x3]; exact hb, hp⟩]
 rfl
end
theorem Yj (a o : Nat) : vEqk .ptr false (.ptr a o) .nilp = some (.bool false) := rfl
theorem Yq : vEqk .ptr false .nilp .nilp = some (.bool true) := rfl
theorem Yx (a o : Nat) : vEqk .ptr true (.ptr a o) (.ptr a o) = some (.bool false) := by
 simp only [vEqk, eqV, zn.2 (rfl : a = a), zn.2 (rfl : o = o), cond_true, Bool.not_true]
theorem kE : ∀ a b : List Nat, zh (a ++ b) = zh a ++ zh b
 | [], _ => rfl
 | x :: a, b => by simp only [List.cons_append, zh, kE a b]
theorem Zx (a : List Nat) : (zh a).length = a.length := ln a
theorem zz6 {s : St} {t : Nat} {new : List Nat} (hb : new.length < 1000000000) (h0 : new ≠ []) : grow s t 1 1 (zh new) new.length = some (.sl s.next 0 new.length (.opn 1), s.alloc (.row t (zh new) true false)) := by
 simp only [grow]
 rw [show Nat.ble (Nat.mul (Nat.mul 2 new.length) 1) 281474976710656 = true from zE.2 (by show 2 * new.length * 1 ≤ _; omega), show Nat.ble 1 1 = true from rfl, show Nat.blt new.length 9223372036854775808 = true from zN.2 (by omega)]
 rfl
theorem YK {l : List (Nat × Option AObj)} {n m t : Nat} {y : AV} {new : List Nat} (hl : qy y = some new.length) (h0 : new ≠ []) (hc : xg (KL l n m false [] none) 1 new.length y = some (zh new)) (hb : new.length < 1000000000) :
  appV (KL l n m false [] none) t 1 1 .nils y = some (.sl n 0 new.length (.opn 1), KL ((n, some (.row t (zh new) true false)) :: l) (n + 1) m false [] none) := by
 obtain ⟨q, hq⟩ : ∃ q, new.length = q + 1 := by
  cases new with
  | nil => exact absurd rfl h0
  | cons a r => exact ⟨r.length, rfl⟩
 rw [hq] at hc hl
 simp only [appV, hl, hc, appW, Xg, Bool.false_and, cond_false]
 have := zz6 (s := KL l n m false [] none) (t := t) hb h0
 rw [hq] at this ⊢
 exact this
theorem kx (out : List Nat) : cut (zh out) 0 (Nat.mul out.length 1) = some (zh out) := by
 have : Nat.mul out.length 1 = (zh out).length := by rw [Zx]; exact Nat.mul_one _
 rw [LT, this]
 exact kP rfl
theorem Z9 {l : List (Nat × Option AObj)} {n m t j : Nat} {b : Bool} {y : AV} {out new : List Nat} (hg : getA l j = some (.row t (zh out) true false)) (hl : qy y = some new.length) (h0 : new ≠ []) (hc : xg (KL l n m b [] none) 1 new.length y = some (zh new)) (hb : (out ++ new).length < 1000000000) :
  appV (KL l n m b [] none) t 1 1 (.sl j 0 out.length (.opn 1)) y = some (.sl n 0 (out ++ new).length (.opn 1), KL ((n, some (.row t (zh (out ++ new)) true false)) :: (j, none) :: l) (n + 1) (mark m j) b [] none) := by
 obtain ⟨q, hq⟩ : ∃ q, new.length = q + 1 := by
  cases new with
  | nil => exact absurd rfl h0
  | cons a r => exact ⟨r.length, rfl⟩
 have hq' := hq
 rw [hq] at hc hl
 have h1 : Nat.ble (Nat.add 0 (Nat.mul (Nat.add out.length (Nat.succ q)) 1)) (lenN (zh out)) = false := by
  rw [zX, Zx]
  cases h : Nat.ble (Nat.add 0 (Nat.mul (Nat.add out.length (Nat.succ q)) 1)) out.length with
  | false => rfl
  | true =>
   have h2 := zE.1 h
   have h3 : 0 + (out.length + (q + 1)) * 1 ≤ out.length := h2
   omega
 simp only [appV, hl, hc, appW, x3, hg, zn.2 (rfl : (1 : Nat) = 1), zn.2 (rfl : t = t), Bool.not_false, Bool.and_true, Bool.and_self, cond_true, h1, cond_false, u6, kx, zyU]
 have := zz6 (s := KL ((j, none) :: l) n (mark m j) b [] none) (t := t) (new := out ++ new) hb (by simp [h0])
 rw [kE, List.length_append, hq] at this
 rw [kE, List.length_append, hq]
 exact this
theorem gr_lst {φ : Phi} {id e n : Nat} {cs : List AV} {x : Value} (h : VR φ (.gr id e n cs) x) : VR φ (.lst n false cs) x := by
 simp only [VR] at h ⊢
 obtain ⟨h1, h2, h3, h4, B, ys, h5, h6, h7, h8, h9⟩ := h
 exact ⟨h1, .inr ⟨B.b, B.o, _, ys, h6, by simp, h7, h8, h9⟩⟩
open Go.RowKit (Below)
def phiW (W : World) : Phi := ⟨fun _ => none, fun b o => W.cell? ⟨b, o, none⟩⟩
theorem Vz {w : World} {a : Addr} {v : Value} (h : w.cell? a = some v) : ∃ c e fr, w.heap[a.block]? = some (.cells c e fr) ∧ a.spot = none ∧ c[a.off]? = some v := by
 unfold World.cell? at h
 cases hb : w.heap[a.block]? with
 | none => rw [hb] at h; cases h
 | some o =>
  rw [hb] at h
  cases o <;> simp only at h <;> first | cases h | skip
  rename_i c e fr
  refine ⟨c, e, fr, rfl, ?_⟩
  cases hs : a.spot with
  | none => rw [hs] at h; simp at h; exact ⟨rfl, h⟩
  | some s => rw [hs] at h; simp at h
theorem Xh {a : Addr} (h : a.spot = none) (n : Nat) : a.add n = ⟨a.block, a.off + n, none⟩ := by
 unfold Addr.add
 by_cases hn : n = 0
 ·subst hn; simp; cases a; simp_all
 ·rw [if_neg hn]
theorem JC (P : Program) (W : World) (b : Bool) : Rel P W (phiW W) (H [] 0 b).get W := by
 have hg : ∀ id o, (H [] 0 b).get id = some o → False := fun id o h => by
  rw [Vp] at h; simp [getO] at h
 refine ⟨Below.refl _ _, fun id o h => (hg id o h).elim, fun id B h => (by cases h), fun id o B h => (hg id o h).elim, fun id id' o o' B B' h => (hg id o h).elim, fun b o v h => ?_, fun id o B h => (hg id o h).elim⟩
 obtain ⟨c, e, fr, h1, _, h3⟩ := Vz h
 exact ⟨c, e, fr, h1, h3⟩
section
variable {H0 : Type} {enc : TypeId × Value → H0} {P : Program} {W : World} {sp : Nat → Bool} {held : Bool} {tD tI tS tK tE : TypeId} {fs : Array Field} {α : Type} {f : α → List AV} {k : Nat}
theorem p7 {a : Addr} {n : Nat} (h0 : 0 < k) (hk : P.cellsOf tE = k) (hsp : a.spot = none)
  (ih : ∀ cs x, DataW.trod enc P W 0 sp held n tE cs = some x → ∃ d, VRL (phiW W) (f d) cs) :
  ∀ (len : Nat), (∀ i, i < len → ∃ x, (W.cells? 0 (a.add (i * k)) k).bind (DataW.trod enc P W 0 sp held n tE) = some x) →
   ∃ ds ys, ds.length = len ∧ ys.length = len * k ∧ VRL (phiW W) (xf f ds) ys ∧ ∀ i y, ys[i]? = some y → (phiW W).z a.block (a.off + i) = some y
 | 0, _ => ⟨[], [], rfl, by simp, VRL.nil _, fun i y h => by simp at h⟩
 | len + 1, h => by
  obtain ⟨ds, ys, h1, h2, h3, h4⟩ := p7 h0 hk hsp ih len (fun i hi => h i (by omega))
  obtain ⟨x, hx⟩ := h len (by omega)
  cases hc : W.cells? 0 (a.add (len * k)) k with
  | none => rw [hc] at hx; cases hx
  | some cs =>
   rw [hc] at hx
   obtain ⟨d, hd⟩ := ih cs x hx
   obtain ⟨_, hl, hg⟩ := World.cells?_some hc
   refine ⟨ds ++ [d], ys ++ cs, by simp [h1], by rw [List.length_append, h2, hl, Nat.succ_mul], by rw [x1, uM]; exact VRL.append h3 hd, fun i y hy => ?_⟩
   by_cases hi : i < ys.length
   ·rw [List.getElem?_append_left hi] at hy; exact h4 i y hy
   ·rw [List.getElem?_append_right (by omega)] at hy
    have hj : i - ys.length < k := by
     rw [← hl]; exact (List.getElem?_eq_some_iff.1 hy).1
    have := hg (i - ys.length) hj
    rw [hy, Xh hsp, Xh rfl] at this
    show W.cell? ⟨a.block, a.off + i, none⟩ = some y
    rw [← this]
    congr 2
    simp only; omega
theorem abs_slice (h0 : 0 < k) (hk : P.cellsOf tE = k) (hK : P.underlying tK = some (.slice tE)) (hp : ∀ d, zo (f d) = true) {n : Nat}
  (ih : ∀ m, m < n → ∀ cs x, DataW.trod enc P W 0 sp held m tE cs = some x → ∃ d, VRL (phiW W) (f d) cs)
  (hs : sp = fun _ => true) {cs : List Value} {x : DataW H0 × List MemPlace} (h : DataW.trod enc P W 0 sp held n tK cs = some x) :
  ∃ ds v, cs = [v] ∧ VR (phiW W) (.lst ds.length false (xf f ds)) v ∧ ds.length ≤ maxLen := by
 rcases DataW.trod_slice hK h with ⟨rfl, _⟩ | ⟨a, len, cap, elems, rest, m, rfl, rfl, _, _, hlc, hcm, hel, hsl, hspare, _⟩
 ·exact ⟨[], _, rfl, by simp only [VR]; exact ⟨rfl, .inl ⟨rfl, _, rfl⟩⟩, by simp [maxLen]⟩
 ·rw [hk] at hsl hspare
  by_cases hcap : cap = 0
  ·subst hcap
   obtain rfl : len = 0 := by omega
   exact ⟨[], _, rfl, by simp only [VR]; exact ⟨rfl, .inl ⟨rfl, _, rfl⟩⟩, by simp [maxLen]⟩
  ·have hcell : ∃ x, (W.cells? 0 (a.add (0 * k)) k) = some x := by
    by_cases hl : 0 < len
    ·have := hsl 0 hl
     rw [List.getElem?_eq_getElem (by omega)] at this
     cases hc : W.cells? 0 (a.add (0 * k)) k with
     | none => rw [hc] at this; cases this
     | some y => exact ⟨y, rfl⟩
    ·obtain rfl : len = 0 := by omega
     obtain ⟨hr, hj⟩ := hspare (by rw [hs])
     have := hj 0 (by omega)
     rw [List.getElem?_eq_getElem (by omega)] at this
     rw [Nat.zero_add] at this
     cases hc : W.cells? 0 (a.add (0 * k)) k with
     | none => rw [hc] at this; cases this
     | some y => exact ⟨y, rfl⟩
   obtain ⟨y, hy⟩ := hcell
   have hspot : a.spot = none := by
    obtain ⟨_, hl, hg⟩ := World.cells?_some hy
    have h1 := hg 0 h0
    rw [List.getElem?_eq_getElem (by omega)] at h1
    obtain ⟨_, _, _, _, h2, _⟩ := Vz h1
    simpa [Addr.add] using h2
   obtain ⟨ds, ys, g1, _, g3, g4⟩ := p7 (W := W) (enc := enc) (sp := sp) (held := held) h0 hk hspot (ih m (by omega)) len fun i hi => by
    have := hsl i hi
    rw [List.getElem?_eq_getElem (by omega)] at this
    exact ⟨_, this⟩
   refine ⟨ds, _, rfl, ?_, by omega⟩
   simp only [VR]
   refine ⟨wP hp ds, .inr ⟨a.block, a.off, cap, ys, ?_, by simp, by omega, ZC.of g4, g3⟩⟩
   rw [g1]; cases a; simp only at hspot; subst hspot; rfl
structure DatumTy (P : Program) (tD tI tS tK : TypeId) (fs : Array Field) : Prop where
 d : P.underlying tD = some (.struct fs)
 fs : fs.toList.map (fun f => (f.type, f.offset)) = [(tI, 0), (tI, 1), (tS, 2), (tK, 3), (tI, 4)]
 i : P.underlying tI = some (.int .i64)
 s : P.underlying tS = some .string
 k : P.underlying tK = some (.slice tD)
 cd : P.cellsOf tD = 5
 ci : P.cellsOf tI = 1
 cs : P.cellsOf tS = 1
 ck : P.cellsOf tK = 1
theorem five {α : Type} {l : List α} (h : l.length = 5) : ∃ a b c d e, l = [a, b, c, d, e] := by
 match l, h with
 | [a, b, c, d, e], _ => exact ⟨a, b, c, d, e, rfl⟩
mutual
def OkD : DT → Prop
 | .mk k n t ks p => (Lit.int .i64 k).wf = true ∧ (Lit.int .i64 n).wf = true ∧ (Lit.int .i64 p).wf = true ∧ Byt t ∧ ks.length ≤ maxLen ∧ OkL ks
def OkL : List DT → Prop
 | [] => True
 | d :: r => OkD d ∧ OkL r
end
def DOk := { d : DT // OkD d }
def uc (d : DOk) : List AV := zF d.1
theorem Q8 : ∀ l : List DOk, OkL (l.map (·.1))
 | [] => by simp only [List.map_nil, OkL]
 | d :: r => by simp only [List.map_cons, OkL]; exact ⟨d.2, Q8 r⟩
theorem pu : ∀ l : List DOk, zl (l.map (·.1)) = xf uc l
 | [] => by simp only [List.map_nil, zl, xf]
 | d :: r => by simp only [List.map_cons, zl, xf, pu r, uc]
theorem Ga (s : ByteArray) : Byt (nats s) := fun x hx => by
 simp only [nats, List.mem_map] at hx
 obtain ⟨u, _, rfl⟩ := hx
 exact u.toNat_lt
theorem abs_datum (T : DatumTy P tD tI tS tK fs) (hs : sp = fun _ => true) : ∀ (n : Nat) (cs : List Value) (x : DataW H0 × List MemPlace), DataW.trod enc P W 0 sp held n tD cs = some x → ∃ d : DOk, VRL (phiW W) (uc d) cs := by
 intro n
 induction n using Nat.strongRecOn with
 | ind n ih =>
 intro cs x h
 obtain ⟨xs, m, rfl, _, hl, hlen, hf⟩ := DataW.trod_struct T.d h
 rw [T.cd] at hl
 obtain ⟨c0, c1, c2, c3, c4, rfl⟩ := five hl
 have hfs := T.fs
 obtain ⟨f0, f1, f2, f3, f4, hfe⟩ := five (l := fs.toList) (by have := congrArg List.length hfs; simpa using this)
 rw [hfe] at hfs
 simp only [List.map_cons, List.map_nil, List.cons.injEq, Prod.mk.injEq, and_true] at hfs
 obtain ⟨⟨a0, b0⟩, ⟨a1, b1⟩, ⟨a2, b2⟩, ⟨a3, b3⟩, ⟨a4, b4⟩⟩ := hfs
 have hat : ∀ (i : Nat) (f : Field), fs.toList[i]? = some f → ∃ y, DataW.trod enc P W 0 sp held m f.type (([c0, c1, c2, c3, c4].drop f.offset).take (P.cellsOf f.type)) = some y := fun i f hi => by
  have h1 := hf i f (by rw [← Array.getElem?_toList]; exact hi)
  have hlt : i < fs.toList.length := (List.getElem?_eq_some_iff.1 hi).1
  rw [List.getElem?_eq_getElem (by rw [hlen]; simpa using hlt)] at h1
  exact ⟨_, h1⟩
 obtain ⟨y0, g0⟩ := hat 0 f0 (by rw [hfe]; rfl)
 obtain ⟨y1, g1⟩ := hat 1 f1 (by rw [hfe]; rfl)
 obtain ⟨y2, g2⟩ := hat 2 f2 (by rw [hfe]; rfl)
 obtain ⟨y3, g3⟩ := hat 3 f3 (by rw [hfe]; rfl)
 obtain ⟨y4, g4⟩ := hat 4 f4 (by rw [hfe]; rfl)
 rw [a0, b0, T.ci] at g0
 rw [a1, b1, T.ci] at g1
 rw [a2, b2, T.cs] at g2
 rw [a3, b3, T.ck] at g3
 rw [a4, b4, T.ci] at g4
 obtain ⟨n0, e0, _, w0⟩ := DataW.trod_int T.i g0
 obtain ⟨n1, e1, _, w1⟩ := DataW.trod_int T.i g1
 obtain ⟨s2, e2, _⟩ := DataW.trod_string T.s g2
 obtain ⟨n4, e4, _, w4⟩ := DataW.trod_int T.i g4
 simp at e0 e1 e2 e4
 subst e0; subst e1; subst e2; subst e4
 obtain ⟨ds, v, q1, q2, q3⟩ := abs_slice (f := uc) (by omega) T.cd T.k (fun d => y9 d.1) (n := m) (fun k hk => ih k (by omega)) hs g3
 simp at q1; subst q1
 refine ⟨⟨.mk n0 n1 (nats s2) (ds.map (·.1)) n4, ?_⟩, ?_⟩
 ·simp only [OkD]
  exact ⟨w0, w1, w4, Ga s2, by rw [List.length_map]; exact q3, Q8 ds⟩
 ·simp only [uc, zF, List.length_map, pu]
  exact VRL.cons (by simp [VR]) (VRL.cons (by simp [VR]) (VRL.cons (by simp only [VR]; exact ⟨s2, rfl, rfl⟩) (VRL.cons q2 (VRL.cons (by simp [VR]) (VRL.nil _)))))
end
open Go.RowKit (Below)
theorem Step.ren {P : Program} {w0 : World} {φ : Phi} {s : St} {w : World} (r : Rel P w0 φ s.get w) (hf : φ s.next = none) {tw tb id j : Nat} {out : List Nat} {disp : Bool} (hne : id ≠ j) (hi : id < s.next) (hj : j < s.next)
  (hw : s.get id = some (wrow tw id j out.length disp)) (hb : s.get j = some (brow tb out)) :
  ∃ B, Step P w0 φ s w (φ.set s.next B) (newW tw tb s id j out disp) w := by
 obtain ⟨B, hB, tB⟩ := r.obj j _ hb
 have hsub : Sub φ (φ.set s.next B) := Phi.set_sub hf
 have hnew : (φ.set s.next B) s.next = some B := by show (if s.next = s.next then some B else φ s.next) = some B; rw [if_pos rfl]
 have hold : ∀ i, i ≠ s.next → (φ.set s.next B) i = φ i := fun i h => by show (if i = s.next then some B else φ i) = φ i; rw [if_neg h]
 have hget : ∀ i o, (newW tw tb s id j out disp).get i = some o → (i = s.next ∧ o = brow tb out) ∨ (i ≠ s.next ∧ i ≠ j ∧ i = id ∧ o = wrow tw id s.next out.length disp) ∨ (i ≠ s.next ∧ i ≠ j ∧ i ≠ id ∧ s.get i = some o) := fun i o h => by
  rw [uq] at h
  split at h
  ·rename_i hs
   split at h
   ·rename_i e; cases h; exact .inl ⟨e, rfl⟩
   ·rename_i e
    split at h
    ·cases h
    ·rename_i e2
     split at h
     ·rename_i e3; cases h; exact .inr (.inl ⟨e, e2, e3, rfl⟩)
     ·rename_i e3; exact .inr (.inr ⟨e, e2, e3, by rw [yX, if_pos hs]; exact h⟩)
  ·cases h
 have hwmj : (newW tw tb s id j out disp).wm.testBit j = true := by
  show ((s.wm ||| 1 <<< id) ||| 1 <<< j).testBit j = true
  simp [Nat.testBit_or, Nat.testBit_shiftLeft]
 refine ⟨B, lH hne hw hb, ⟨r.base, fun i o h => ?_, fun i B' h => ?_, fun i o B' h hB' => ?_, fun i i' o o' B1 B2 h h' h1 h2 he => ?_, r.frz, fun i o B' h hB' => ?_⟩, fun i h => ?_, Nat.le_refl _, fun _ _ _ => rfl, fun i B' h1 h2 h3 => ?_, fun _ _ _ h => h, fun _ _ _ h => .inl h⟩
 ·rcases hget i o h with ⟨rfl, rfl⟩ | ⟨e1, e2, rfl, rfl⟩ | ⟨e1, e2, e3, h0⟩
  ·exact ⟨B, hnew, tB.keep hsub rfl⟩
  ·obtain ⟨Bw, hBw, tw'⟩ := r.obj i _ hw
   refine ⟨Bw, by rw [hold _ e1]; exact hBw, ?_⟩
   simp only [ObjRel, wrow] at tw' ⊢
   obtain ⟨c, fr, h1, h2, h3, h4, h5, h6⟩ := tw'
   refine ⟨c, fr, h1, h2, h3, h4, ?_, h6⟩
   simp only [VRL] at h5 ⊢
   obtain ⟨y1, ys1, q1, q2, y2, ys2, q3, q4, y3, ys3, q5, q6, q7⟩ := h5
   refine ⟨y1, ys1, q1, VR.mono hsub _ _ q2, y2, ys2, q3, ?_, y3, ys3, q5, VR.mono hsub _ _ q6, q7⟩
   simp only [VR] at q4 ⊢
   obtain ⟨B2, k, g1, g2, g3⟩ := q4
   rw [hB] at g1; cases g1
   exact ⟨B, k, hnew, g2, g3⟩
  ·obtain ⟨B', hB', t'⟩ := r.obj i o h0
   exact ⟨B', by rw [hold _ e1]; exact hB', t'.keep hsub rfl⟩
 ·by_cases e : i = s.next
  ·subst e; rw [hnew] at h; cases h; exact r.rng j B hB
  ·rw [hold _ e] at h; exact r.rng i B' h
 ·intro hlt
  rcases hget i o h with ⟨rfl, rfl⟩ | ⟨e1, e2, rfl, rfl⟩ | ⟨e1, e2, e3, h0⟩
  ·rw [hnew] at hB'; cases hB'; exact r.old j _ B hb hB hlt
  ·rw [hold _ e1] at hB'; exact (show yO (wrow tw i j out.length disp) = true from r.old i _ B' hw hB' hlt)
  ·rw [hold _ e1] at hB'; exact r.old i o B' h0 hB' hlt
 ·have hcase : ∀ i o, (newW tw tb s id j out disp).get i = some o → ∀ B', (φ.set s.next B) i = some B' → ∃ i0 o0, s.get i0 = some o0 ∧ φ i0 = some B' ∧ (i0 = i ∨ (i = s.next ∧ i0 = j)) ∧ (i0 = j → i = s.next) := fun i o h B' hB' => by
   rcases hget i o h with ⟨rfl, rfl⟩ | ⟨e1, e2, rfl, rfl⟩ | ⟨e1, e2, e3, h0⟩
   ·rw [hnew] at hB'; cases hB'; exact ⟨j, _, hb, hB, .inr ⟨rfl, rfl⟩, fun _ => rfl⟩
   ·rw [hold _ e1] at hB'; exact ⟨i, _, hw, hB', .inl rfl, fun e => absurd e e2⟩
   ·rw [hold _ e1] at hB'; exact ⟨i, _, h0, hB', .inl rfl, fun e => absurd e e2⟩
  obtain ⟨i0, o0, g1, g2, g3, g4⟩ := hcase i o h B1 h1
  obtain ⟨i1, o1, k1, k2, k3, k4⟩ := hcase i' o' h' B2 h2
  rcases r.inj i0 i1 o0 o1 B1 B2 g1 k1 g2 k2 he with e | e
  ·left
   by_cases ej : i0 = j
   ·rw [g4 ej, k4 (e ▸ ej)]
   ·rcases g3 with g3 | ⟨_, g3⟩
    ·rcases k3 with k3 | ⟨_, k3⟩
     ·rw [← g3, ← k3, e]
     ·exact absurd (e.trans k3) ej
    ·exact absurd g3 ej
  ·exact .inr e
 ·rcases hget i o h with ⟨rfl, rfl⟩ | ⟨e1, e2, rfl, rfl⟩ | ⟨e1, e2, e3, h0⟩
  ·rw [hnew] at hB'; cases hB'; exact r.sep j _ B hb hB
  ·rw [hold _ e1] at hB'; exact (SepOf.of_all ((r.sep i _ B' hw hB').all rfl rfl))
  ·rw [hold _ e1] at hB'; exact r.sep i o B' h0 hB'
 ·have : i ≠ s.next := by
   have : (newW tw tb s id j out disp).next = s.next + 1 := rfl
   omega
  exact hold _ this
 ·have e : i = s.next := by
   have : (newW tw tb s id j out disp).next = s.next + 1 := rfl
   omega
  subst e
  rw [hnew] at h3; cases h3
  exact .inr ⟨j, _, B, hb, hB, rfl, hwmj⟩
theorem Is.ren {C : Cx} {E : Env} {O : Orc} {c : St} {M : Nat} (k : Is C E O c M) {fr : Fr} {l : List (Nat × Option AObj)} {n m : Nat} {md : Bool} {tw tb id j : Nat} {out : List Nat} {disp : Bool} (hne : id ≠ j) (hi : id < n) (hj : j < n)
  (hw : getA l id = some (wrow tw id j out.length disp)) (hb : getA l j = some (brow tb out)) :
  Gc C fr (KL l n m md [] none) fr (KL ((n, some (brow tb out)) :: (j, none) :: (id, some (wrow tw id n out.length disp)) :: l) (n + 1) (mark (mark m id) j) md [] none) := by
 intro φ w a ha hf
 obtain ⟨B, st⟩ := Step.ren (tw := tw) (tb := tb) (id := id) (j := j) (out := out) (disp := disp) ha.st.rel (ha.fresh _ (Nat.le_refl _)) hne hi hj (by rw [x3]; exact hw) (by rw [x3]; exact hb)
 have hn : φ n = none := ha.fresh n (Nat.le_refl _)
 exact ⟨φ.set n B, ha.step k.ok st, hf.mono (Phi.set_sub hn)⟩
open Go.RowKit (Below)
def xE (tw : Nat) (disp : Bool) : AObj := .row tw [.nilp, .nils, .bool disp] false false
noncomputable def YQ (tw tb : Nat) (s : St) (id : Nat) (out : List Nat) (disp : Bool) : St := (s.put id (wrow tw id s.next out.length disp)).alloc (brow tb out)
structure IsW0 {α : Type} (tw : Nat) (enc : α → List AV) (Pre : α → Bool → Prop) (args : List AV) (s : St) (id : Nat) (x : α) (disp : Bool) : Prop where
 a : ∃ r, args = .ptr id 0 :: r ∧ enc x = wkL r
 hi : id < s.next
 w : s.get id = some (xE tw disp)
 p : Pre x disp
open Classical in
noncomputable def jM {α : Type} (tw tb : Nat) (enc : α → List AV) (Pre : α → Bool → Prop) (F : α → Bool → List Nat) (args : List AV) (s : St) : Option (AV × St) :=
 if h : ∃ q : Nat × α × Bool, IsW0 tw enc Pre args s q.1 q.2.1 q.2.2 then
  some (.tup [], YQ tw tb s (Classical.choose h).1 (F (Classical.choose h).2.1 (Classical.choose h).2.2) (Classical.choose h).2.2)
 else none
section
variable {α : Type} {tw tb : Nat} {enc : α → List AV} {Pre : α → Bool → Prop} {F : α → Bool → List Nat}
theorem IsW0.uniq (inj : ∀ x y, enc x = enc y → x = y) {args : List AV} {s : St} {id id' : Nat} {x x' : α} {disp disp' : Bool} (h : IsW0 tw enc Pre args s id x disp) (h' : IsW0 tw enc Pre args s id' x' disp') : id' = id ∧ x' = x ∧ disp' = disp := by
 obtain ⟨r, ha, he⟩ := h.a
 obtain ⟨r', ha', he'⟩ := h'.a
 rw [ha] at ha'
 simp only [List.cons.injEq, AV.ptr.injEq, and_true] at ha'
 obtain ⟨rfl, rfl⟩ := ha'
 have hw := h.w.symm.trans h'.w
 simp only [xE, Option.some.injEq, AObj.row.injEq, List.cons.injEq, AV.bool.injEq, and_true, true_and] at hw
 exact ⟨rfl, inj _ _ (he'.trans he.symm), hw.symm⟩
theorem LA (inj : ∀ x y, enc x = enc y → x = y) {args : List AV} {s : St} {id : Nat} {x : α} {disp : Bool} (h : IsW0 tw enc Pre args s id x disp) : jM tw tb enc Pre F args s = some (.tup [], YQ tw tb s id (F x disp) disp) := by
 have hx : ∃ q : Nat × α × Bool, IsW0 tw enc Pre args s q.1 q.2.1 q.2.2 := ⟨(id, x, disp), h⟩
 unfold jM
 rw [dif_pos hx]
 obtain ⟨e1, e2, e3⟩ := h.uniq inj (Classical.choose_spec hx)
 rw [e1, e2, e3]
theorem ZS {s : St} {id : Nat} {out : List Nat} {disp : Bool} (hw : s.get id = some (xE tw disp)) : Ext s (YQ tw tb s id out disp) :=
 (xQ hw).trans (wu _ _)
theorem kT {s : St} {id : Nat} {out : List Nat} {disp : Bool} (i : Nat) : (YQ tw tb s id out disp).get i = if seen s i then (if i = s.next then some (brow tb out) else if i = id then some (wrow tw id s.next out.length disp) else s.objs.get i) else none := by
 rw [yX, z7 (s := s) (s' := YQ tw tb s id out disp) rfl rfl]
 congr 1
 show ((s.objs.set id _).set s.next _).get i = _
 rw [Trie.get_set, Trie.get_set]
theorem V8 {ρ : Nat → Option Nat} {tw : Nat} {disp : Bool} : renO ρ (xE tw disp) = some (xE tw disp) := by
 have hp : zo [AV.nilp, .nils, .bool disp] = true := rfl
 simp only [renO, xE, hp, renC, cond_true]
theorem Zh (args : List AV) (s : St) (v : AV) (s' : St) (h : jM tw tb enc Pre F args s = some (v, s')) : Ext s s' := by
 unfold jM at h
 split at h
 ·rename_i hx
  cases h
  have hs := Classical.choose_spec hx
  exact ZS hs.w
 ·cases h
theorem QK {P : Program} {w0 : World} {f : Nat} {b : Bool} (hpure : ∀ x, zo (enc x) = true) (h : ∀ x disp, Pre x disp → SC P w0 f (.ptr 0 0 :: enc x) (H [some (xE tw disp)] 0 b) (.tup []) (H [some (wrow tw 0 1 (F x disp).length disp), some (brow tb (F x disp))] 1 b)) : xI P w0 f (jM tw tb enc Pre F) := by
 intro args s v s' hg
 unfold jM at hg
 split at hg
 ·rename_i hx
  simp only [Option.some.injEq, Prod.mk.injEq] at hg
  obtain ⟨rfl, rfl⟩ := hg
  have hs := Classical.choose_spec hx
  revert hs
  generalize Classical.choose hx = q
  obtain ⟨id, x, disp⟩ := q
  simp only
  intro hs
  obtain ⟨r, rfl, he⟩ := hs.a
  have g0 : iot [id] 0 = some id := rfl
  have k0 : iot' [id] s.next 2 0 = some id := rfl
  have k1 : iot' [id] s.next 2 1 = some s.next := rfl
  refine SC.args (args' := .ptr id 0 :: enc x) (SC.emb (h x disp hs.p) (ids := [id]) rfl (by simp) (fun i k hk => ?_) (by simp only [renL, renV, g0, kY _ (hpure x)]) (by simp only [renV, renC, zJ, cond_true]) ?_) fun φ xs hv => ?_
  ·match i, hk with
   | 0, hk => cases hk; exact ⟨_, _, rfl, V8, hs.w⟩
   | i + 1, hk => simp at hk
  ·refine ⟨ZS hs.w, by simp, rfl, fun i hi hn o => ?_, fun i k hk hM o1 ho => ?_, fun i h1 h2 o1 ho => ?_, fun i k hk hM => ?_⟩
   ·have n1 : i ≠ s.next := by omega
    have n3 : i ≠ id := fun e => absurd (hn 0 (by rw [e]; rfl)) (by decide)
    rw [kT, if_neg n1, if_neg n3, ← yX]
   ·match i, hk with
    | 0, hk =>
     cases hk
     rw [kT, zO hs.w, if_pos rfl, if_neg (by have := hs.hi; omega), if_pos rfl] at ho
     cases ho
     exact ⟨_, rfl, lE k0 k1⟩
    | i + 1, hk => simp at hk
   ·simp only [List.length_cons, List.length_nil] at h1 h2
    have : i = 1 := by omega
    subst this
    rw [kT] at ho
    simp only [List.length_cons, List.length_nil] at ho
    split at ho
    ·rw [if_pos (by omega)] at ho
     cases ho
     exact ⟨_, rfl, lX⟩
    ·cases ho
   ·match i, hk with
    | 0, hk =>
     cases hk
     show (mark s.wm id).testBit id = true
     simp only [mark]
     show (s.wm ||| 1 <<< id).testBit id = true
     simp [Nat.testBit_or, Nat.testBit_shiftLeft]
    | i + 1, hk => simp at hk
  ·simp only [VRL] at hv ⊢
   obtain ⟨y, ys, rfl, q1, q2⟩ := hv
   exact ⟨y, ys, rfl, q1, by rw [he]; exact x2 q2⟩
 ·cases hg
theorem GD {E : Env} {O : Orc} {f : Nat} (hO : O f = some (jM tw tb enc Pre F)) (inj : ∀ x y, enc x = enc y → x = y) (x : α) (disp : Bool) (hp : Pre x disp) (l : List (Nat × Option AObj)) (n m : Nat) (md : Bool) (id : Nat) (r : List AV) (hr : enc x = wkL r) (hi : id < n)
  (hw : getA l id = some (.row tw [.nilp, .nils, .bool disp] false false)) :
  (evW E O).call f (.ptr id 0 :: r) (KL l n m md [] none) = some (.tup [], KL ((n, some (.row tb (zh (F x disp)) true false)) :: (id, some (.row tw [.ptr id 0, .sl n 0 (F x disp).length (.opn 1), .bool disp] false false)) :: l) (n + 1) (mark m id) md [] none) := by
 rw [zq hO, LA inj (x := x) (disp := disp) (id := id) ⟨⟨r, rfl, hr⟩, hi, by rw [x3]; exact hw, hp⟩]
 rfl
end
end Go.Proofs.YthcmnajcjapjbaaGreatDoor.Ev

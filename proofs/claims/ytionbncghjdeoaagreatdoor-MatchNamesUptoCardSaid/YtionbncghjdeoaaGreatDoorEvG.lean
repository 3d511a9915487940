/- Part of a verified evaluator of the model's code, generic over the program: a run of the evaluator that answers shows what the model's run answers. No conditions of its own. -/
import Derived.Test.YtionbncghjdeoaaGreatDoorEvF
import Derived.Attr
import Derived.ChangeArms
import Derived.DataReads
set_option linter.unusedSimpArgs false
set_option linter.unusedVariables false
set_option linter.defProp false
open And renaming intro → yY
open Int renaming reduceNegSucc → yZ, reduceOfNat → y6
open Nat renaming beq → za, ble → ze, mul_one → xd, blt → zd, mul → zb, succ_mul → zmr
open List renaming length_nil → y7, length_cons → y8, length_append → yd, cons_append → y9, take_succ_cons → xc, length → yC, take_of_length_le → zG, drop_succ_cons → xg
open Bool renaming and_self → xb
open List.cons renaming injEq → xe
open Classical renaming choose_spec → yT
namespace Go.Proofs.YtionbncghjdeoaaGreatDoor.Ev
variable {P : Program} {w0 w : World} {E : Env} {O : Orc} {s s' : St} {φ : Phi} {v : AV} {b : List Nat} {id n : Nat} {o : AObj}
noncomputable def osA : List (Nat × Option AObj) → Trie AObj
 | [] => .leaf
 | p :: r => match p.2 with
  | some o => (osA r).set p.1 o
  | none => (osA r).del p.1
noncomputable def KL (l : List (Nat × Option AObj)) (n m : Nat) (b : Bool) (hd : List (Nat × Nat)) (on : Option (Nat × List Nat)) : St := { objs := osA l, next := n, wm := m, hide := hd, only := on, md := b }
def xx : List (Nat × Option AObj) → Nat → Option AObj
 | [], _ => none
 | p :: r, i => if i = p.1 then p.2 else xx r i
theorem Xi : ∀ (l : List (Nat × Option AObj)) (i : Nat), (osA l).get i = xx l i
 | [], i => rfl
 | (j, o) :: r, i => by
  cases o with
  | some o => simp only [osA, xx]; rw [Trie.get_set, Xi r i]
  | none => simp only [osA, xx]; rw [Trie.get_del, Xi r i]
theorem zu4 (i : Nat) : xx [] i = none := rfl
theorem xi (j : Nat) (o : Option AObj) (r : List (Nat × Option AObj)) (i : Nat) : xx ((j, o) :: r) i = if i = j then o else xx r i := rfl
def Wx : Nat → List (Option AObj) → List (Nat × Option AObj)
 | _, [] => []
 | n, o :: r => match o with
  | some o => (n, some o) :: Wx (n + 1) r
  | none => Wx (n + 1) r
theorem zxs (n : Nat) : Wx n [] = [] := rfl
theorem Pe (n : Nat) (o : AObj) (r : List (Option AObj)) : Wx n (some o :: r) = (n, some o) :: Wx (n + 1) r := rfl
theorem HJ : ∀ (l : List (Option AObj)) (n : Nat), osT n l = osA (Wx n l)
 | [], n => rfl
 | o :: r, n => by cases o <;> simp only [osT, Wx, osA] <;> rw [HJ r]
theorem zmc (os : List (Option AObj)) (m : Nat) (b : Bool) : H os m b = KL (Wx 0 os) os.length m b [] none := by
 unfold H KL; rw [HJ]
theorem zzq (l : List (Nat × Option AObj)) (n m : Nat) (b : Bool) (hd : List (Nat × Nat)) (on : Option (Nat × List Nat)) : (KL l n m b hd on).next = n := rfl
theorem zpq (l : List (Nat × Option AObj)) (n m : Nat) (b : Bool) (hd : List (Nat × Nat)) (on : Option (Nat × List Nat)) : (KL l n m b hd on).wm = m := rfl
theorem UL (l : List (Nat × Option AObj)) (n m : Nat) (b : Bool) (hd : List (Nat × Nat)) (on : Option (Nat × List Nat)) : (KL l n m b hd on).md = b := rfl
theorem qc (l : List (Nat × Option AObj)) (n m : Nat) (b : Bool) (i : Nat) : (KL l n m b [] none).get i = xx l i := by
 rw [← Xi]; rfl
theorem Qi (l : List (Nat × Option AObj)) (n m : Nat) (b : Bool) (hd : List (Nat × Nat)) (k : Nat) (ks : List Nat) (i : Nat) : (KL l n m b hd (some (k, ks))).get i = bif hid hd i then none else bif Nat.ble k i then xx l i else bif ph i ks then xx l i else none := by
 rw [← Xi]; rfl
theorem zvk (l : List (Nat × Option AObj)) (n m : Nat) (b : Bool) (hd : List (Nat × Nat)) (on : Option (Nat × List Nat)) (i : Nat) (o : AObj) : (KL l n m b hd on).put i o = KL ((i, some o) :: l) n (jW m i) b hd on := rfl
theorem zvj (l : List (Nat × Option AObj)) (n m : Nat) (b : Bool) (hd : List (Nat × Nat)) (on : Option (Nat × List Nat)) (i : Nat) : (KL l n m b hd on).del i = KL ((i, none) :: l) n (jW m i) b hd on := rfl
theorem zvi (l : List (Nat × Option AObj)) (n m : Nat) (b : Bool) (hd : List (Nat × Nat)) (on : Option (Nat × List Nat)) (o : AObj) : (KL l n m b hd on).alloc o = KL ((n, some o) :: l) (n + 1) m b hd on := rfl
theorem zqu (m i : Nat) : jW m i = m ||| 1 <<< i := rfl
def zvI (x : Option (Trie AV × St)) (k : Trie AV → St → Option (Trie AV × St)) : Option (Trie AV × St) :=
 match x with
 | some p => k p.1 p.2
 | none => none
theorem Lx (tm : Trie AV) (s : St) (k : Trie AV → St → Option (Trie AV × St)) : zvI (some (tm, s)) k = k tm s := rfl
theorem zr3 (G : Env) (S : Self) (tm : Trie AV) (s : St) : evS G S [] tm s = some (tm, s) := rfl
theorem zuF (G : Env) (S : Self) (o : SOper) (r : List SOper) (tm : Trie AV) (s : St) : evS G S (o :: r) tm s = zvI (gg G S o tm s) (evS G S r) := rfl
theorem zqZ (G : Env) (S : Self) (d : Option Nat) (op : IOp) (tm : Trie AV) (s : St) : gg G S ⟨d, op, none⟩ tm s = stS tm d (ql G S op tm s) := rfl
noncomputable def zu8 (G : Env) (S : Self) (d : Option Nat) (op : IOp) (tm : Trie AV) (s : St) : Option Bool → Option (Trie AV × St)
 | some true => stS tm d (ql G S op tm s)
 | some false => some (qH tm d qz, s)
 | none => none
def JW (w : Bool) : Option AV → Option Bool
 | some (.bool b) => some (b == w)
 | some _ => some false
 | none => none
theorem zqY (G : Env) (S : Self) (d : Option Nat) (op : IOp) (i : Nat) (w : Bool) (tm : Trie AV) (s : St) : gg G S ⟨d, op, some (i, w)⟩ tm s = zu8 G S d op tm s (JW w (tm.get i)) := by
 unfold gg kg; simp only; generalize tm.get i = x; cases x with
 | none => rfl
 | some v => cases v <;> first | rfl | (rename_i b; cases b <;> cases w <;> rfl)
theorem zpm (b : Bool) : JW true (some (.bool b)) = some b := by cases b <;> rfl
theorem zpl (b : Bool) : JW false (some (.bool b)) = some (!b) := by cases b <;> rfl
theorem zpn (w : Bool) (l : List AV) : JW w (some (.tup l)) = some false := rfl
theorem zw4 : qz = .tup [] := rfl
theorem zqh (G : Env) (S : Self) (d : Option Nat) (op : IOp) (tm : Trie AV) (s : St) : zu8 G S d op tm s (some true) = stS tm d (ql G S op tm s) := rfl
theorem zqg (G : Env) (S : Self) (d : Option Nat) (op : IOp) (tm : Trie AV) (s : St) : zu8 G S d op tm s (some false) = some (qH tm d qz, s) := rfl
theorem zsl (tm : Trie AV) (d : Option Nat) (v : AV) (s : St) : stS tm d (some (v, s)) = some (qH tm d v, s) := rfl
theorem H3 (l : List (Nat × AV)) (i : Nat) (v : AV) : qH (tmL l) (some i) v = tmL ((i, v) :: l) := rfl
theorem H2 (tm : Trie AV) (v : AV) : qH tm none v = tm := rfl
theorem HZ (tm : Trie AV) (i : Nat) : wN tm i [] = tm := rfl
theorem Gd (l : List (Nat × AV)) (i : Nat) (v : AV) (r : List AV) : wN (tmL l) i (v :: r) = wN (tmL ((i, v) :: l)) (i + 1) r := rfl
theorem zwG (tm : Trie AV) : lj tm [] [] = some tm := rfl
theorem zza (l : List (Nat × AV)) (p : Nat) (ps : List Nat) (v : AV) (vs : List AV) : lj (tmL l) (p :: ps) (v :: vs) = lj (tmL ((p, v) :: l)) ps vs := rfl
def zzw (x : Option (List LogE × Trie AV × St)) (k : List LogE → Trie AV → St → Option (Trie AV × St)) : Option (Trie AV × St) :=
 match x with
 | some p => k p.1 p.2.1 p.2.2
 | none => none
theorem Lw (log : List LogE) (tm : Trie AV) (s : St) (k : List LogE → Trie AV → St → Option (Trie AV × St)) : zzw (some (log, tm, s)) k = k log tm s := rfl
theorem zt3 (E : Env) (S : Self) (ops : List DOper) (tm : Trie AV) (df : List Nat) (l : List (Nat × Option AObj)) (n m : Nat) (b : Bool) (hd : List (Nat × Nat)) : Xl E S ops ⟨tm, df⟩ (KL l n m b hd none) = vP df (evD E S ops 0 [] tm (KL l n m b hd none)) := rfl
theorem zro (G : Env) (S : Self) (i : Nat) (log : List LogE) (tm : Trie AV) (s : St) : evD G S [] i log tm s = some (tm, s) := rfl
theorem zul (G : Env) (S : Self) (o : DOper) (r : List DOper) (i : Nat) (log : List LogE) (tm : Trie AV) (s : St) : evD G S (o :: r) i log tm s = zzw (ge G S o i log tm s) (evD G S r (i + 1)) := rfl
noncomputable def opD (G : Env) (S : Self) (d : Option Nat) (op : IOp) (deps i : Nat) (log : List LogE) (tm : Trie AV) (l : List (Nat × Option AObj)) (n m : Nat) (b : Bool) (hd : List (Nat × Nat)) (on : Option (Nat × List Nat)) (tch : Option (List Nat)) : Option (List LogE × Trie AV × St) :=
 endS2 d deps i log tm n m hd on tch (ql G S op tm (KL l n 0 b (qv deps log hd) (onOf n tch)))
 where
 onOf (n : Nat) : Option (List Nat) → Option (Nat × List Nat)
  | some l => some (n, l)
  | none => none
 endS2 (d : Option Nat) (deps i : Nat) (log : List LogE) (tm : Trie AV) (n m : Nat) (hd : List (Nat × Nat)) (on : Option (Nat × List Nat)) (tch : Option (List Nat)) : Option (AV × St) → Option (List LogE × Trie AV × St)
  | some p => bif uj deps tch (wq p.2.wm n) log then some ({ idx := i, lo := n, hi := p.2.next, tch := tch, wm := wq p.2.wm n } :: log, qH tm d p.1, { p.2 with hide := hd, only := on, wm := Nat.lor m p.2.wm }) else none
  | none => none
theorem zoC (G : Env) (S : Self) (d : Option Nat) (op : IOp) (deps i : Nat) (log : List LogE) (tm : Trie AV) (l : List (Nat × Option AObj)) (n m : Nat) (b : Bool) (hd : List (Nat × Nat)) (on : Option (Nat × List Nat)) (tch : Option (List Nat)) :
  opD G S d op deps i log tm l n m b hd on tch = opD.endS2 d deps i log tm n m hd on tch (ql G S op tm (KL l n 0 b (qv deps log hd) (opD.onOf n tch))) := rfl
theorem zwk (n : Nat) (l : List Nat) : opD.onOf n (some l) = some (n, l) := rfl
theorem zwj (n : Nat) : opD.onOf n none = none := rfl
theorem zuc (d : Option Nat) (deps i : Nat) (log : List LogE) (tm : Trie AV) (n m : Nat) (hd : List (Nat × Nat)) (on : Option (Nat × List Nat)) (tch : Option (List Nat)) (v : AV) (l' : List (Nat × Option AObj)) (n' m' : Nat) (b' : Bool) (hd' : List (Nat × Nat)) (on' : Option (Nat × List Nat)) :
  opD.endS2 d deps i log tm n m hd on tch (some (v, KL l' n' m' b' hd' on')) = bif uj deps tch (wq m' n) log then some (⟨i, n, n', tch, wq m' n⟩ :: log, qH tm d v, KL l' n' (m ||| m') b' hd on) else none := rfl
theorem zqX (G : Env) (S : Self) (d : Option Nat) (op : IOp) (deps i : Nat) (log : List LogE) (tm : Trie AV) (l : List (Nat × Option AObj)) (n m : Nat) (b : Bool) (hd : List (Nat × Nat)) (on : Option (Nat × List Nat)) :
  ge G S ⟨⟨d, op, none⟩, deps⟩ i log tm (KL l n m b hd on) = opD G S d op deps i log tm l n m b hd on (qg op tm) := by
 simp only [ge, kg, WZ, vh, opD]; cases qg op tm <;> rfl
noncomputable def KU (G : Env) (S : Self) (d : Option Nat) (op : IOp) (deps i : Nat) (log : List LogE) (tm : Trie AV) (l : List (Nat × Option AObj)) (n m : Nat) (b : Bool) (hd : List (Nat × Nat)) (on : Option (Nat × List Nat)) : Option Bool → Option (List LogE × Trie AV × St)
 | some true => opD G S d op deps i log tm l n m b hd on (qg op tm)
 | some false => some (log, qH tm d qz, KL l n m b hd on)
 | none => none
theorem zqW (G : Env) (S : Self) (d : Option Nat) (op : IOp) (j : Nat) (w : Bool) (deps i : Nat) (log : List LogE) (tm : Trie AV) (l : List (Nat × Option AObj)) (n m : Nat) (b : Bool) (hd : List (Nat × Nat)) (on : Option (Nat × List Nat)) :
  ge G S ⟨⟨d, op, some (j, w)⟩, deps⟩ i log tm (KL l n m b hd on) = KU G S d op deps i log tm l n m b hd on (JW w (tm.get j)) := by
 unfold ge kg; simp only; generalize tm.get j = x; cases x with
 | none => rfl
 | some v =>
  cases v <;> first | rfl | skip
  rename_i c
  cases c <;> cases w <;> first | rfl | (simp only [KU, JW, WZ, vh, opD]; cases qg op tm <;> rfl)
theorem zta (G : Env) (S : Self) (d : Option Nat) (op : IOp) (deps i : Nat) (log : List LogE) (tm : Trie AV) (l : List (Nat × Option AObj)) (n m : Nat) (b : Bool) (hd : List (Nat × Nat)) (on : Option (Nat × List Nat)) : KU G S d op deps i log tm l n m b hd on (some true) = opD G S d op deps i log tm l n m b hd on (qg op tm) := rfl
theorem zu9 (G : Env) (S : Self) (d : Option Nat) (op : IOp) (deps i : Nat) (log : List LogE) (tm : Trie AV) (l : List (Nat × Option AObj)) (n m : Nat) (b : Bool) (hd : List (Nat × Nat)) (on : Option (Nat × List Nat)) : KU G S d op deps i log tm l n m b hd on (some false) = some (log, qH tm d qz, KL l n m b hd on) := rfl
theorem KV (deps : Nat) (h : List (Nat × Nat)) : qv deps [] h = h := rfl
theorem Uz (deps : Nat) (i lo hi : Nat) (tch : Option (List Nat)) (wm : Nat) (r : List LogE) (h : List (Nat × Nat)) : qv deps (⟨i, lo, hi, tch, wm⟩ :: r) h = bif za lo hi || deps.testBit i then qv deps r h else (lo, hi) :: qv deps r h := rfl
theorem LI (deps : Nat) (tch : Option (List Nat)) (wm : Nat) : uj deps tch wm [] = true := rfl
theorem GI (deps : Nat) (tch : Option (List Nat)) (wm : Nat) (i lo hi : Nat) (tch' : Option (List Nat)) (wm' : Nat) (r : List LogE) :
  uj deps tch wm (⟨i, lo, hi, tch', wm'⟩ :: r) = bif deps.testBit i then uj deps tch wm r else bif (za wm 0 || offMask wm tch') && (za wm' 0 || offMask wm' tch) then uj deps tch wm r else false := rfl
theorem K3 (m : Nat) : offMask m none = false := rfl
theorem HH (m : Nat) : offMask m (some []) = true := rfl
theorem K2 (m a : Nat) (l : List Nat) : offMask m (some (a :: l)) = bif m.testBit a then false else offMask m (some l) := rfl
theorem VS (m n : Nat) : wq m n = m % 2 ^ n := rfl
theorem WU (m i : Nat) : m.testBit i = !(za (m / 2 ^ i % 2) 0) := by
 rw [Nat.testBit_eq_decide_div_mod_eq]; rcases Nat.mod_two_eq_zero_or_one (m / 2 ^ i) with h | h <;> rw [h] <;> rfl
theorem zsA (tm : Trie AV) (x : Opd) : qg (.mv x) tm = some [] := rfl
theorem zw0 (tm : Trie AV) (x : Opd) : qg (.nck x) tm = some [] := rfl
theorem zsx (tm : Trie AV) (n : Nat) (x : Opd) : qg (.fa n x) tm = some [] := rfl
theorem zwT (tm : Trie AV) (op : BinOp) (x y : Opd) : qg (.bin op x y) tm = some [] := rfl
theorem zwW (tm : Trie AV) (k : EqK) (b : Bool) (x y : Opd) : qg (.eqk k b x y) tm = some [] := rfl
theorem zsC (tm : Trie AV) (op : UnOp) (x : Opd) : qg (.un op x) tm = some [] := rfl
theorem zzj (tm : Trie AV) (a b c : Opd) : qg (.pick a b c) tm = some [] := rfl
theorem zsw (tm : Trie AV) (x : Opd) (i : Nat) : qg (.ex x i) tm = some [] := rfl
theorem zsy (tm : Trie AV) (e : Nat) (x y : Opd) : qg (.ia e x y) tm = some [] := rfl
theorem zw1 (tm : Trie AV) (e : Nat) (x : Opd) (a b c : Option Opd) : qg (.slv e x a b c) tm = some [] := rfl
theorem Lj (tm : Trie AV) (z : List AV) (l : List (Nat × Nat × Opd)) : qg (.build z l) tm = some [] := rfl
theorem zwU (tm : Trie AV) (e : Nat) (z : List AV) (n : Nat) (l : List (Nat × Nat × Opd)) : qg (.bsl e z n l) tm = some [] := rfl
theorem zwZ (tm : Trie AV) (f : Nat) (a b : List Opd) : qg (.mfn f a b) tm = some [] := rfl
theorem zsz (tm : Trie AV) (x : Opd) : qg (.ld x) tm = X9 (x.ev tm) := rfl
theorem zwX (tm : Trie AV) (n : Nat) (x : Opd) : qg (.ldn n x) tm = X9 (x.ev tm) := rfl
theorem zsB (tm : Trie AV) (n : Nat) (x y : Opd) : qg (.st n x y) tm = X9 (x.ev tm) := rfl
theorem zwY (tm : Trie AV) (k : LK) (x : Opd) : qg (.len k x) tm = X9 (x.ev tm) := rfl
theorem zwV (tm : Trie AV) (x : Opd) : qg (.cbs x) tm = X9 (x.ev tm) := rfl
theorem zwS (tm : Trie AV) (a b c : Nat) (x y : Opd) : qg (.app a b c x y) tm = zso (zyy (x.ev tm)) (X9 (y.ev tm)) := rfl
theorem zzi (tm : Trie AV) (f : Nat) (l : List Opd) : qg (.call f l) tm = none := rfl
theorem zze (a b : List Nat) : zso (some a) (some b) = some (a ++ b) := rfl
theorem zwP  : X9 (some (.nils)) = some [] := rfl
theorem zsq (n : Nat) (e : Bool) (l : List AV) : X9 (some (.lst n e l)) = some [] := rfl
theorem zq3 (l : List AV) : X9 (some (.vp l)) = some [] := rfl
theorem zsr (i o : Nat) : X9 (some (.ptr i o)) = some [i] := rfl
theorem zq2 (i o n : Nat) (c : Cap) : X9 (some (.sl i o n c)) = some [i] := rfl
theorem zzf  : zyy (some (.nils)) = some [] := rfl
theorem zsp (i o n : Nat) (c : Cap) : zyy (some (.sl i o n c)) = some [i] := rfl
theorem zrY (G : Env) (S : Self) (tm : Trie AV) (s : St) (x : Opd) : ql G S (.mv x) tm s = v1 tm s x some := rfl
theorem zxF (G : Env) (S : Self) (tm : Trie AV) (s : St) (c : Opd) (a : Opd) (b : Opd) : ql G S (.pick c a b) tm s = ko s (JU (c.ev tm) (a.ev tm) (b.ev tm)) := rfl
theorem Ph (G : Env) (S : Self) (tm : Trie AV) (s : St) (e : Nat) (zs : List AV) : ql G S (.alloc e zs) tm s = pS s e zs := rfl
theorem zur (G : Env) (S : Self) (tm : Trie AV) (s : St) (e : Nat) (x : Opd) : ql G S (.box e x) tm s = o1 tm x (HE s e) := rfl
theorem Pi (G : Env) (S : Self) (tm : Trie AV) (s : St) (zs : List AV) (ps : List (Nat × Nat × Opd)) : ql G S (.build zs ps) tm s = ko s (ZB (jo zs tm ps)) := rfl
theorem zus (G : Env) (S : Self) (tm : Trie AV) (s : St) (e : Nat) (zs : List AV) (len : Nat) (ps : List (Nat × Nat × Opd)) : ql G S (.bsl e zs len ps) tm s = Xg s e len (jo zs tm ps) := rfl
theorem zrW (G : Env) (S : Self) (tm : Trie AV) (s : St) (x : Opd) : ql G S (.ld x) tm s = v1 tm s x (vLd G.globs s) := rfl
theorem zuy (G : Env) (S : Self) (tm : Trie AV) (s : St) (n : Nat) (x : Opd) : ql G S (.ldn n x) tm s = v1 tm s x (Ys G.globs s n) := rfl
theorem zr1 (G : Env) (S : Self) (tm : Trie AV) (s : St) (n : Nat) (x : Opd) (v : Opd) : ql G S (.st n x v) tm s = o2 tm x v (oSt s n) := rfl
theorem zuC (G : Env) (S : Self) (tm : Trie AV) (s : St) (x : Opd) : ql G S (.nck x) tm s = v1 tm s x zsL := rfl
theorem zuq (G : Env) (S : Self) (tm : Trie AV) (s : St) (op : BinOp) (x : Opd) (y : Opd) : ql G S (.bin op x y) tm s = v2 tm s x y (zw7 op) := rfl
theorem zuv (G : Env) (S : Self) (tm : Trie AV) (s : St) (k : EqK) (neg : Bool) (x : Opd) (y : Opd) : ql G S (.eqk k neg x y) tm s = v2 tm s x y (zzm k neg) := rfl
theorem zr2 (G : Env) (S : Self) (tm : Trie AV) (s : St) (op : UnOp) (x : Opd) : ql G S (.un op x) tm s = v1 tm s x (vUn op) := rfl
theorem zrR (G : Env) (S : Self) (tm : Trie AV) (s : St) (k : IntKind) (x : Opd) : ql G S (.ci k x) tm s = v1 tm s x (vCi k) := rfl
theorem zuu (G : Env) (S : Self) (tm : Trie AV) (s : St) (e : Nat) (x : Opd) : ql G S (.csb e x) tm s = o1 tm x (UC s e) := rfl
theorem zut (G : Env) (S : Self) (tm : Trie AV) (s : St) (x : Opd) : ql G S (.cbs x) tm s = v1 tm s x (zw8 s) := rfl
theorem zuA (G : Env) (S : Self) (tm : Trie AV) (s : St) (f : Nat) (fst : List Opd) (cap : List Opd) : ql G S (.mfn f fst cap) tm s = vLL tm s fst cap (fun us vs => some (.fn f us vs)) := rfl
theorem zuB (G : Env) (S : Self) (tm : Trie AV) (s : St) (e : Nat) (_x1 : Nat) (bytes : Nat) (zs : List AV) (l : Opd) (c : Opd) : ql G S (.msl e _x1 bytes zs l c) tm s = o2 tm l c (UD s e bytes zs) := rfl
theorem zuD (G : Env) (S : Self) (tm : Trie AV) (s : St) (x : Opd) (lo : Option Opd) (hi : Option Opd) : ql G S (.sls x lo hi) tm s = vs3 tm s x lo hi zva := rfl
theorem zuE (G : Env) (S : Self) (tm : Trie AV) (s : St) (esz : Nat) (x : Opd) (lo : Option Opd) (hi : Option Opd) (mx : Option Opd) : ql G S (.slv esz x lo hi mx) tm s = vs4 tm s x lo hi mx (UK esz) := rfl
theorem zrU (G : Env) (S : Self) (tm : Trie AV) (s : St) (off : Nat) (x : Opd) : ql G S (.fa off x) tm s = v1 tm s x (vFa off) := rfl
theorem zrV (G : Env) (S : Self) (tm : Trie AV) (s : St) (esz : Nat) (x : Opd) (i : Opd) : ql G S (.ia esz x i) tm s = v2 tm s x i (vIa esz) := rfl
theorem zuw (G : Env) (S : Self) (tm : Trie AV) (s : St) (n : Nat) (esz : Nat) (x : Opd) (i : Opd) : ql G S (.iaa n esz x i) tm s = v2 tm s x i (zpb n esz) := rfl
theorem zux (G : Env) (S : Self) (tm : Trie AV) (s : St) (x : Opd) (i : Opd) : ql G S (.ixs x i) tm s = v2 tm s x i zsG := rfl
theorem zr0 (G : Env) (S : Self) (tm : Trie AV) (s : St) (x : Opd) : ql G S (.rs x) tm s = o1 tm x (oRs s) := rfl
theorem zrZ (G : Env) (S : Self) (tm : Trie AV) (s : St) (it : Opd) : ql G S (.ns it) tm s = o1 tm it (oNs s) := rfl
theorem zrT (G : Env) (S : Self) (tm : Trie AV) (s : St) (x : Opd) (i : Nat) : ql G S (.ex x i) tm s = v1 tm s x (fun v => vEx v i) := rfl
theorem zuz (G : Env) (S : Self) (tm : Trie AV) (s : St) (k : LK) (x : Opd) : ql G S (.len k x) tm s = v1 tm s x (Qh s k) := rfl
theorem zup (G : Env) (S : Self) (tm : Trie AV) (s : St) (e : Nat) (esz : Nat) (bytes : Nat) (x : Opd) (y : Opd) : ql G S (.app e esz bytes x y) tm s = o2 tm x y (jg s e esz bytes) := rfl
theorem zrX (G : Env) (S : Self) (tm : Trie AV) (s : St) (xs : List Opd) : ql G S (.mn xs) tm s = vL tm s xs (vMn false) := rfl
theorem zxE (G : Env) (S : Self) (tm : Trie AV) (s : St) (f : Nat) (args : List Opd) : ql G S (.call f args) tm s = GX S f (evL tm args) s := rfl
theorem zrS (G : Env) (S : Self) (tm : Trie AV) (s : St) (x : Opd) (args : List Opd) : ql G S (.cv x args) tm s = Uv S (x.ev tm) (evL tm args) s := rfl
theorem PK (df : List Nat) (tm : Trie AV) (s : St) : vP df (some (tm, s)) = some (.norm, ⟨tm, df⟩, s) := rfl
theorem zzh (k : Fr → St → Option (Res × Fr × St)) (fr : Fr) (s : St) : vS k (some (.norm, fr, s)) = k fr s := rfl
theorem zzg (k : Fr → St → Option (Res × Fr × St)) (i : Nat) (fr : Fr) (s : St) : vS k (some (.exit i, fr, s)) = some (.exit i, fr, s) := rfl
theorem zwQ (k : Fr → St → Option (Res × Fr × St)) (fr : Fr) (s : St) : vS k (some (.ret, fr, s)) = some (.ret, fr, s) := rfl
theorem zzH (a b : Fr → St → Option (Res × Fr × St)) (fr : Fr) (s : St) : ZH (some (.bool true)) a b fr s = a fr s := rfl
theorem zzG (a b : Fr → St → Option (Res × Fr × St)) (fr : Fr) (s : St) : ZH (some (.bool false)) a b fr s = b fr s := rfl
theorem Gs (id : Nat) (p : Fr × St) : jt id (some (.norm, p)) = some (.norm, p) := rfl
theorem Ly (id : Nat) (p : Fr × St) : jt id (some (.ret, p)) = some (.ret, p) := rfl
theorem Wi (id i : Nat) (p : Fr × St) : jt id (some (.exit i, p)) = if i = id then some (.norm, p) else some (.exit i, p) := by
 show (bif za i id then some (Res.norm, p) else some (Res.exit i, p)) = _; by_cases h : i = id
 ·rw [if_pos h, xG.2 h]; rfl
 ·rw [if_neg h]; cases hb : za i id with
  | true => exact absurd (xG.1 hb) h
  | false => rfl
theorem zuj (G : Env) (S : Self) (rd : Option Nat) (fr : Fr) (s : St) : evC G S rd .skip fr s = some (.norm, fr, s) := rfl
theorem zrk (G : Env) (S : Self) (rd : Option Nat) (ops : List SOper) (tm : Trie AV) (df : List Nat) (s : St) : evC G S rd (.reg ops) ⟨tm, df⟩ s = vP df (evS G S ops tm s) := rfl
theorem zui (G : Env) (S : Self) (rd : Option Nat) (ops : List DOper) (fr : Fr) (s : St) : evC G S rd (.regd ops) fr s = Xl G S ops fr s := rfl
theorem zrm (G : Env) (S : Self) (rd : Option Nat) (a b : ICode) (fr : Fr) (s : St) : evC G S rd (.seq a b) fr s = vS (evC G S rd b) (evC G S rd a fr s) := rfl
theorem Vi (G : Env) (S : Self) (rd : Option Nat) (c : Opd) (a b : ICode) (tm : Trie AV) (df : List Nat) (s : St) : evC G S rd (.cond c a b) ⟨tm, df⟩ s = ZH (c.ev tm) (evC G S rd a) (evC G S rd b) ⟨tm, df⟩ s := rfl
theorem zxy (G : Env) (S : Self) (rd : Option Nat) (id : Nat) (b : ICode) (fr : Fr) (s : St) : evC G S rd (.block id b) fr s = jt id (evC G S rd b fr s) := rfl
theorem zug (G : Env) (S : Self) (rd : Option Nat) (id : Nat) (fr : Fr) (s : St) : evC G S rd (.exit id) fr s = some (.exit id, fr, s) := rfl
theorem zrl (G : Env) (S : Self) (rd : Option Nat) (fr : Fr) (s : St) : evC G S rd .ret fr s = some (.ret, fr, s) := rfl
theorem pF (E : Env) (O : Orc) (f : Nat) (a : List AV) (s : St) : (evW E O).call f a s = l8 E O (evW E O) f a s := by
 cases h : l8 E O (evW E O) f a s with
 | some r => exact zuG h
 | none =>
  cases h2 : (evW E O).call f a s with
  | none => rfl
  | some r =>
   obtain ⟨n, hn⟩ := vo (α := AV × St) h2; cases n with
   | zero => cases hn
   | succ n =>
    have h3 : l8 E O (evT E O n) f a s = some r := hn; have h4 : LeS (evT E O n) (evW E O) := ⟨fun f a s r h => uZ (fun n r h => (uL E O n).call _ _ _ _ h) h, fun rd b fr s r h => uZ (fun n r h => (uL E O n).loop _ _ _ _ _ h) h, fun l a s r h => uZ (fun n r h => (uL E O n).round _ _ _ _ h) h⟩; rw [(QX E O f a s).up _ _ h4 r h3] at h; cases h
theorem qC {f : Nat} {g : List AV → St → Option (AV × St)} (h : O f = some g) (E : Env) (a : List AV) (s : St) : (evW E O).call f a s = g a s := by
 rw [pF]; unfold l8; rw [h]
theorem Qj {E : Env} {O : Orc} {f : Nat} {F : IFunc} (h : O f = none) (hF : E.funs.get f = some F) (hp : E.pure f = true) (a : List AV) (l : List (Nat × Option AObj)) (n m : Nat) (b : Bool) (hd : List (Nat × Nat)) (on : Option (Nat × List Nat)) (ha : a.length ≤ F.ntmps) :
  (evW E O).call f a (KL l n m b hd on) = lQ (KL l n m b hd on) (wR E.globs F.res (evC E (evW E O) none F.body ⟨wN (tmL []) 0 a, []⟩ (KL l n 0 true hd on))) := by
 rw [pF]; unfold l8 jj; rw [h, hF]; simp only [wV, xN.2 ha, cond_true, hp]; rfl
theorem Gy {f : Nat} {F : IFunc} (h : O f = none) (hF : E.funs.get f = some F) (hp : E.pure f = false) (a : List AV) (l : List (Nat × Option AObj)) (n m : Nat) (b : Bool) (hd : List (Nat × Nat)) (on : Option (Nat × List Nat)) (ha : a.length ≤ F.ntmps) :
  (evW E O).call f a (KL l n m b hd on) = mdR b (wR E.globs F.res (evC E (evW E O) none F.body ⟨wN (tmL []) 0 a, []⟩ (KL l n m false hd on))) := by
 rw [pF]; unfold l8 jj; rw [h, hF]; simp only [wV, xN.2 ha, cond_true, hp, cond_false]; rfl
theorem ztr (b : Bool) (v : AV) (l : List (Nat × Option AObj)) (n m : Nat) (b' : Bool) (hd : List (Nat × Nat)) (on : Option (Nat × List Nat)) : mdR b (some (v, KL l n m b' hd on)) = some (v, KL l n m b hd on) := rfl
def znN (s t : St) (v : AV) : Option AV → Option (AV × St)
 | some v => some (v, s)
 | none => some (agW v, { t with wm := Nat.lor s.wm t.wm, md := s.md })
theorem zwn (s t : St) (v : AV) : lQ s (some (v, t)) = znN s t v (bif za (wq t.wm s.next) 0 then lH s.next v else none) := rfl
theorem zwm (s t : St) (v u : AV) : znN s t v (some u) = some (u, s) := rfl
theorem Gx (G : List (List AV)) (res : List RV) (tm : Trie AV) (s : St) : wR G res (some (.ret, ⟨tm, []⟩, s)) = Xm G tm s res := rfl
theorem J8 (G : List (List AV)) (res : List RV) (tm : Trie AV) (s : St) : wR G res (some (.norm, ⟨tm, []⟩, s)) = Xm G tm s res := rfl
def zoJ (s : St) : Option (List AV) → Option (AV × St)
 | some vs => some (vQ vs, s)
 | none => none
theorem zqK (G : List (List AV)) (tm : Trie AV) (s : St) (res : List RV) : Xm G tm s res = zoJ s (gb G tm s res) := by
 unfold Xm zoJ; cases gb G tm s res <;> rfl
theorem zwB (s : St) (vs : List AV) : zoJ s (some vs) = some (vQ vs, s) := rfl
theorem PO : vQ [] = .tup [] := rfl
theorem PQ (v : AV) : vQ [v] = v := rfl
theorem PR (v w : AV) (r : List AV) : vQ (v :: w :: r) = .tup (v :: w :: r) := rfl
def ZI (v : Option AV) (l : Option (List AV)) : Option (List AV) :=
 match v, l with
 | some v, some vs => some (v :: vs)
 | _, _ => none
theorem LL (v : AV) (vs : List AV) : ZI (some v) (some vs) = some (v :: vs) := rfl
noncomputable def zow (G : List (List AV)) (s : St) (n : Nat) : Option AV → Option AV
 | some p => Ys G s n p
 | none => none
theorem zx3 (G : List (List AV)) (s : St) (n : Nat) (p : AV) : zow G s n (some p) = Ys G s n p := rfl
theorem zt8 (G : List (List AV)) (tm : Trie AV) (s : St) : gb G tm s [] = some [] := rfl
theorem zoK (G : List (List AV)) (tm : Trie AV) (s : St) (i : Nat) (r : List RV) : gb G tm s (.t i :: r) = ZI (tm.get i) (gb G tm s r) := by
 simp only [gb, ZI]; cases tm.get i <;> cases gb G tm s r <;> rfl
theorem zqL (G : List (List AV)) (tm : Trie AV) (s : St) (a n : Nat) (r : List RV) : gb G tm s (.cn a n :: r) = ZI (zow G s n (tm.get a)) (gb G tm s r) := by
 simp only [gb, ZI]; cases tm.get a with
 | none => cases gb G tm s r <;> rfl
 | some p =>
  simp only [zow, Ys]; cases vH G s p n with
  | none => cases gb G tm s r <;> rfl
  | some l => cases gb G tm s r <;> rfl
theorem UJ (s : St) : w5 s [] = some s := rfl
theorem znM (tm : Trie AV) (i : Nat) : (Opd.t i).ev tm = tm.get i := rfl
theorem znL (tm : Trie AV) (v : AV) : (Opd.c v).ev tm = some v := rfl
theorem zrp (tm : Trie AV) : evL tm [] = some [] := rfl
theorem zum (tm : Trie AV) (x : Opd) (r : List Opd) : evL tm (x :: r) = ZI (x.ev tm) (evL tm r) := rfl
theorem zxC (tm : Trie AV) : evO tm none = some none := rfl
def zsk : Option AV → Option (Option AV)
 | some v => some (some v)
 | none => none
theorem zxD (tm : Trie AV) (x : Opd) : evO tm (some x) = zsk (x.ev tm) := by unfold evO zsk; rfl
theorem zzb (v : AV) : zsk (some v) = some (some v) := rfl
theorem zwC (s : St) (v : AV) : ko s (some v) = some (v, s) := rfl
def b1 (f : AV → Option (AV × St)) : Option AV → Option (AV × St)
 | some v => f v
 | none => none
def b2 (f : AV → AV → Option (AV × St)) : Option AV → Option AV → Option (AV × St)
 | some v, some w => f v w
 | _, _ => none
def b3 (f : AV → AV → AV → Option (AV × St)) : Option AV → Option AV → Option AV → Option (AV × St)
 | some v, some w, some u => f v w u
 | _, _, _ => none
def k1 (s : St) (f : AV → Option AV) : Option AV → Option (AV × St)
 | some v => ko s (f v)
 | none => none
def k2 (s : St) (f : AV → AV → Option AV) : Option AV → Option AV → Option (AV × St)
 | some v, some w => ko s (f v w)
 | _, _ => none
def kL (s : St) (f : List AV → Option AV) : Option (List AV) → Option (AV × St)
 | some v => ko s (f v)
 | none => none
def kLL (s : St) (f : List AV → List AV → Option AV) : Option (List AV) → Option (List AV) → Option (AV × St)
 | some v, some w => ko s (f v w)
 | _, _ => none
def k3 (s : St) (f : AV → Option AV → Option AV → Option AV) : Option AV → Option (Option AV) → Option (Option AV) → Option (AV × St)
 | some v, some l, some h => ko s (f v l h)
 | _, _, _ => none
noncomputable def k4 (tm : Trie AV) (s : St) (x : Opd) (lo hi : Option Opd) (f : AV → Option AV → Option AV → Option AV → Option AV) : Option (Option AV) → Option (AV × St)
 | some m => vs3 tm s x lo hi (fun v l h => f v l h m)
 | none => none
theorem zmm (tm : Trie AV) (s : St) (x : Opd) (f : AV → Option AV) : v1 tm s x f = k1 s f (x.ev tm) := by unfold v1 k1; cases x.ev tm <;> rfl
theorem zmn (tm : Trie AV) (s : St) (x y : Opd) (f : AV → AV → Option AV) : v2 tm s x y f = k2 s f (x.ev tm) (y.ev tm) := by unfold v2 k2; cases x.ev tm <;> cases y.ev tm <;> rfl
theorem zqn (s : St) (f : AV → Option AV) (v : AV) : k1 s f (some v) = ko s (f v) := rfl
theorem zqo (s : St) (f : AV → AV → Option AV) (v w : AV) : k2 s f (some v) (some w) = ko s (f v w) := rfl
theorem zmi (tm : Trie AV) (x : Opd) (f : AV → Option (AV × St)) : o1 tm x f = b1 f (x.ev tm) := by unfold o1 b1; cases x.ev tm <;> rfl
theorem zmj (tm : Trie AV) (x y : Opd) (f : AV → AV → Option (AV × St)) : o2 tm x y f = b2 f (x.ev tm) (y.ev tm) := by unfold o2 b2; cases x.ev tm <;> cases y.ev tm <;> rfl
theorem zmo (tm : Trie AV) (s : St) (l : List Opd) (f : List AV → Option AV) : vL tm s l f = kL s f (evL tm l) := by unfold vL kL; cases evL tm l <;> rfl
theorem znY (tm : Trie AV) (s : St) (l m : List Opd) (f : List AV → List AV → Option AV) : vLL tm s l m f = kLL s f (evL tm l) (evL tm m) := by unfold vLL kLL; cases evL tm l <;> cases evL tm m <;> rfl
theorem zn0 (tm : Trie AV) (s : St) (x : Opd) (lo hi : Option Opd) (f : AV → Option AV → Option AV → Option AV) : vs3 tm s x lo hi f = k3 s f (x.ev tm) (evO tm lo) (evO tm hi) := by unfold vs3 k3; cases x.ev tm <;> cases evO tm lo <;> cases evO tm hi <;> rfl
theorem zn1 (tm : Trie AV) (s : St) (x : Opd) (lo hi mx : Option Opd) (f : AV → Option AV → Option AV → Option AV → Option AV) : vs4 tm s x lo hi mx f = k4 tm s x lo hi f (evO tm mx) := by unfold vs4 k4; cases evO tm mx <;> rfl
theorem zsV (f : AV → Option (AV × St)) (v : AV) : b1 f (some v) = f v := rfl
theorem zsW (f : AV → AV → Option (AV × St)) (v w : AV) : b2 f (some v) (some w) = f v w := rfl
theorem zqr (s : St) (f : List AV → Option AV) (l : List AV) : kL s f (some l) = ko s (f l) := rfl
theorem zti (s : St) (f : List AV → List AV → Option AV) (l m : List AV) : kLL s f (some l) (some m) = ko s (f l m) := rfl
theorem zqp (s : St) (f : AV → Option AV → Option AV → Option AV) (v : AV) (l h : Option AV) : k3 s f (some v) (some l) (some h) = ko s (f v l h) := rfl
theorem zqq (tm : Trie AV) (s : St) (x : Opd) (lo hi : Option Opd) (f : AV → Option AV → Option AV → Option AV → Option AV) (m : Option AV) : k4 tm s x lo hi f (some m) = vs3 tm s x lo hi (fun v l h => f v l h m) := rfl
theorem zxz (S : Self) (f : Nat) (vs : List AV) (s : St) : GX S f (some vs) s = S.call f vs s := rfl
theorem zrn (S : Self) (f : Nat) (a c : List AV) (vs : List AV) (s : St) : Uv S (some (.fn f a c)) (some vs) s = S.call f (a ++ vs ++ c) s := rfl
theorem zpg (a b : Option AV) : JU (some (.bool true)) a b = a := rfl
theorem zpf (a b : Option AV) : JU (some (.bool false)) a b = b := rfl
theorem zpe (x y z : Bool) : JU (some (.bool x)) (some (.bool y)) (some (.bool z)) = some (.bool (bif x then y else z)) := by cases x <;> rfl
theorem zq9 (off id o : Nat) : vFa off (.ptr id o) = some (.ptr id (o + off)) := rfl
theorem zo0 (off : Nat) (cs : List AV) : vFa off (.vp cs) = some (.vp (wP off cs)) := rfl
theorem zsM (i o : Nat) : zsL (.ptr i o) = some (.ptr i o) := rfl
theorem zqw (s : St) (e : Nat) (v : AV) : HE s e v = some (.ptr s.next 0, s.alloc (.row e v.cells false false)) := rfl
theorem zwe (s : St) (e : Nat) (zs : List AV) : pS s e zs = some (.ptr s.next 0, s.alloc (.row e zs false false)) := rfl
theorem zy0 (cs : List AV) : (AV.agg cs).cells = cs := rfl
theorem zy1 (k : IntKind) (n : Int) : (AV.int k n).cells = [.int k n] := rfl
theorem zy4 (s : List Nat) : (AV.str s).cells = [.str s] := rfl
theorem zy2 (n : Nat) (e : Bool) (l : List AV) : (AV.lst n e l).cells = [.lst n e l] := rfl
theorem zy3 (i o : Nat) : (AV.ptr i o).cells = [.ptr i o] := rfl
theorem zvQ (i o n : Nat) (c : Cap) : (AV.sl i o n c).cells = [.sl i o n c] := rfl
theorem zsK (s : St) (t : List Nat) : Qh s .s (.str t) = some (.int .i64 (.ofNat t.length)) := by rw [← wV]; rfl
theorem zw9 (s : St) : Qh s .v .nils = some (.int .i64 (.ofNat 0)) := rfl
theorem zsJ (s : St) (n : Nat) (e : Bool) (l : List AV) : Qh s .v (.lst n e l) = some (.int .i64 (.ofNat n)) := rfl
theorem zpc (s : St) (i e n : Nat) (l : List AV) : Qh s .v (.gr i e n l) = some (.int .i64 (.ofNat n)) := rfl
theorem zpd (s : St) (i o n : Nat) (c : Cap) : Qh s .v (.sl i o n c) = some (.int .i64 (.ofNat n)) := rfl
theorem zph (b : Bool) : vUn .not (.bool b) = some (.bool (!b)) := rfl
theorem zsE (op : BinOp) (k k' : IntKind) (a b : Int) : zw7 op (.int k a) (.int k' b) = ji op k a k' b := rfl
theorem zsF (op : BinOp) (a b : List Nat) : zw7 op (.str a) (.str b) = zyM op a b := rfl
def eqD (a b : Int) : Bool := decide (a = b)
def ltD (a b : Int) : Bool := decide (a < b)
theorem zvy (k : IntKind) (a b : Int) : ji .eql k a k b = some (.bool (eqD a b)) := by
 have : vX k k = true := by cases k <;> rfl
 simp only [ji, this, cond_true, kK, eqD]; by_cases h : a = b <;> simp [h]
theorem zvE (k : IntKind) (a b : Int) : ji .neq k a k b = some (.bool (!eqD a b)) := by
 have : vX k k = true := by cases k <;> rfl
 simp only [ji, this, cond_true, kK, eqD]; by_cases h : a = b <;> simp [h]
theorem zvC (k : IntKind) (a b : Int) : ji .lss k a k b = some (.bool (ltD a b)) := by
 have : vX k k = true := by cases k <;> rfl
 simp only [ji, this, cond_true, j8, ltD]
theorem zvB (k : IntKind) (a b : Int) : ji .leq k a k b = some (.bool (!ltD b a)) := by
 have : vX k k = true := by cases k <;> rfl
 simp only [ji, this, cond_true, j8, ltD]
theorem zvA (k : IntKind) (a b : Int) : ji .gtr k a k b = some (.bool (ltD b a)) := by
 have : vX k k = true := by cases k <;> rfl
 simp only [ji, this, cond_true, j8, ltD]
theorem zvz (k : IntKind) (a b : Int) : ji .geq k a k b = some (.bool (!ltD a b)) := by
 have : vX k k = true := by cases k <;> rfl
 simp only [ji, this, cond_true, j8, ltD]
theorem zrf (a b : Nat) : eqD (.ofNat a) (.ofNat b) = decide (a = b) := by
 unfold eqD; by_cases h : a = b
 ·subst h; simp
 ·simp only [h, decide_false, decide_eq_false_iff_not]; intro e; cases e; exact h rfl
theorem lN (a b : Nat) : ltD (.ofNat a) (.ofNat b) = decide (a < b) := by
 unfold ltD; by_cases h : a < b <;> simp [h]
theorem Hs (a b : Nat) : ltD (.negSucc a) (.ofNat b) = true := by
 have : (Int.negSucc a) < 0 := Int.negSucc_lt_zero a; have h2 : (0 : Int) ≤ Int.ofNat b := Int.natCast_nonneg b; unfold ltD; exact decide_eq_true oM
theorem znj {a b : Int} (h : a = b) : eqD a b = true := decide_eq_true h
theorem XA (k : IntKind) {a : Nat} (h : a < Uk k) : qV k (.ofNat a) = .ofNat a := by
 show (bif zd a (Uk k) then Int.ofNat a else _) = _; rw [wb.2 h]; rfl
theorem zme (a b : Nat) : Int.add (.ofNat a) (.ofNat b) = .ofNat (a + b) := rfl
theorem PI (a b : Nat) : Int.mul (.ofNat a) (.ofNat b) = .ofNat (a * b) := rfl
theorem zwN {a b : Nat} (h : b ≤ a) : Int.sub (.ofNat a) (.ofNat b) = .ofNat (a - b) := by
 show (a : Int) - (b : Int) = ((a - b : Nat) : Int); omega
theorem zvx (k : IntKind) (a b : Int) : ji .add k a k b = some (.int k (qV k (Int.add a b))) := by
 have : vX k k = true := by cases k <;> rfl
 simp only [ji, this, cond_true]
theorem zvF (k : IntKind) (a b : Int) : ji .sub k a k b = some (.int k (qV k (Int.sub a b))) := by
 have : vX k k = true := by cases k <;> rfl
 simp only [ji, this, cond_true]
theorem zvD (k : IntKind) (a b : Int) : ji .mul k a k b = some (.int k (qV k (Int.mul a b))) := by
 have : vX k k = true := by cases k <;> rfl
 simp only [ji, this, cond_true]
theorem zsv : Uk .i64 = 9223372036854775808 := rfl
theorem Yw {a : Nat} (h : a < 9223372036854775808) : qV .i64 (.ofNat a) = .ofNat a := XA .i64 h
theorem zo6 {a : Nat} (h : a < 2147483648) : qV .i32 (.ofNat a) = .ofNat a := XA .i32 h
theorem zo7 {a : Nat} (h : a < 256) : qV .u8 (.ofNat a) = .ofNat a := XA .u8 h
theorem zq7 (k k' : IntKind) (a : Int) : vCi k (.int k' a) = some (.int k (qV k a)) := rfl
theorem zvG (a b : List Nat) : zyM .eql a b = some (.bool (decide (a = b))) := by
 show some (AV.bool (eqS a b)) = _; rw [Z2]; by_cases h : a = b <;> simp [h]
theorem zvH (a b : List Nat) : zyM .neq a b = some (.bool (!decide (a = b))) := by
 show some (AV.bool (!eqS a b)) = _; rw [Z2]; by_cases h : a = b <;> simp [h]
theorem Pu (v : AV) (l : List AV) : hY (v :: l) = some v := rfl
theorem zq8 (vs : List AV) (i : Nat) : vEx (.tup vs) i = hY (wP i vs) := rfl
theorem Ze (l : List AV) : ZB (some l) = some (.agg l) := rfl
theorem Kl (l : List AV) (off n : Nat) : cut l off n = wC n (wP off l) := rfl
theorem zqi (k : IntKind) (a n : Nat) : idx (.int k (.ofNat a)) n = if a < n then some a else none := by
 show (bif zd a n then some a else none) = _; by_cases h : a < n
 ·rw [if_pos h, wb.2 h]; rfl
 ·rw [if_neg h]; cases hb : zd a n with
  | true => exact absurd (wb.1 hb) h
  | false => rfl
def vpK (cs : List AV) (esz : Nat) : Option Nat → Option AV
 | some k => some (.vp (wP (k * esz) cs))
 | none => none
theorem zsN (cs : List AV) (esz k : Nat) : vpK cs esz (some k) = some (.vp (wP (k * esz) cs)) := rfl
theorem zpa (esz n : Nat) (e : Bool) (cs : List AV) (i : AV) : vIa esz (.lst n e cs) i = vpK cs esz (idx i n) := by
 simp only [vIa, vpK]; generalize idx i n = x; cases x <;> rfl
def ptK (id off esz : Nat) : Option Nat → Option AV
 | some k => some (.ptr id (off + k * esz))
 | none => none
theorem ztY (id off esz k : Nat) : ptK id off esz (some k) = some (.ptr id (off + k * esz)) := rfl
theorem zo1 (esz id off len : Nat) (c : Cap) (i : AV) : vIa esz (.sl id off len c) i = ptK id off esz (idx i len) := by
 simp only [vIa, ptK]; generalize idx i len = x; cases x <;> rfl
theorem Lz (b : Nat) : Gv (some b) = some (.int .u8 (.ofNat b)) := rfl
theorem zsH (t : List Nat) (k : IntKind) (i : Nat) : zsG (.str t) (.int k (.ofNat i)) = Gv (Pt t i) := rfl
def zqN : Option AObj → Option (List AV)
 | some (.row _ cs _ _) => some cs
 | some (.giv cs) => some cs
 | _ => none
theorem pW (e : Nat) (cs : List AV) (x fz : Bool) : zqN (some (.row e cs x fz)) = some cs := rfl
def zs6 (off n : Nat) : Option (List AV) → Option (List AV)
 | some cs => cut cs off n
 | none => none
theorem gZ (off n : Nat) (cs : List AV) : zs6 off n (some cs) = wC n (wP off cs) := rfl
def ztb : Option (List AV) → Option AV
 | some l => hY l
 | none => none
theorem Vy (l : List AV) : ztb (some l) = hY l := rfl
theorem Jt (G : List (List AV)) (s : St) (id off n : Nat) : vH G s (.ptr id off) n = zs6 off n (zqN (s.get id)) := by
 unfold vH; simp only; cases s.get id with
 | none => rfl
 | some o => cases o <;> rfl
theorem Hq (G : List (List AV)) (s : St) (cs : List AV) (n : Nat) : vH G s (.vp cs) n = wC n cs := rfl
theorem zyB (G : List (List AV)) (s : St) (id off : Nat) : vLd G s (.ptr id off) = ztb (zs6 off 1 (zqN (s.get id))) := by
 rw [← Jt G]; unfold vLd; cases vH G s (.ptr id off) 1 <;> rfl
theorem zsI (G : List (List AV)) (s : St) (cs : List AV) : vLd G s (.vp cs) = ztb (wC 1 cs) := by
 rw [← Hq G s]; unfold vLd; cases vH G s (.vp cs) 1 <;> rfl
theorem Xw (G : List (List AV)) (s : St) (n id off : Nat) : Ys G s n (.ptr id off) = ZB (zs6 off n (zqN (s.get id))) := by
 rw [← Jt G]; unfold Ys; cases vH G s (.ptr id off) n <;> rfl
theorem Qo (G : List (List AV)) (s : St) (n : Nat) (cs : List AV) : Ys G s n (.vp cs) = ZB (wC n cs) := by
 rw [← Hq G s]; unfold Ys; cases vH G s (.vp cs) n <;> rfl
noncomputable def zoF (s : St) (id e : Nat) (x : Bool) : Option (List AV) → Option (AV × St)
 | some cs => some (qz, s.put id (.row e cs x false))
 | none => none
theorem zwq (s : St) (id e : Nat) (x : Bool) (cs : List AV) : zoF s id e x (some cs) = some (qz, s.put id (.row e cs x false)) := rfl
noncomputable def stO (s : St) (id off n : Nat) (w : AV) : Option AObj → Option (AV × St)
 | some (.row e cs x false) => bif (za (wZ w.cells) n && xT w.cells) then zoF s id e x (vr cs off w.cells) else none
 | _ => none
theorem zqV (s : St) (id off n : Nat) (w : AV) (e : Nat) (cs : List AV) (x : Bool) : stO s id off n w (some (.row e cs x false)) = (bif (za (wZ w.cells) n && xT w.cells) then zoF s id e x (vr cs off w.cells) else none) := rfl
theorem zqC (s : St) (n id off : Nat) (w : AV) : oSt s n (.ptr id off) w = stO s id off n w (s.get id) := by
 unfold oSt uQ; simp only; cases s.get id with
 | none => cases za (wZ w.cells) n <;> rfl
 | some o =>
  cases o <;> first | (cases za (wZ w.cells) n <;> rfl) | skip
  rename_i e cs x fz
  cases fz
  ·simp only [stO]; cases za (wZ w.cells) n <;> cases xT w.cells <;> simp only [Bool.false_or, Bool.not_true, Bool.not_false, cond_true, cond_false, Bool.and_true, Bool.and_false, Bool.true_and, Bool.false_and]
   cases vr cs off w.cells <;> rfl
  ·cases za (wZ w.cells) n <;> rfl
theorem zpt (a b : Nat) : ze a b = decide (a ≤ b) := by
 cases h : ze a b with
 | true => exact (decide_eq_true (xN.1 h)).symm
 | false => exact (decide_eq_false (fun e => by rw [xN.2 e] at h; cases h)).symm
theorem znf (a b : Nat) : zd a b = decide (a < b) := by
 cases h : zd a b with
 | true => exact (decide_eq_true (wb.1 h)).symm
 | false => exact (decide_eq_false (fun e => by rw [wb.2 e] at h; cases h)).symm
theorem zne (a b : Nat) : za a b = decide (a = b) := by
 cases h : za a b with
 | true => exact (decide_eq_true (xG.1 h)).symm
 | false => exact (decide_eq_false (fun e => by rw [xG.2 e] at h; cases h)).symm
mutual
theorem Ji (n0 : Nat) : ∀ {v : AV}, x0 v = true → lG n0 v = some v
 | .bool _, _ => rfl
 | .int _ _, _ => rfl
 | .str _, _ => rfl
 | .nilp, _ => rfl
 | .gptr _ _, _ => rfl
 | .sl0, _ => rfl
 | .nils, _ => rfl
 | .nilm, _ => rfl
 | .nilf, _ => rfl
 | .nili, _ => rfl
 | .lst _ _ _, _ => rfl
 | .vp _, _ => rfl
 | .ifc _ v, h => by simp only [lG, h, cond_true]
 | .fn _ a c, h => by simp only [lG, h, cond_true]
 | .agg cs, h => by simp only [lG, h, cond_true]
 | .tup vs, h => by simp only [lG, h, cond_true]
 | .ptr _ _, h => by simp [x0] at h
 | .sl _ _ _ _, h => by simp [x0] at h
 | .map _, h => by simp [x0] at h
 | .yld _, h => by simp [x0] at h
 | .gr _ _ _ _, h => by simp [x0] at h
end
theorem Jk (n0 : Nat) : ∀ {l : List AV}, xK l = true → XU n0 l = some l
 | [], _ => rfl
 | v :: r, h => by
  simp only [xK, Bool.and_eq_true] at h; simp only [XU, Ji n0 h.1, Jk n0 h.2]
theorem Jj (n0 : Nat) (h : x0 v = true) : Y4 n0 v = some v := by
 cases v <;> first | exact Ji n0 h | skip
 rename_i cs
 simp only [x0] at h; simp only [Y4, Jk n0 h]
theorem Jl (n0 : Nat) : ∀ {l : List AV}, xK l = true → pg n0 l = some l
 | [], _ => rfl
 | v :: r, h => by
  simp only [xK, Bool.and_eq_true] at h; simp only [pg, Jj n0 h.1, Jl n0 h.2]
theorem zxN (n0 : Nat) (h : x0 v = true) : lH n0 v = some v := by
 cases v <;> first | exact Jj n0 h | skip
 rename_i cs
 simp only [x0] at h; simp only [lH, Jl n0 h]
def zoW : Option (List AV) → Option AV
 | some l => some (.tup l)
 | none => none
theorem zw2 (l : List AV) : zoW (some l) = some (.tup l) := rfl
theorem zuU (n0 : Nat) (vs : List AV) : lH n0 (.tup vs) = zoW (pg n0 vs) := by simp only [lH, zoW]; cases pg n0 vs <;> rfl
theorem zuW (n0 : Nat) : pg n0 [] = some [] := rfl
theorem zxP (n0 : Nat) (v : AV) (r : List AV) : pg n0 (v :: r) = ZI (Y4 n0 v) (pg n0 r) := by
 simp only [pg, ZI]; cases Y4 n0 v <;> cases pg n0 r <;> rfl
theorem zuV (n0 : Nat) : XU n0 [] = some [] := rfl
theorem zxO (n0 : Nat) (v : AV) (r : List AV) : XU n0 (v :: r) = ZI (lG n0 v) (XU n0 r) := by
 simp only [XU, ZI]; cases lG n0 v <;> cases XU n0 r <;> rfl
theorem zr6 (n0 id e n : Nat) (cs : List AV) : lG n0 (.gr id e n cs) = if n0 ≤ id then some (.lst n false cs) else some (.gr id e n cs) := by
 simp only [lG, zpt]; by_cases h : n0 ≤ id <;> simp [h]
theorem zr7 (n0 id e n : Nat) (cs : List AV) : Y4 n0 (.gr id e n cs) = if n0 ≤ id then some (.lst n false cs) else some (.gr id e n cs) := zr6 n0 id e n cs
theorem zuS (n0 : Nat) (cs : List AV) : Y4 n0 (.agg cs) = ZB (XU n0 cs) := rfl
theorem LC : x6 [] = [] := rfl
theorem Gw (b : Nat) (r : List Nat) : x6 (b :: r) = .int .u8 (.ofNat b) :: x6 r := rfl
theorem py : ∀ (n : Nat) (l : List Nat), wP n (x6 l) = x6 (l.drop n)
 | 0, l => rfl
 | n + 1, [] => rfl
 | n + 1, b :: r => by simp only [x6, wP, xg]; exact py n r
theorem Wa : ∀ (n : Nat) (l : List Nat), tkN n (x6 l) = x6 (l.take n)
 | 0, l => by simp [tkN, x6]
 | n + 1, [] => rfl
 | n + 1, b :: r => by simp only [x6, tkN, xc]; rw [Wa n r]
theorem WT : ∀ {n : Nat} {l : List Nat}, n ≤ l.length → wC n (x6 l) = some (x6 (l.take n))
 | 0, l, _ => by simp [wC, x6]
 | n + 1, [], h => by simp at h
 | n + 1, b :: r, h => by simp only [x6, wC, WT (n := n) (l := r) (by simpa using h), xc]
theorem ZT : ∀ {l : List Nat}, (∀ b ∈ l, b < 256) → ur (x6 l) = some l
 | [], _ => rfl
 | b :: r, h => by
  simp only [x6, ur, ZT (l := r) (fun x hx => h x (by simp [hx])), wb.2 (h b (by simp)), cond_true]
theorem zoy (a b : Nat) : Nat.lor a b = a ||| b := rfl
theorem zt4 (ρ : Nat → Option Nat) (k : IntKind) (n : Int) : vI ρ (.int k n) = some (.int k n) := by simp only [vI]
theorem zwy (ρ : Nat → Option Nat) (b : Bool) : vI ρ (.bool b) = some (.bool b) := by simp only [vI]
theorem zt7 (ρ : Nat → Option Nat) (s : List Nat) : vI ρ (.str s) = some (.str s) := by simp only [vI]
theorem zwz (ρ : Nat → Option Nat) : vI ρ .nils = some .nils := by simp only [vI]
theorem zt5 (ρ : Nat → Option Nat) (n : Nat) (e : Bool) (l : List AV) : vI ρ (.lst n e l) = some (.lst n e l) := by simp only [vI]
def jS (f : Nat → AV) : Option Nat → Option AV
 | some j => some (f j)
 | none => none
theorem zql (f : Nat → AV) (j : Nat) : jS f (some j) = some (f j) := rfl
theorem zt6 (ρ : Nat → Option Nat) (i o : Nat) : vI ρ (.ptr i o) = jS (fun j => .ptr j o) (ρ i) := by simp only [vI]; cases ρ i <;> rfl
theorem zqJ (ρ : Nat → Option Nat) (i e n : Nat) (l : List AV) : vI ρ (.gr i e n l) = jS (fun j => .gr j e n l) (ρ i) := by simp only [vI]; cases ρ i <;> rfl
def fnO (f : Nat) : Option (List AV) → Option (List AV) → Option AV
 | some a, some c => some (.fn f a c)
 | _, _ => none
theorem zuN (f : Nat) (a c : List AV) : fnO f (some a) (some c) = some (.fn f a c) := rfl
theorem zqI (ρ : Nat → Option Nat) (f : Nat) (a c : List AV) : vI ρ (.fn f a c) = fnO f (pV ρ (xK a) a) (pV ρ (xK c) c) := by
 simp only [vI]; cases pV ρ (xK a) a <;> cases pV ρ (xK c) c <;> rfl
theorem zoH (ρ : Nat → Option Nat) (l : List AV) : pV ρ true l = some l := by simp only [pV, cond_true]
theorem u7 (b : Bool) : x0 (.bool b) = true := rfl
theorem qx (k : IntKind) (n : Int) : x0 (.int k n) = true := rfl
theorem kC (s : List Nat) : x0 (.str s) = true := rfl
theorem P1 : x0 .nilp = true := rfl
theorem PW (g o : Nat) : x0 (.gptr g o) = true := rfl
theorem zwp : x0 .sl0 = true := rfl
theorem VV : x0 .nils = true := rfl
theorem PZ : x0 .nilm = true := rfl
theorem PX : x0 .nilf = true := rfl
theorem PY : x0 .nili = true := rfl
theorem ww (n : Nat) (e : Bool) (l : List AV) : x0 (.lst n e l) = true := rfl
theorem ztZ (l : List AV) : x0 (.vp l) = true := rfl
theorem zwo (t : Nat) (v : AV) : x0 (.ifc t v) = x0 v := rfl
theorem Xk (f : Nat) (a c : List AV) : x0 (.fn f a c) = (xK a && xK c) := rfl
theorem jb (l : List AV) : x0 (.agg l) = xK l := rfl
theorem vx (l : List AV) : x0 (.tup l) = xK l := rfl
theorem xU : xK [] = true := rfl
theorem xP (v : AV) (r : List AV) : xK (v :: r) = (x0 v && xK r) := rfl
theorem zuP (n0 : Nat) (k : IntKind) (n : Int) : lG n0 (.int k n) = some (.int k n) := rfl
theorem zuR (n0 : Nat) (s : List Nat) : lG n0 (.str s) = some (.str s) := rfl
theorem zuQ (n0 : Nat) (n : Nat) (e : Bool) (l : List AV) : lG n0 (.lst n e l) = some (.lst n e l) := rfl
theorem zuT (n0 : Nat) (k : IntKind) (n : Int) : Y4 n0 (.int k n) = some (.int k n) := rfl
theorem uV {C : Cx} {ib : ICode} {Q : Res → Fr → St → Prop} {α : Type} (m : α → Nat) (fr : α → Fr) (st : α → St) (I : α → Prop)
  (step : ∀ x, I x → Tri C ib (fr x) (st x) (wo (fun f t => ∃ y, I y ∧ m y < m x ∧ Gc C f t (fr y) (st y)) Q)) : ∀ x, I x → JX C ib (fr x) (st x) Q := by
 have key : ∀ n x, m x < n → I x → JX C ib (fr x) (st x) Q := by
  intro n
  induction n with
  | zero => intro x h; omega
  | succ n ih =>
   intro x hx hI; refine vy ((step x hI).mono fun r f t => ?_); cases r with
   | norm =>
    rintro ⟨y, h1, h2, h3⟩
    exact zyz h3 (ih y oM h1)
   | exit i => exact fun h => h
   | ret => exact fun h => h
 exact fun x hI => key (m x + 1) x oM hI
theorem ZA : ∀ l : List Nat, wkL (x6 l) = x6 l
 | [] => rfl
 | b :: r => by simp only [x6, wkL, wkV, ZA r]
theorem ZY : ∀ {a b : List Nat}, x6 a = x6 b → a = b
 | [], [], _ => rfl
 | [], _ :: _, h => by simp [x6] at h
 | _ :: _, [], h => by simp [x6] at h
 | x :: a, y :: b, h => by
  simp only [x6, xe, AV.int.injEq, true_and] at h; obtain ⟨h1, h2⟩ := h; have : x = y := by cases h1; rfl
  rw [this, ZY h2]
structure Is (C : Cx) (E : Env) (O : Orc) (c : St) (M : Nat) : Prop where
 ok : CxOk C
 e : C.E = E
 o : C.O = O
 rd : C.rd = none
 s : C.s = c
 m : C.M = M
section
variable {C : Cx} {E : Env} {O : Orc} {c : St} {M : Nat} {ic : ICode} {fr fr' fr1 : Fr} {s s' s1 : St} {Q : Res → Fr → St → Prop} {res : Res}
theorem Is.eval (k : Is C E O c M) (h : evC E (evW E O) none ic fr s = some (res, fr', s')) (q : Q res fr' s') : Tri C ic fr s Q :=
 zsD k.ok (by rw [k.e, k.o, k.rd]; exact h) q
theorem Is.ev (k : Is C E O c M) (h : ∃ r, evC E (evW E O) none ic fr s = some r ∧ Q r.1 r.2.1 r.2.2) : Tri C ic fr s Q := by
 obtain ⟨⟨res, fr', s'⟩, h1, h2⟩ := h; exact k.eval h1 h2
theorem Is.gcs (k : Is C E O c M) {keep live : List Nat} {md : Bool} (h : gcF false c M keep live md fr s = some (fr1, s1)) : Gc C fr s fr1 s1 :=
 zu3 k.ok (wk := false) (keep := keep) (live := live) (md := md) (by rw [k.s, k.m]; exact h)
theorem Is.gc (k : Is C E O c M) (keep live : List Nat) (md : Bool) (h : gcF false c M keep live md fr s = some (fr1, s1)) (t : Tri C ic fr1 s1 Q) : Tri C ic fr s Q := Gg (k.gcs h) t
theorem Is.gcL (k : Is C E O c M) (keep live : List Nat) (md : Bool) (h : gcF false c M keep live md fr s = some (fr1, s1)) (t : JX C ic fr1 s1 Q) : JX C ic fr s Q := zyz (k.gcs h) t
end
def Cut (C : Cx) (fr1 : Fr) (s1 : St) (Q : Res → Fr → St → Prop) : Res → Fr → St → Prop
 | .norm, f, t => Gc C f t fr1 s1
 | r, f, t => Q r f t
theorem Xu {C : Cx} {ia ib : ICode} {fr : Fr} {Q : Res → Fr → St → Prop} (fr1 : Fr) (s1 : St) (h1 : Tri C ia fr s (Cut C fr1 s1 Q)) (h2 : Tri C ib fr1 s1 Q) : Tri C (.seq ia ib) fr s Q :=
 v6 (h1.mono fun r f t => by
  cases r with
  | norm => exact fun h => Gg h h2
  | exit i => exact fun h => h
  | ret => exact fun h => h)
theorem Is.sc (hO : OrcOk P w0 O) (hm : P.follows .mixedOrders = true) (hG : xV E.globs w0) (hE : gm P E) {f : Nat} {F : IFunc} {args : List AV} {os : List (Option AObj)} {b : Bool} {c' : St} (M : Nat)
  (hF : E.funs.get f = some F) (hle : args.length ≤ F.ntmps) (hM : ∀ i, M.testBit i = true → ∃ o, jh os i = some o ∧ vB o = false)
  (h : ∀ C : Cx, Is C E O (H os 0 b) M → Tri C F.body { tm := wN (tmL []) 0 args, df := [] } (H os 0 b) (Fin E (H os 0 b) M F.res v c')) : SC P w0 f args (H os 0 b) v c' :=
 P8 hO hm hG hE M hF hle rfl rfl rfl (fun i hi => by
  obtain ⟨o, h1, h2⟩ := hM i hi; exact ⟨zzT h1, o, by rw [Qt]; exact h1, h2⟩) fun C ok h1 h2 h3 h4 h5 => h C ⟨ok, h1, h2, h3, h4, h5⟩
theorem XQ {c : St} {M : Nat} {res : List RV} {c' : St} {r : Res} {fr : Fr} {s2 : St} {vs : List AV} {v0 : AV} (h0 : r = .norm ∨ r = .ret) (h1 : w5 s fr.df = some s2) (h2 : gb E.globs fr.tm s2 res = some vs) (h3 : lH c.next (vQ vs) = some v0) (h4 : wkV v0 = v) (h5 : gcF true c M [] [] c.md { tm := tmL [], df := [] } s2 = some ({ tm := tmL [], df := [] }, c')) : Fin E c M res v c' r fr s :=
 ⟨h0, s2, vs, v0, _, h1, h2, h3, h4.symm, h5⟩
theorem lf {os : List (Option AObj)} : ∀ i, (0 : Nat).testBit i = true → ∃ o, jh os i = some o ∧ vB o = false := fun i h => by simp at h
theorem znv {os : List (Option AObj)} (hg : vB o = false) : ∀ i, (1 : Nat).testBit i = true → ∃ o', jh (some o :: os) i = some o' ∧ vB o' = false := fun i h => by
 cases i with
 | zero => exact ⟨o, rfl, hg⟩
 | succ i => rw [Nat.testBit_succ] at h; simp at h
def Byt (l : List Nat) : Prop := ∀ x ∈ l, x < 256
theorem Byt.drop {l : List Nat} (h : Byt l) (n : Nat) : Byt (l.drop n) := fun x hx => h x (List.mem_of_mem_drop hx)
theorem Byt.take {l : List Nat} (h : Byt l) (n : Nat) : Byt (l.take n) := fun x hx => h x (List.mem_of_mem_take hx)
theorem Byt.cons {c : Nat} {l : List Nat} (h : Byt (c :: l)) : c < 256 ∧ Byt l := ⟨h c (by simp), fun x hx => h x (by simp [hx])⟩
theorem zwJ {e : Bool} {k k' : IntKind} {lo hi : Nat} (h1 : lo ≤ hi) (h2 : hi ≤ b.length) : UK 1 (.lst b.length e (x6 b)) (some (.int k (.ofNat lo))) (some (.int k' (.ofNat hi))) none = some (.lst (hi - lo) (e && Nat.beq hi b.length) (x6 ((b.drop lo).take (hi - lo)))) := by
 simp only [UK, zzo, bnd, xN.2 h1, xN.2 h2, cond_true]; show some (AV.lst (hi - lo) _ (tkN ((hi - lo) * 1) (wP (lo * 1) (x6 b)))) = _; rw [xd, xd, py, Wa]
theorem Ge {e : Bool} {k : IntKind} {lo : Nat} (h1 : lo ≤ b.length) : UK 1 (.lst b.length e (x6 b)) (some (.int k (.ofNat lo))) none none = some (.lst (b.length - lo) (e && Nat.beq b.length b.length) (x6 (b.drop lo))) := by
 simp only [UK, zzo, bnd, xN.2 h1, cond_true]; show some (AV.lst (b.length - lo) _ (tkN ((b.length - lo) * 1) (wP (lo * 1) (x6 b)))) = _; rw [xd, xd, py, Wa, zG (by simp)]
theorem zyT {e : Bool} {l : List Nat} (hn : l.length = n) (hb : Byt l) : zw8 s (.lst n e (x6 l)) = some (.str l) := by
 subst hn; simp only [zw8, WT (Nat.le_refl _), List.take_length, vF, ZT hb, Xx]
theorem zp0 {t : List Nat} (h : t.length < 9223372036854775808) (l : List (Nat × Option AObj)) (n m : Nat) (hd : List (Nat × Nat)) (on : Option (Nat × List Nat)) (e : Nat) : UC (KL l n m true hd on) e (.str t) = some (.lst t.length false (x6 t), KL l n m true hd on) := by
 simp only [UC, wV, wb.2 h, cond_true, UL]
theorem Zf : xT [] = true := rfl
theorem kr (v : AV) (r : List AV) : xT (v :: r) = (scal v && xT r) := by simp only [xT]; cases scal v <;> rfl
theorem V7 (k : IntKind) (n : Int) : scal (.int k n) = true := by simp only [scal]
theorem V8 (s : List Nat) : scal (.str s) = true := by simp only [scal]
theorem zwF (b : Bool) : scal (.bool b) = true := by simp only [scal]
theorem zsg (n : Nat) (e : Bool) (l : List AV) : scal (.lst n e l) = true := by simp only [scal]
theorem zqR (i e n : Nat) (l : List AV) : scal (.gr i e n l) = true := by simp only [scal]
theorem JI : scal .nils = true := by simp only [scal]
theorem zsi (i o : Nat) : scal (.ptr i o) = true := by simp only [scal]
theorem zsh (i : Nat) : scal (.map i) = true := by simp only [scal]
theorem zra {a b : Nat} (h : a < b) : decide (a < b) = true := decide_eq_true h
theorem zs9 {a b : Nat} (h : b ≤ a) : decide (a < b) = false := decide_eq_false oM
theorem zs8 {a b : Nat} (h : b < a) : decide (a ≤ b) = false := decide_eq_false oM
theorem Ya (k : IntKind) {a : Nat} (h : a < n) : idx (.int k (.ofNat a)) n = some a := by rw [zqi, if_pos h]
theorem uh {l : List AV} (h : l.length = n) : wC n l = some l := by
 subst h
 induction l with
 | nil => rfl
 | cons v r ih => simp only [y8, wC, ih]
theorem lW (n : Nat) (e : Bool) (cs : List AV) : uO (.lst n e cs) = some n := rfl
theorem zyJ (l : List (Nat × Option AObj)) (n m : Nat) (hd : List (Nat × Nat)) (on : Option (Nat × List Nat)) (t esz bytes : Nat) (e : Bool) (cs : List AV) (hl : cs.length = esz) (h1 : 1 ≤ esz) (hb : 2 * bytes ≤ 281474976710656) (hp : xK cs = true) :
  jg (KL l n m true hd on) t esz bytes .nils (.lst 1 e cs) = some (.gr n esz 1 cs, KL ((n, some (.app t cs)) :: l) (n + 1) m true hd on) := by
 have h2 : wC (zb 1 esz) cs = some cs := uh (by rw [hl]; show esz = 1 * esz; omega)
 simp only [jg, lW, w6, h2, ZW, UL, hp, xb, cond_true, hW]; rw [show ze (zb (zb 2 1) bytes) 281474976710656 = true from xN.2 (by show 2 * 1 * bytes ≤ _; omega), show ze 1 esz = true from xN.2 h1]
 rfl
theorem zsU (l : List (Nat × Option AObj)) (n m : Nat) (b : Bool) (t esz bytes id k : Nat) (e : Bool) (old cs : List AV) (hg : xx l id = some (.app t old)) (hl : cs.length = esz) (h1 : 1 ≤ esz) (hb : 2 * (k + 1) * bytes ≤ 281474976710656) (hk : k < 1000000000) (hp : xK old = true) (hp2 : xK cs = true) (hs : xT cs = true) :
  jg (KL l n m b [] none) t esz bytes (.gr id esz k old) (.lst 1 e cs) = some (.gr n esz (k + 1) (old ++ cs), KL ((n, some (.app t (old ++ cs))) :: (id, none) :: l) (n + 1) (m ||| 1 <<< id) b [] none) := by
 have h2 : wC (zb 1 esz) cs = some cs := uh (by rw [hl]; show esz = 1 * esz; omega)
 have h3 : xK (old ++ cs) = true := by rw [vD, hp, hp2]; rfl
 simp only [jg, lW, w6, h2, ZW, qc, hg, xG.2, hs, xb, cond_true, hW, h3]; rw [show ze (zb (zb 2 (Nat.add k 1)) bytes) 281474976710656 = true from xN.2 hb, show ze 1 esz = true from xN.2 h1, show zd (Nat.add k 1) 9223372036854775808 = true from wb.2 (by show k + 1 < _; omega)]
 rfl
theorem zqx (l : List (Nat × Option AObj)) (n m : Nat) (hd : List (Nat × Nat)) (on : Option (Nat × List Nat)) (e len : Nat) (cs : List AV) (hp : xK cs = true) : Xg (KL l n m true hd on) e len (some cs) = some (.lst len true cs, KL l n m true hd on) := by
 simp only [Xg, UL, hp, xb, cond_true]
noncomputable def zuK (zs : List AV) (off n : Nat) (tm : Trie AV) (r : List (Nat × Nat × Opd)) : Option AV → Option (List AV)
 | some v => bif za (wZ v.cells) n && ze 1 n then (match vr zs off v.cells with
   | some zs' => jo zs' tm r
   | none => none) else none
 | none => none
theorem zxJ (zs : List AV) (tm : Trie AV) : jo zs tm [] = some zs := rfl
theorem Pk (zs : List AV) (tm : Trie AV) (off n : Nat) (x : Opd) (r : List (Nat × Nat × Opd)) : jo zs tm ((off, n, x) :: r) = zuK zs off n tm r (x.ev tm) := by
 simp only [jo, zuK]; cases x.ev tm <;> rfl
theorem Pl (zs : List AV) (off n : Nat) (tm : Trie AV) (r : List (Nat × Nat × Opd)) (v : AV) : zuK zs off n tm r (some v) = bif za (wZ v.cells) n && ze 1 n then (match vr zs off v.cells with
   | some zs' => jo zs' tm r
   | none => none) else none := rfl
theorem znR (hO : OrcOk P w0 O) (hm : P.follows .mixedOrders = true) (hG : xV E.globs w0) (hE : gm P E) {f : Nat} {args : List AV} (h : okV v ((evT E O n).call f args s0) = true) : ∃ s1, SC P w0 f args (s00 0 false) v s1 := by
 obtain ⟨s1, hs⟩ := ztG h; have := (Vk hO.ext hm hG hE hO.ok n).call hs; exact ⟨s1, this.1, fun φ w xs r hwf hf hx F k hF => this.2 r hwf hf hx F k hF⟩
section
variable {P : Program} {w0 : World} {f : Nat} {α : Type}
theorem SC.args {args args' : List AV} (h : SC P w0 f args' s v s') (hw : ∀ φ xs, VRL φ args xs → VRL φ args' xs) : SC P w0 f args s v s' :=
 ⟨h.1, fun φ w xs r hwf hf hx F n hF => h.2 φ w xs r hwf hf (hw φ xs hx) F n hF⟩
open Classical in
noncomputable def uu (enc : α → List AV) (Pre : α → Prop) (F : α → AV) (args : List AV) (s : St) : Option (AV × St) :=
 if h : ∃ x, enc x = wkL args ∧ Pre x then some (F (Classical.choose h), s) else none
theorem uJ {enc : α → List AV} {Pre : α → Prop} {F : α → AV} (inj : ∀ x y, enc x = enc y → x = y) {args : List AV} (s : St) (x : α) (hp : Pre x) (ha : wkL args = enc x) : uu enc Pre F args s = some (F x, s) := by
 have h : ∃ x, enc x = wkL args ∧ Pre x := ⟨x, ha.symm, hp⟩; unfold uu; rw [dif_pos h]; have := yT h; rw [inj _ x (this.1.trans ha)]
theorem kY {enc : α → List AV} {Pre : α → Prop} {F : α → AV} (args : List AV) (s : St) (v : AV) (s' : St) (h : uu enc Pre F args s = some (v, s')) : Ext s s' := by
 unfold uu at h; split at h
 ·cases h; exact Ext.refl _
 ·cases h
theorem VD {enc : α → List AV} {Pre : α → Prop} {F : α → AV} (b : Bool) (hp1 : ∀ x, xK (enc x) = true) (hp2 : ∀ x, x0 (F x) = true) (h : ∀ x, Pre x → ∃ s1, SC P w0 f (enc x) (s00 0 b) (F x) s1) : gX P w0 f (uu enc Pre F) := by
 intro args s v s' hg; unfold uu at hg; split at hg
 ·rename_i hx
  cases hg; obtain ⟨h1, h2⟩ := yT hx; obtain ⟨s1, hs⟩ := h _ h2; refine SC.args (SC.up hs (hp1 _) (hp2 _) s) fun φ xs hv => ?_; rw [h1]; exact jJ hv
 ·cases hg
open Classical in
end
theorem zuk (S : Self) (l : Nat) (vs : List AV) (s : St) : Uv S (some (.yld l)) (some vs) s = S.round l vs s := rfl
theorem KC (E : Env) (O : Orc) (l : Nat) (a : List AV) (s : St) : (evW E O).round l a s = uN E (evW E O) l a s := by
 cases h : uN E (evW E O) l a s with
 | some r => exact zxG h
 | none =>
  cases h2 : (evW E O).round l a s with
  | none => rfl
  | some r =>
   obtain ⟨n, hn⟩ := vo (α := AV × St) h2; cases n with
   | zero => cases hn
   | succ n =>
    have h3 : uN E (evT E O n) l a s = some r := hn; have h4 : LeS (evT E O n) (evW E O) := ⟨fun f a s r h => uZ (fun n r h => (uL E O n).call _ _ _ _ h) h, fun rd b fr s r h => uZ (fun n r h => (uL E O n).loop _ _ _ _ _ h) h, fun l a s r h => uZ (fun n r h => (uL E O n).round _ _ _ _ h) h⟩; rw [(XJ E l a s).up _ _ h4 r h3] at h; cases h
theorem GZ (E : Env) (O : Orc) (rd : Option Nat) (b : ICode) (fr : Fr) (s : St) : (evW E O).loop rd b fr s = evC E (evW E O) rd (.loop b) fr s := by
 cases h : evC E (evW E O) rd (.loop b) fr s with
 | some r => exact zuH h
 | none =>
  cases h2 : (evW E O).loop rd b fr s with
  | none => rfl
  | some r =>
   obtain ⟨n, hn⟩ := vo (α := Res × Fr × St) h2; cases n with
   | zero => cases hn
   | succ n =>
    have h3 : evC E (evT E O n) rd (.loop b) fr s = some r := hn; have h4 : LeS (evT E O n) (evW E O) := ⟨fun f a s r h => uZ (fun n r h => (uL E O n).call _ _ _ _ h) h, fun rd b fr s r h => uZ (fun n r h => (uL E O n).loop _ _ _ _ _ h) h, fun l a s r h => uZ (fun n r h => (uL E O n).round _ _ _ _ h) h⟩; rw [(jm E rd (.loop b) fr s).up _ _ h4 r h3] at h; cases h
theorem zuh (E : Env) (O : Orc) (rd : Option Nat) (b : ICode) (fr : Fr) (s : St) : evC E (evW E O) rd (.loop b) fr s = vS (fun f t => evC E (evW E O) rd (.loop b) f t) (evC E (evW E O) rd b fr s) := by
 show vS ((evW E O).loop rd b) _ = _
 congr 1
 funext f t
 exact GZ E O rd b f t
noncomputable def zqH (E : Env) (S : Self) (l : Nat) (asg body : ICode) (s : St) : Option (Trie AV) → Option (AV × St)
 | some tm => vg E S l body (evC E S (some l) asg { tm := tm, df := [] } s)
 | none => none
noncomputable def zoG (E : Env) (S : Self) (l : Nat) (args : List AV) (s : St) : Option AObj → Option (AV × St)
 | some (.loop _ _ tm ps asg body _) => zqH E S l asg body s (lj tm ps args)
 | _ => none
theorem zwD (E : Env) (S : Self) (l : Nat) (args : List AV) (s : St) : uN E S l args s = zoG E S l args s (s.get l) := by
 unfold uN zoG; cases s.get l with
 | none => rfl
 | some o => cases o <;> first | rfl | (simp only [zqH]; split <;> simp_all)
theorem zwu (E : Env) (S : Self) (l : Nat) (args : List AV) (s : St) (st : LSt) (pd : Option Res) (tm : Trie AV) (ps : List Nat) (asg body : ICode) (d : Nat) : zoG E S l args s (some (.loop st pd tm ps asg body d)) = zqH E S l asg body s (lj tm ps args) := rfl
theorem zwv (E : Env) (S : Self) (l : Nat) (asg body : ICode) (s : St) (tm : Trie AV) : zqH E S l asg body s (some tm) = vg E S l body (evC E S (some l) asg { tm := tm, df := [] } s) := rfl
noncomputable def rbK (E : Env) (S : Self) (l : Nat) (bd : ICode) (fr : Fr) (s : St) : Option AObj → Option (AV × St)
 | some (.loop .ready pd tm ps asg body d) => uc l (evC E S (some l) bd fr (s.put l (.loop .busy pd tm ps asg body d)))
 | _ => none
theorem VZ (E : Env) (S : Self) (l : Nat) (bd : ICode) (fr : Fr) (s : St) : vg E S l bd (some (.norm, fr, s)) = rbK E S l bd fr s (s.get l) := by
 unfold vg rbK; simp only; cases s.get l with
 | none => rfl
 | some o => cases o <;> first | rfl | (rename_i st _ _ _ _ _ _; cases st <;> rfl)
theorem zwt (E : Env) (S : Self) (l : Nat) (bd : ICode) (fr : Fr) (s : St) (pd : Option Res) (tm : Trie AV) (ps : List Nat) (asg body : ICode) (d : Nat) : rbK E S l bd fr s (some (.loop .ready pd tm ps asg body d)) = uc l (evC E S (some l) bd fr (s.put l (.loop .busy pd tm ps asg body d))) := rfl
noncomputable def reK (l : Nat) (r : Res) (s : St) : Option AObj → Option (AV × St)
 | some (.loop _ _ tm ps asg body d) => match r with
  | .norm => some (.bool true, s.put l (.loop .ready none tm ps asg body d))
  | r => some (.bool false, s.put l (.loop .done (some r) tm ps asg body d))
 | _ => none
theorem UG (l : Nat) (r : Res) (fr : Fr) (s : St) : uc l (some (r, fr, s)) = reK l r s (s.get l) := by
 unfold uc reK; simp only; cases s.get l with
 | none => rfl
 | some o => cases o <;> first | rfl | (cases r <;> rfl)
theorem zt1 (l : Nat) (s : St) (st : LSt) (pd : Option Res) (tm : Trie AV) (ps : List Nat) (asg body : ICode) (d : Nat) : reK l .norm s (some (.loop st pd tm ps asg body d)) = some (.bool true, s.put l (.loop .ready none tm ps asg body d)) := rfl
theorem zob (E : Env) (S : Self) (rd : Option Nat) (g : Opd) (ps : List Nat) (asg body : ICode) (fr : Fr) (s : St) : evC E S rd (.rf g ps asg body) fr s = rfR S rd (g.ev fr.tm) ps asg body fr s := rfl
theorem zoL (S : Self) (f : Nat) (a c : List AV) (ps : List Nat) (asg body : ICode) (tm : Trie AV) (df : List Nat) (s : St) : rfR S none (some (.fn f a c)) ps asg body ⟨tm, df⟩ s = gI ⟨tm, df⟩ (s.next + 1) s.next (S.call f (a ++ .yld (s.next + 1) :: c) ((s.alloc .dfd).alloc (.loop .ready none tm ps asg body s.next))) := rfl
noncomputable def feK (fr : Fr) (l d : Nat) (s : St) : Option AObj → Option (Res × Fr × St)
 | some (.loop st pend tm ps asg body dd) => match st with
  | .busy => none
  | _ => some (HN pend, { fr with df := d :: fr.df }, s.put l (.loop .exhausted pend tm ps asg body dd))
 | _ => none
theorem P3 (fr : Fr) (l d : Nat) (v : AV) (s : St) : gI fr l d (some (v, s)) = feK fr l d s (s.get l) := by
 unfold gI feK; simp only; cases s.get l with
 | none => rfl
 | some o => cases o <;> rfl
theorem zxI (tm0 : Trie AV) (df : List Nat) (l d : Nat) (s : St) (pend : Option Res) (tm : Trie AV) (ps : List Nat) (asg body : ICode) (dd : Nat) : feK ⟨tm0, df⟩ l d s (some (.loop .ready pend tm ps asg body dd)) = some (HN pend, ⟨tm0, d :: df⟩, s.put l (.loop .exhausted pend tm ps asg body dd)) := rfl
theorem PV : HN none = .norm := rfl
def xz {α : Type} (f : α → List AV) : List α → List AV
 | [] => []
 | x :: r => f x ++ xz f r
section
variable {α : Type} {f : α → List AV} {k : Nat}
theorem xY : ∀ l m : List α, xz f (l ++ m) = xz f l ++ xz f m
 | [], _ => rfl
 | x :: r, m => by simp only [y9, xz, xY r m, List.append_assoc]
theorem XS (x : α) : xz f [x] = f x := by simp only [xz, List.append_nil]
theorem qb (h : ∀ x, (f x).length = k) : ∀ l : List α, (xz f l).length = l.length * k
 | [] => by simp [xz]
 | x :: r => by simp only [xz, yd, h, qb h r, y8, zmr]; omega
theorem u1 (h : ∀ x, (f x).length = k) : ∀ (i : Nat) (l : List α), wP (i * k) (xz f l) = xz f (l.drop i)
 | 0, l => by rw [vl]; simp
 | i + 1, [] => by rw [vl]; simp [xz]
 | i + 1, x :: r => by
  rw [vl]; simp only [xz, xg]; rw [← u1 h i r, vl, zmr, Nat.add_comm, ← List.drop_drop]
  congr 1
  rw [← h x]; simp
theorem Vp (h : ∀ x, (f x).length = k) : ∀ (i : Nat) (l : List α), tkN (i * k) (xz f l) = xz f (l.take i)
 | 0, l => by rw [p7]; simp [xz]
 | i + 1, [] => by rw [p7]; simp [xz]
 | i + 1, x :: r => by
  rw [p7]; simp only [xz, xc]; rw [← Vp h i r, p7, zmr, List.take_append]; have e1 : (f x).take (i * k + k) = f x := zG (by rw [h]; omega)
  rw [e1, h, Nat.add_sub_cancel]
theorem jc {a b : List AV} (h : a.length = n) : wC n (a ++ b) = some a := by
 subst h
 induction a with
 | nil => rfl
 | cons v r ih => simp only [y9, y8, wC, ih]
theorem qr (h : ∀ x, xK (f x) = true) : ∀ l : List α, xK (xz f l) = true
 | [] => rfl
 | x :: r => by simp only [xz, vD, h, qr h r, xb]
theorem hU (h : ∀ x, wkL (f x) = f x) : ∀ l : List α, wkL (xz f l) = xz f l
 | [] => rfl
 | x :: r => by
  have ap : ∀ a b : List AV, wkL (a ++ b) = wkL a ++ wkL b := fun a b => by
   induction a with
   | nil => rfl
   | cons v a ih => simp only [y9, wkL, ih]
  simp only [xz, ap, h, hU h r]
theorem XR (hk : ∀ x, (f x).length = k) (h0 : 0 < k) (h : ∀ x y, f x = f y → x = y) : ∀ {l m : List α}, xz f l = xz f m → l = m
 | [], [], _ => rfl
 | [], y :: m, e => by
  have := congrArg yC e; simp only [xz, y7, yd, hk] at this; omega
 | x :: l, [], e => by
  have := congrArg yC e; simp only [xz, y7, yd, hk] at this; omega
 | x :: l, y :: m, e => by
  simp only [xz] at e; obtain ⟨h1, h2⟩ := List.append_inj e (by rw [hk, hk])
  rw [h x y h1, XR hk h0 h h2]
end
inductive DT where
 | mk (k n : Int) (t : List Nat) (ks : List DT) (p : Int)
variable {d : DT}
mutual
def xu : DT → List AV
 | .mk k n t ks p => [.int .i64 k, .int .i64 n, .str t, .lst ks.length false (xC ks), .int .i64 p]
def xC : List DT → List AV
 | [] => []
 | d :: r => xu d ++ xC r
end
def wU (d : DT) : AV := .agg (xu d)
theorem xo (k n : Int) (t : List Nat) (ks : List DT) (p : Int) : xu (.mk k n t ks p) = [.int .i64 k, .int .i64 n, .str t, .lst ks.length false (xC ks), .int .i64 p] := by simp only [xu]
theorem vT : xC [] = [] := by simp only [xC]
theorem q7 (d : DT) (r : List DT) : xC (d :: r) = xu d ++ xC r := by simp only [xC]
theorem qX : ∀ l : List DT, xC l = xz xu l
 | [] => by simp only [xC, xz]
 | d :: r => by simp only [xC, xz, qX r]
theorem wj : ∀ d : DT, (xu d).length = 5
 | .mk _ _ _ _ _ => by simp only [xu, y8, y7]
theorem qZ : ∀ d : DT, xK (xu d) = true
 | .mk _ _ _ _ _ => by simp only [xu, xP, xU, qx, kC, ww, xb]
theorem qh (l : List DT) : xK (xC l) = true := by rw [qX]; exact qr qZ l
theorem GA : ∀ d : DT, xT (xu d) = true
 | .mk _ _ _ _ _ => by simp only [xu, xT, scal, cond_true]
mutual
theorem qQ : ∀ d : DT, wkL (xu d) = xu d
 | .mk k n t ks p => by simp only [xu, wkL, wkV, vM ks]
theorem vM : ∀ l : List DT, wkL (xC l) = xC l
 | [] => by simp only [xC, wkL]
 | d :: r => by
  have ap : ∀ a b : List AV, wkL (a ++ b) = wkL a ++ wkL b := fun a b => by
   induction a with
   | nil => rfl
   | cons v a ih => simp only [y9, wkL, ih]
  simp only [xC, ap, qQ d, vM r]
end
mutual
theorem ZZ : ∀ {d e : DT}, xu d = xu e → d = e
 | .mk k n t ks p, .mk k' n' t' ks' p', h => by
  simp only [xu, xe, AV.int.injEq, AV.str.injEq, AV.lst.injEq, true_and, and_true] at h; obtain ⟨rfl, rfl, rfl, ⟨_, h1⟩, rfl⟩ := h; rw [kF h1]
theorem kF : ∀ {l m : List DT}, xC l = xC m → l = m
 | [], [], _ => rfl
 | [], d :: m, h => by
  have := congrArg yC h; simp only [xC, y7, yd, wj] at this; omega
 | d :: l, [], h => by
  have := congrArg yC h; simp only [xC, y7, yd, wj] at this; omega
 | d :: l, e :: m, h => by
  simp only [xC] at h; obtain ⟨h1, h2⟩ := List.append_inj h (by rw [wj, wj])
  rw [ZZ h1, kF h2]
end
theorem gu (i : Nat) (l : List DT) : wP (i * 5) (xC l) = xC (l.drop i) := by rw [qX, qX]; exact u1 wj i l
theorem ZF (l m : List DT) : xC (l ++ m) = xC l ++ xC m := by simp only [qX]; exact xY l m
theorem v9 {e : DT} (h : wU d = wU e) : d = e := ZZ (by simpa [wU] using h)
structure Tok where
 kind : Nat
 pos : Nat
 d : DT
attribute [go_sem] lZ zoC xi zxs Pe zmc zzq zpq UL qc Qi zvk zvi Lx zr3 zuF zqZ zqY zpm zpl zpn zqh zqg zsl H3 H2 HZ Gd zwG zza Lw zt3 zro zul zwk zwj zuc zqX zqW zta zu9 KV Uz LI GI K3 HH K2 zsA zw0 zsx zwT zwW zsC zzj zsw zsy zw1 Lj zwU zwZ zsz zwX zsB zwY zwV zwS zzi zze zwP zsq zq3 zsr zq2 zzf zsp zrY zxF Ph zur Pi zus zrW zuy zr1 zuC zuq zuv zr2 zrR zuu zut zuA zuB zuD zuE zrU zrV zuw zux zr0 zrZ zrT zuz zup zrX zxE zrS PK zzh zzg zwQ zzH zzG Gs Ly Wi zuj zrk zui zrm Vi zxy zug zrl ztr zwn zwm Gx J8 zqK zwB PO PQ PR LL zx3 zt8 zoK zqL UJ znM znL zrp zum zxC zxD zzb zwC zmm zmn zqn zqo zmi zmj zmo znY zn0 zn1 zsV zsW zqr zti zqp zqq zxz zrn zpg zpf zpe zq9 zo0 zsM zqw zwe zy0 zy1 zy4 zy2 zy3 zvQ zsK zw9 zsJ zpc zpd zph zsE zsF zvy zvE zvC zvB zvA zvz zrf lN Hs zme PI zwN zvx zvF zvD Yw zo6 zo7 zq7 zvG zvH Pu zq8 Ze zsN zpa ztY zo1 Lz zsH pW gZ Vy zyB zsI Xw Qo zwq zqV zqC zpt znf zne zw2 zuU zuW zxP zuV zxO zr7 zuS LC Gw zqu VS zw4 wZ wC wP vr Qe zxJ Pk Pl xT scal hid ph cond_true cond_false Bool.not_true Bool.not_false Bool.true_and Bool.false_and Bool.and_true Bool.and_false Bool.true_or Bool.false_or Bool.or_true Bool.or_false beq_true Bool.not_not beq_self_eq_true decide_true decide_false Nat.add_zero Nat.zero_add xd Nat.one_mul Nat.zero_mul Nat.succ_eq_add_one Nat.add_eq Nat.mul_eq Nat.le_refl Nat.lt_irrefl Nat.zero_le gt_iff_lt ge_iff_le ne_eq not_false_eq_true not_true_eq_false eq_self List.nil_append y9 y8 y7 WU and_self and_true true_and Option.some.injEq gcF zxT zxS gcB gcK zt6 zqJ zqI zoH zql zuN UF rho Jn X5 u7 qx kC VV ww Xk jb vx xU xP zxN List.append_nil vD zoy zt4 zwy zt7 zwz zt5 zuP zuR zuQ zuT wkV wkL ZA zwJ Ge zyT zp0 zyJ zsU zqx zra zs9 zs8 Ya Nat.add_sub_cancel_left xe xc List.take_zero false_and and_false zuk KC zwD zwu zwv VZ zwt UG zt1 zob zoL P3 zxI PV
def sxP := yY (yY (yY (yY (yY @u7 @qx) (yY @kC @P1)) (yY (yY @PW @zwp) (yY @VV @PZ))) (yY (yY (yY @PX @PY) (yY @ww @ztZ)) (yY (yY @zwo @Xk) (yY @jb @vx)))) (yY (yY (yY (yY @xU @xP) (yY @pU @vD)) (yY (yY @kr @Zf) (yY @V7 @V8))) (yY (yY (yY @zwF @zsg) (yY @zqR @JI)) (yY (yY @zsi @zsh) (yY @xi @zu4))))
theorem dis {p : Prop} (h : p := by first | assumption | omega | rfl | (simp only [sxP, Bool.and_self, List.length_cons, List.length_nil, List.length_take, List.length_drop, ↓reduceIte, Nat.reduceEqDiff]; first | done | omega) | exact Nat.le_of_ble_eq_true rfl | ((repeat (first | assumption | apply Byt.drop | apply Byt.take)); done) | fail) : p := h
attribute [go_sem] Ko Kg Kn Kd Ke Kf Ki
open Go.RowKit (Below)
section
variable {φ φ1 : Phi} {ρ : Nat → Option Nat}
end
def znr (ids : List Nat) (n k : Nat) (i : Nat) : Option Nat := if i < ids.length then ids[i]? else if i < k then some (n + (i - ids.length)) else none
structure Emb (s s' : St) (ids : List Nat) (os : List (Option AObj)) (M : Nat) : Prop where
 ext : Ext s s'
 len : ids.length ≤ os.length
 next : s'.next = s.next + (os.length - ids.length)
 old : ∀ id, id < s.next → (∀ i, ids[i]? = some id → M.testBit i = false) → ∀ o, s'.get id = some o ↔ s.get id = some o
 own : ∀ i id, ids[i]? = some id → M.testBit i = true → ∀ o1, s'.get id = some o1 → ∃ o, jh os i = some o ∧ UF (znr ids s.next os.length) o = some o1
 new : ∀ j, ids.length ≤ j → j < os.length → ∀ o1, s'.get (s.next + (j - ids.length)) = some o1 → ∃ o, jh os j = some o ∧ UF (znr ids s.next os.length) o = some o1
 bit : ∀ i id, ids[i]? = some id → M.testBit i = true → s'.wm.testBit id = true
def zmp (tw id j n : Nat) (disp : Bool) : AObj := .row tw [.ptr id 0, .sl j 0 n (.opn 1), .bool disp] false false
def zmf (tb : Nat) (out : List Nat) : AObj := .row tb (x6 out) true false
structure IsW {α : Type} (tw tb : Nat) (enc : α → List AV) (Pre : α → List Nat → Bool → Prop) (args : List AV) (s : St) (id j : Nat) (x : α) (out : List Nat) (disp : Bool) : Prop where
 a : ∃ r, args = .ptr id 0 :: r ∧ enc x = wkL r
 ne : id ≠ j
 hi : id < s.next
 hj : j < s.next
 w : s.get id = some (zmp tw id j out.length disp)
 b : s.get j = some (zmf tb out)
 p : Pre x out disp
open Classical in
section
variable {α : Type} {tw tb : Nat} {enc : α → List AV} {Pre : α → List Nat → Bool → Prop} {F : α → Bool → List Nat}
end
theorem gr_lst {e : Nat} {cs : List AV} {x : Value} (h : VR φ (.gr id e n cs) x) : VR φ (.lst n false cs) x := by
 simp only [VR] at h ⊢; obtain ⟨h1, h2, h3, h4, B, ys, h5, h6, h7, h8, h9⟩ := h; exact ⟨h1, .inr ⟨B.b, B.o, _, ys, h6, by simp, h7, h8, h9⟩⟩
def UE (W : World) : Phi := ⟨fun _ => none, fun b o => W.cell? ⟨b, o, none⟩⟩
theorem zzB {a : Addr} {v : Value} (h : w.cell? a = some v) : ∃ c e fr, w.heap[a.block]? = some (.cells c e fr) ∧ a.spot = none ∧ c[a.off]? = some v := by
 unfold World.cell? at h; cases hb : w.heap[a.block]? with
 | none => rw [hb] at h; cases h
 | some o =>
  rw [hb] at h; cases o <;> simp only at h <;> first | cases h | skip
  rename_i c e fr
  refine ⟨c, e, fr, rfl, ?_⟩; cases hs : a.spot with
  | none => rw [hs] at h; simp at h; exact ⟨rfl, h⟩
  | some s => rw [hs] at h; simp at h
theorem Gk {a : Addr} (h : a.spot = none) (n : Nat) : a.add n = ⟨a.block, a.off + n, none⟩ := by
 unfold Addr.add; by_cases hn : n = 0
 ·subst hn; simp; cases a; simp_all
 ·rw [if_neg hn]
theorem zwx (P : Program) (W : World) (b : Bool) : Rel P W (UE W) (H [] 0 b).get W := by
 have hg : ∀ id o, (H [] 0 b).get id = some o → False := fun id o h => by
  rw [zpp] at h; simp [jh] at h
 refine ⟨Below.refl _ _, fun id o h => (hg id o h).elim, fun id B h => (by cases h), fun id o B h => (hg id o h).elim, fun id id' o o' B B' h => (hg id o h).elim, fun b o v h => ?_, fun id o B h => (hg id o h).elim⟩
 obtain ⟨c, e, fr, h1, _, h3⟩ := zzB h; exact ⟨c, e, fr, h1, h3⟩
section
variable {H0 : Type} {enc : TypeId × Value → H0} {P : Program} {W : World} {sp : Nat → Bool} {held : Bool} {tD tI tS tK tE : TypeId} {fs : Array Field} {α : Type} {f : α → List AV} {k : Nat}
structure DatumTy (P : Program) (tD tI tS tK : TypeId) (fs : Array Field) : Prop where
 d : P.underlying tD = some (.struct fs)
 fs : fs.toList.map (fun f => (f.type, f.offset)) = [(tI, 0), (tI, 1), (tS, 2), (tK, 3), (tI, 4)]
 i : P.underlying tI = some (.int .i64)
 s : P.underlying tS = some .string
 k : P.underlying tK = some (.slice tD)
 cd : P.cellsOf tD = 5
 ci : P.cellsOf tI = 1
 cs : P.cellsOf tS = 1
 ck : P.cellsOf tK = 1
theorem zno {α : Type} {l : List α} (h : l.length = 5) : ∃ a b c d e, l = [a, b, c, d, e] := by
 match l, h with
 | [a, b, c, d, e], _ => exact ⟨a, b, c, d, e, rfl⟩
theorem zvN (s : ByteArray) : Byt (qK s) := fun x hx => by
 simp only [qK, List.mem_map] at hx; obtain ⟨u, _, rfl⟩ := hx; exact u.toNat_lt
end
def zn2 (tw : Nat) (disp : Bool) : AObj := .row tw [.nilp, .nils, .bool disp] false false
structure IsW0 {α : Type} (tw : Nat) (enc : α → List AV) (Pre : α → Bool → Prop) (args : List AV) (s : St) (id : Nat) (x : α) (disp : Bool) : Prop where
 a : ∃ r, args = .ptr id 0 :: r ∧ enc x = wkL r
 hi : id < s.next
 w : s.get id = some (zn2 tw disp)
 p : Pre x disp
open Classical in
section
variable {α : Type} {tw tb : Nat} {enc : α → List AV} {Pre : α → Bool → Prop} {F : α → Bool → List Nat}
end
def gV (id esz : Nat) : Nat → List AV → AV
 | 0, _ => .nils
 | k + 1, cs => .gr id esz (k + 1) cs
structure IsG {α : Type} (t esz : Nat) (enc : α → List AV) (Pre : α → Nat → List AV → Prop) (args : List AV) (s : St) (x : α) (k : Nat) (cs : List AV) (id : Nat) : Prop where
 a : ∃ r, args = r ++ [gV id esz k cs] ∧ enc x = wkL r
 z : k = 0 → id = 0 ∧ cs = []
 b : k ≠ 0 → id < s.next ∧ s.get id = some (.app t cs)
 p : Pre x k cs
open Classical in
section
variable {α : Type} {t esz : Nat} {enc : α → List AV} {Pre : α → Nat → List AV → Prop} {F : α → Nat × List AV}
end
theorem sV {p : Prop} (h : p := by simp (disch := first | exact dis | fail) only [go_sem, seval, -Int.reduceOfNat, -Int.reduceNegSucc, *]) : p := h
theorem sW {p : Prop} (h : p := by simp (disch := first | exact dis | fail) only [go_sem, seval, -Int.reduceOfNat, -Int.reduceNegSucc]) : p := h
section
variable {C : Cx} {E : Env} {O : Orc} {c : St} {M : Nat} {ia ib ic : ICode} {fr fr' fr1 : Fr} {s s' s1 s2 : St} {Q : Res → Fr → St → Prop} {res : Res}
theorem Is.z (k : Is C E O c M) {Z : Prop} (q : Z) (h : evC E (evW E O) none ic fr s = some (res, fr', s') := by (simp (disch := first | exact dis | fail) only [go_sem, seval, -Int.reduceOfNat, -Int.reduceNegSucc, *]; exact rfl)) (h2 : Q res fr' s' = Z := by (try simp only [wo, uK, Cut, if_true, ↓reduceIte]); first | done | exact rfl) : Tri C ic fr s Q :=
 k.eval h (h2 ▸ q)
theorem Is.q (k : Is C E O c M) {Z : Prop} (q : Z) (h : evC E (evW E O) none ia fr s = some (res, fr', s') := by (simp (disch := first | exact dis | fail) only [go_sem, seval, -Int.reduceOfNat, -Int.reduceNegSucc, *]; exact rfl)) (h2 : wo (fun f t => Tri C ib f t Q) Q res fr' s' = Z := by (try simp only [wo, uK, Cut, if_true, ↓reduceIte]); first | done | exact rfl) : Tri C (.seq ia ib) fr s Q :=
 v6 (k.eval h (h2 ▸ q))
theorem Is.g (k : Is C E O c M) (keep live : List Nat) (h : gcF false c M keep live true fr s = some (fr1, s1) := by (simp (disch := first | exact dis | fail) only [go_sem, seval, -Int.reduceOfNat, -Int.reduceNegSucc, *] <;> exact rfl)) : Gc C fr s fr1 s1 := k.gcs h
end
theorem fin {c : St} {M : Nat} {res : List RV} {c' : St} {r : Res} {fr : Fr} {s2 : St} {vs : List AV} {v0 : AV} (h0 : r = .norm ∨ r = .ret := by exact Or.inr rfl) (h1 : w5 s fr.df = some s2 := by (simp (disch := first | exact dis | fail) only [go_sem, seval, -Int.reduceOfNat, -Int.reduceNegSucc, *] <;> exact rfl)) (h2 : gb E.globs fr.tm s2 res = some vs := by (simp (disch := first | exact dis | fail) only [go_sem, seval, -Int.reduceOfNat, -Int.reduceNegSucc, *] <;> exact rfl)) (h3 : lH c.next (vQ vs) = some v0 := by (simp (disch := first | exact dis | fail) only [go_sem, seval, -Int.reduceOfNat, -Int.reduceNegSucc, *] <;> exact rfl)) (h4 : wkV v0 = v := by (simp (disch := first | exact dis | fail) only [go_sem, seval, -Int.reduceOfNat, -Int.reduceNegSucc, *] <;> exact rfl)) (h5 : gcF true c M [] [] c.md { tm := tmL [], df := [] } s2 = some ({ tm := tmL [], df := [] }, c') := by (simp (disch := first | exact dis | fail) only [go_sem, seval, -Int.reduceOfNat, -Int.reduceNegSucc, *] <;> exact rfl)) : Fin E c M res v c' r fr s :=
 XQ h0 h1 h2 h3 h4 h5
end Go.Proofs.YtionbncghjdeoaaGreatDoor.Ev

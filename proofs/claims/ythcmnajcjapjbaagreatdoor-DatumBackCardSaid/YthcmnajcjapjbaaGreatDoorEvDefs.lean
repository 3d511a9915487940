/- Part of a verified evaluator of the model's code, generic over the program: a run of the evaluator that answers shows what the model's run answers. No conditions of its own. -/
import GoSem.Dispatch
import GoSem.Machine.Frame
set_option linter.unusedSimpArgs false
set_option linter.unusedVariables false
set_option linter.defProp false
open Nat renaming beq → za, mul → zb, add → zc, blt → zd, ble → ze, mod → zf, div → zg, sub → zh, casesOn → zi
namespace Go.Proofs.YthcmnajcjapjbaaGreatDoor.Ev
noncomputable section
inductive Trie (α : Type) where
 | leaf
 | node (v : Option α) (l r : Trie α)
noncomputable def Trie.get {α : Type} (t : Trie α) : Nat → Option α :=
 Trie.rec (motive := fun _ => Nat → Option α) (fun _ => none) (fun v _ _ l r n => zi (motive := fun _ => Option α) n v fun _ => cond (za (zf n 2) 1) (l (zg n 2)) (r (Nat.pred (zg n 2)))) t
noncomputable def Trie.setF {α : Type} (f : Nat) : Trie α → Nat → Option α → Trie α :=
 Nat.rec (motive := fun _ => Trie α → Nat → Option α → Trie α) (fun t _ _ => t)
  (fun _ ih t n v => Trie.casesOn (motive := fun _ => Trie α) t
   (zi (motive := fun _ => Trie α) n (.node v .leaf .leaf) fun _ => cond (za (zf n 2) 1) (.node none (ih .leaf (zg n 2) v) .leaf) (.node none .leaf (ih .leaf (Nat.pred (zg n 2)) v)))
   fun w l r => zi (motive := fun _ => Trie α) n (.node v l r) fun _ => cond (za (zf n 2) 1) (.node w (ih l (zg n 2) v) r) (.node w l (ih r (Nat.pred (zg n 2)) v))) f
def Trie.set {α : Type} (t : Trie α) (n : Nat) (v : α) : Trie α := t.setF (Nat.succ n) n (some v)
def Trie.del {α : Type} (t : Trie α) (n : Nat) : Trie α := t.setF (Nat.succ n) n none
inductive Cap where
 | fix (n : Nat)
 | opn (esz : Nat)
inductive AV where
 | bool (b : Bool)
 | int (k : IntKind) (n : Int)
 | str (s : List Nat)
 | ptr (id off : Nat)
 | nilp
 | gptr (g off : Nat)
 | sl (id off len : Nat) (c : Cap)
 | sl0
 | nils
 | map (id : Nat)
 | nilm
 | fn (f : Nat) (fst cap : List AV)
 | nilf
 | yld (l : Nat)
 | ifc (t : Nat) (v : AV)
 | nili
 | agg (cs : List AV)
 | tup (vs : List AV)
 /-- a slice whose cells are never written again; ex: its capacity is its length -/
 | lst (n : Nat) (ex : Bool) (cs : List AV)
 /-- such a slice that may grow: id says whether it may still -/
 | gr (id esz n : Nat) (cs : List AV)
 /-- a pointer to cells that are never written again -/
 | vp (cs : List AV)
 deriving Inhabited
inductive Opd where
 | t (i : Nat)
 | c (v : AV)
 deriving Inhabited
inductive FK where
 | i | s | b
 deriving DecidableEq
inductive EqK where
 | basic | bool | ptr | slice | map | func | iface | ifacec
 | flat (ks : List FK)
 deriving DecidableEq
inductive LK where
 | s | v | m
 deriving DecidableEq
inductive IOp where
 | mv (x : Opd)
 | pick (c a b : Opd)
 | alloc (e : Nat) (zs : List AV)
 | box (e : Nat) (x : Opd)
 | build (zs : List AV) (ps : List (Nat × Nat × Opd))
 | bsl (e : Nat) (zs : List AV) (len : Nat) (ps : List (Nat × Nat × Opd))
 | ld (x : Opd)
 | ldn (n : Nat) (x : Opd)
 | st (n : Nat) (x v : Opd)
 | nck (x : Opd)
 | bin (op : BinOp) (x y : Opd)
 | eqk (k : EqK) (neg : Bool) (x y : Opd)
 | un (op : UnOp) (x : Opd)
 | ci (k : IntKind) (x : Opd)
 | csb (e : Nat) (x : Opd)
 | cbb (x : Opd)
 | cup (x : Opd)
 | cpu (u : List (Nat × Nat)) (x : Opd)
 | cbs (x : Opd)
 | cis (x : Opd)
 | mif (t : Nat) (x : Opd)
 | mfn (f : Nat) (fst cap : List Opd)
 | sls (x : Opd) (lo hi : Option Opd)
 | slv (esz : Nat) (x : Opd) (lo hi mx : Option Opd)
 | sla (n esz : Nat) (x : Opd) (lo hi mx : Option Opd)
 | fa (off : Nat) (x : Opd)
 | ia (esz : Nat) (x i : Opd)
 | iaa (n esz : Nat) (x i : Opd)
 | ixs (x i : Opd)
 | rs (x : Opd)
 | ns (it : Opd)
 | ex (x : Opd) (i : Nat)
 | call (f : Nat) (args : List Opd)
 | cv (x : Opd) (args : List Opd)
 | len (k : LK) (x : Opd)
 | app (e esz bytes : Nat) (x y : Opd)
 | mn (xs : List Opd)
 | usd (x : Opd)
 | ust (e : Nat) (x n : Opd)
 | ibs (x c : Opd)
 | nes (x : Opd)
 | stk
 deriving Inhabited
structure SOper where
 dst : Option Nat
 op : IOp
 guard : Option (Nat × Bool)
 deriving Inhabited
structure DOper where
 o : SOper
 deps : Nat
 deriving Inhabited
inductive ICode where
 | skip
 | reg (ops : List SOper)
 | regd (ops : List DOper)
 | seq (a b : ICode)
 | cond (c : Opd) (a b : ICode)
 | block (id : Nat) (b : ICode)
 | loop (b : ICode)
 | exit (id : Nat)
 | ret
 | rf (g : Opd) (ps : List Nat) (assign body : ICode)
 | stk
 deriving Inhabited
inductive RV where
 | t (i : Nat)
 | c1 (a : Nat)
 | cn (a n : Nat)
 deriving Inhabited
structure IFunc where
 ntmps : Nat
 res : List RV
 body : ICode
 deriving Inhabited
inductive Res where
 | norm
 | exit (id : Nat)
 | ret
 deriving DecidableEq
inductive LSt where
 | ready | busy | done | exhausted
 deriving DecidableEq
inductive AObj where
 | row (e : Nat) (cells : List AV) (ext fz : Bool)
 | map (es : List (AV × AV × Nat)) (clock : Nat)
 | siter (s : List Nat) (pos : Nat)
 | miter (m : Option Nat) (since : Nat) (seen : List Nat) (stepped : Nat)
 | loop (st : LSt) (pend : Option Res) (tm : Trie AV) (ps : List Nat) (assign body : ICode) (defers : Nat)
 | dfd
 | dfd0
 /-- a row that was there before: looked at alone -/
 | giv (cells : List AV)
 /-- a row that may grow behind its first cells, which are never written again -/
 | app (e : Nat) (cells : List AV)
def qh : AObj → Bool
 | .giv _ => true
 | _ => false
def Vt : AObj → Bool
 | .app _ _ => true
 | _ => false
structure St where
 objs : Trie AObj
 next : Nat
 wm : Nat
 hide : List (Nat × Nat)
 only : Option (Nat × List Nat)
 /-- is the function one whose rows are frozen where they are made? -/
 md : Bool
structure Fr where
 tm : Trie AV
 df : List Nat
structure Env where
 funs : Trie IFunc
 globs : List (List AV)
 lies : List (Nat × Nat × Nat)
 /-- which functions freeze their rows, and leave none of their own behind -/
 pure : Nat → Bool
mutual
def xG : AV → Bool
 | .bool _ => true
 | .int _ _ => true
 | .str _ => true
 | .nilp => true
 | .gptr _ _ => true
 | .sl0 => true
 | .nils => true
 | .nilm => true
 | .nilf => true
 | .nili => true
 | .lst _ _ _ => true
 | .vp _ => true
 | .ifc _ v => xG v
 | .fn _ a c => xz a && xz c
 | .agg cs => xz cs
 | .tup vs => xz vs
 | .ptr _ _ => false
 | .sl _ _ _ _ => false
 | .map _ => false
 | .yld _ => false
 | .gr _ _ _ _ => false
def xz : List AV → Bool
 | [] => true
 | v :: r => xG v && xz r
end
def hid : List (Nat × Nat) → Nat → Bool
 | [], _ => false
 | p :: r, n => bif ze p.1 n then (bif zd n p.2 then true else hid r n) else hid r n
def memN : Nat → List Nat → Bool
 | _, [] => false
 | n, m :: r => bif za n m then true else memN n r
def St.get (s : St) (id : Nat) : Option AObj :=
 match s.only with
 | none => bif hid s.hide id then none else s.objs.get id
 | some p => bif hid s.hide id then none else bif ze p.1 id then s.objs.get id else bif memN id p.2 then s.objs.get id else none
def St.alloc (s : St) (o : AObj) : St := { s with objs := s.objs.set s.next o, next := Nat.succ s.next }
def minN (a b : Nat) : Nat := bif ze a b then a else b
def mark (m id : Nat) : Nat := Nat.lor m (Nat.shiftLeft 1 id)
def St.put (s : St) (id : Nat) (o : AObj) : St := { s with objs := s.objs.set id o, wm := mark s.wm id }
def St.del (s : St) (id : Nat) : St := { s with objs := s.objs.del id, wm := mark s.wm id }
def wA : Nat → List AV → Option (List AV)
 | 0, _ => some []
 | _ + 1, [] => none
 | n + 1, v :: r => match wA n r with
  | some l => some (v :: l)
  | none => none
def wK : Nat → List AV → List AV
 | 0, l => l
 | _ + 1, [] => []
 | n + 1, _ :: r => wK n r
def tkN : Nat → List AV → List AV
 | 0, _ => []
 | _ + 1, [] => []
 | n + 1, v :: r => v :: tkN n r
def cut (l : List AV) (off n : Nat) : Option (List AV) := wA n (wK off l)
def over : List AV → List AV → Option (List AV)
 | l, [] => some l
 | [], _ :: _ => none
 | _ :: l, v :: vs => match over l vs with
  | some r => some (v :: r)
  | none => none
def uR : List AV → Nat → List AV → Option (List AV)
 | l, 0, vs => over l vs
 | [], _ + 1, vs => match vs with
  | [] => some []
  | _ :: _ => none
 | v :: l, n + 1, vs => match uR l n vs with
  | some r => some (v :: r)
  | none => none
def reps : Nat → List AV → List AV
 | 0, _ => []
 | n + 1, z => z ++ reps n z
def lenN {α : Type} : List α → Nat
 | [] => 0
 | _ :: r => Nat.succ (lenN r)
def AV.cells : AV → List AV
 | .agg cs => cs
 | v => [v]
def Opd.ev (tm : Trie AV) : Opd → Option AV
 | .t i => tm.get i
 | .c v => some v
def evL (tm : Trie AV) : List Opd → Option (List AV)
 | [] => some []
 | x :: r => match x.ev tm, evL tm r with
  | some v, some vs => some (v :: vs)
  | _, _ => none
def evO (tm : Trie AV) : Option Opd → Option (Option AV)
 | none => some none
 | some x => match x.ev tm with
  | some v => some (some v)
  | none => none
def ltI : Int → Int → Bool
 | .ofNat a, .ofNat b => zd a b
 | .ofNat _, .negSucc _ => false
 | .negSucc _, .ofNat _ => true
 | .negSucc a, .negSucc b => zd b a
def eqI : Int → Int → Bool
 | .ofNat a, .ofNat b => za a b
 | .ofNat _, .negSucc _ => false
 | .negSucc _, .ofNat _ => false
 | .negSucc a, .negSucc b => za a b
def topN : IntKind → Nat
 | .i8 => 128 | .i16 => 32768 | .i32 => 2147483648 | .i64 => 9223372036854775808
 | .u8 => 256 | .u16 => 65536 | .u32 => 4294967296 | .u64 => 18446744073709551616
def vq (k : IntKind) (n : Int) : Int :=
 match n with
 | .ofNat a => bif zd a (topN k) then .ofNat a else k.wrap n
 | .negSucc _ => k.wrap n
def vK : IntKind → IntKind → Bool
 | .i8, .i8 | .i16, .i16 | .i32, .i32 | .i64, .i64 | .u8, .u8 | .u16, .u16 | .u32, .u32 | .u64, .u64 => true
 | _, _ => false
def bits (op : BinOp) (k : IntKind) (x y : Int) : Option Int :=
 match op with
 | .and => some (k.wrap ((BitVec.ofInt k.bits x) &&& (BitVec.ofInt k.bits y)).toNat)
 | .or => some (k.wrap ((BitVec.ofInt k.bits x) ||| (BitVec.ofInt k.bits y)).toNat)
 | .xor => some (k.wrap ((BitVec.ofInt k.bits x) ^^^ (BitVec.ofInt k.bits y)).toNat)
 | .andNot => some (k.wrap ((BitVec.ofInt k.bits x) &&& ~~~(BitVec.ofInt k.bits y)).toNat)
 | _ => none
def binI (op : BinOp) (k : IntKind) (x : Int) (k' : IntKind) (y : Int) : Option AV :=
 match op with
 | .shl => bif ltI y 0 then none else some (.int k (vq k (x * 2 ^ (min y.toNat k.bits))))
 | .shr => bif ltI y 0 then none else some (.int k (x.fdiv (2 ^ (min y.toNat k.bits))))
 | _ => bif vK k k' then
  match op with
  | .add => some (.int k (vq k (Int.add x y)))
  | .sub => some (.int k (vq k (Int.sub x y)))
  | .mul => some (.int k (vq k (Int.mul x y)))
  | .quo => bif eqI y 0 then none else some (.int k (vq k (x.tdiv y)))
  | .rem => bif eqI y 0 then none else some (.int k (x.tmod y))
  | .eql => some (.bool (eqI x y))
  | .neq => some (.bool (!eqI x y))
  | .lss => some (.bool (ltI x y))
  | .leq => some (.bool (!ltI y x))
  | .gtr => some (.bool (ltI y x))
  | .geq => some (.bool (!ltI x y))
  | op => match bits op k x y with
   | some r => some (.int k r)
   | none => none
  else none
def eqS : List Nat → List Nat → Bool
 | [], [] => true
 | a :: x, b :: y => bif za a b then eqS x y else false
 | _, _ => false
def ltS : List Nat → List Nat → Bool
 | _, [] => false
 | [], _ :: _ => true
 | a :: x, b :: y => bif zd a b then true else bif za a b then ltS x y else false
def ZI : Nat → List Nat → List Nat
 | 0, _ => []
 | _ + 1, [] => []
 | n + 1, v :: r => v :: ZI n r
def QZ : Nat → List Nat → List Nat
 | 0, l => l
 | _ + 1, [] => []
 | n + 1, _ :: r => QZ n r
def getS : List Nat → Nat → Option Nat
 | [], _ => none
 | v :: _, 0 => some v
 | _ :: r, n + 1 => getS r n
def binS (op : BinOp) (x y : List Nat) : Option AV :=
 match op with
 | .add => bif zd (zc (lenN x) (lenN y)) 9223372036854775808 then some (.str (x ++ y)) else none
 | .eql => some (.bool (eqS x y))
 | .neq => some (.bool (!eqS x y))
 | .lss => some (.bool (ltS x y))
 | .leq => some (.bool (ltS x y || eqS x y))
 | .gtr => some (.bool (!(ltS x y || eqS x y)))
 | .geq => some (.bool (!ltS x y))
 | _ => none
def eq1 (f : FK) (a b : AV) : Option Bool :=
 match f with
 | .i => match a, b with
  | .int k m, .int k' n => bif vK k k' then some (eqI m n) else none
  | _, _ => none
 | .s => match a, b with
  | .str s, .str t => some (eqS s t)
  | _, _ => none
 | .b => match a, b with
  | .bool p, .bool q => some (p == q)
  | _, _ => none
def gb : List FK → List AV → List AV → Option Bool
 | [], [], [] => some true
 | f :: fs, a :: x, b :: y =>
  match eq1 f a b with
  | some true => gb fs x y
  | some false => match gb fs x y with
   | some _ => some false
   | none => none
  | none => none
 | _, _, _ => none
def eqV (k : EqK) (a b : AV) : Option Bool :=
 match k with
 | .bool => match a, b with
  | .bool p, .bool q => some (p == q)
  | _, _ => none
 | .ptr => match a, b with
  | .nilp, .nilp => some true
  | .nilp, .ptr _ _ => some false
  | .ptr _ _, .nilp => some false
  | .nilp, .vp _ => some false
  | .vp _, .nilp => some false
  | .ptr i o, .ptr i' o' => bif za i i' then some (za o o') else none
  | _, _ => none
 | .slice => match a, b with
  | .nils, .nils => some true
  | .nils, .sl _ _ _ _ => some false
  | .sl _ _ _ _, .nils => some false
  | .nils, .sl0 => some false
  | .sl0, .nils => some false
  | .nils, .lst n _ _ => bif za n 0 then none else some false
  | .lst n _ _, .nils => bif za n 0 then none else some false
  | .nils, .gr _ _ _ _ => some false
  | .gr _ _ _ _, .nils => some false
  | _, _ => none
 | .map => match a, b with
  | .nilm, .nilm => some true
  | .nilm, .map _ => some false
  | .map _, .nilm => some false
  | _, _ => none
 | .func => match a, b with
  | .nilf, .nilf => some true
  | .nilf, .fn _ _ _ => some false
  | .fn _ _ _, .nilf => some false
  | _, _ => none
 | .iface => match a, b with
  | .nili, .ifc _ _ => some false
  | .ifc _ _, .nili => some false
  | _, _ => none
 | .ifacec => match a, b with
  | .nili, .nili => some true
  | .nili, .ifc _ _ => some false
  | .ifc _ _, .nili => some false
  | _, _ => none
 | .flat ks => match a, b with
  | .agg x, .agg y => gb ks x y
  | _, _ => none
 | .basic => none
def idx (i : AV) (n : Nat) : Option Nat :=
 match i with
 | .int _ (.ofNat a) => bif zd a n then some a else none
 | _ => none
def bnd (d : Nat) (i : Option AV) (n : Nat) : Option Nat :=
 match i with
 | none => some d
 | some (.int _ (.ofNat a)) => bif ze a n then some a else none
 | _ => none
def qT (G : List (List AV)) (s : St) (p : AV) (n : Nat) : Option (List AV) :=
 match p with
 | .ptr id off => match s.get id with
  | some (.row _ cs _ _) => cut cs off n
  | some (.giv cs) => cut cs off n
  | _ => none
 | .gptr g off => match G[g]? with
  | some cs => cut cs off n
  | none => none
 | .vp cs => wA n cs
 | _ => none
def scal : AV → Bool
 | .agg _ => false
 | .tup _ => false
 | _ => true
def wj : List AV → Bool
 | [] => true
 | v :: r => bif scal v then wj r else false
def uP (s : St) (p : AV) (vs : List AV) : Option St :=
 match p with
 | .ptr id off => match s.get id with
  | some (.row t cs e fz) => bif fz || !wj vs then none else match uR cs off vs with
   | some cs' => some (s.put id (.row t cs' e fz))
   | none => none
  | _ => none
 | _ => none
def uJ (zs : List AV) (tm : Trie AV) : List (Nat × Nat × Opd) → Option (List AV)
 | [] => some zs
 | p :: r => match p.2.2.ev tm with
  | some v => bif za (lenN v.cells) p.2.1 && ze 1 p.2.1 then
    match uR zs p.1 v.cells with
    | some zs' => uJ zs' tm r
    | none => none
   else none
  | none => none
def jR : AV → Option Nat
 | .nils => some 0
 | .sl0 => some 0
 | .sl _ _ n _ => some n
 | .str s => some (lenN s)
 | .lst n _ _ => some n
 | .gr _ _ n _ => some n
 | _ => none
def xo : List Nat → List AV
 | [] => []
 | b :: r => .int .u8 (.ofNat b) :: xo r
def qI (s : St) (esz n : Nat) : AV → Option (List AV)
 | .nils => some []
 | .sl0 => some []
 | .sl id off _ _ => match s.get id with
  | some (.row _ cs _ _) => cut cs off (zb n esz)
  | some (.giv cs) => cut cs off (zb n esz)
  | _ => none
 | .str t => bif za esz 1 then some (xo (ZI n t)) else none
 | .lst _ _ cs => wA (zb n esz) cs
 | .gr _ _ _ cs => wA (zb n esz) cs
 | _ => none
def grow (s : St) (t esz bytes : Nat) (cs : List AV) (need : Nat) : Option (AV × St) :=
 bif ze (zb (zb 2 need) bytes) 281474976710656 && ze 1 esz && zd need 9223372036854775808 then
  some (.sl s.next 0 need (.opn esz), s.alloc (.row t cs true false))
 else none
def gH (s : St) (t esz bytes : Nat) (cs : List AV) (need : Nat) : Option (AV × St) :=
 bif ze (zb (zb 2 need) bytes) 281474976710656 && ze 1 esz && zd need 9223372036854775808 && xz cs then
  some (.gr s.next esz need cs, s.alloc (.app t cs))
 else none
def appW (s : St) (t esz bytes : Nat) (x : AV) (n : Nat) (new : List AV) : Option (AV × St) :=
 match x with
 | .nils => bif s.md && xz new then gH s t esz bytes new n else grow s t esz bytes new n
 | .lst k ex cs => bif ex then match wA (zb k esz) cs with
   | some old => gH s t esz bytes (old ++ new) (zc k n)
   | none => none
  else none
 | .gr id esz' k cs => match s.get id with
  | some (.app t0 cells) => bif za esz esz' && za t0 t && za (lenN cells) (lenN cs) && wj new then gH (s.del id) t esz bytes (cs ++ new) (zc k n) else none
  | _ => none
 | .sl id off len c => match s.get id with
  | some (.row t0 cs e fz) =>
   match c with
   | .fix k => bif ze (zc len n) k then
     match uP s (.ptr id (zc off (zb len esz))) new with
     | some s' => some (.sl id off (zc len n) (.fix k), s')
     | none => none
    else match cut cs off (zb len esz) with
     | some old => grow s t esz bytes (old ++ new) (zc len n)
     | none => none
   | .opn esz' => bif za esz esz' && e && !fz then
     bif ze (zc off (zb (zc len n) esz)) (lenN cs) then
      match uP s (.ptr id (zc off (zb len esz))) new with
      | some s' => some (.sl id off (zc len n) (.opn esz), s')
      | none => none
     else bif wj new && za t0 t then match cut cs off (zb len esz) with
       | some old => grow (s.del id) t esz bytes (old ++ new) (zc len n)
       | none => none
      else none
    else none
  | _ => none
 | _ => none
def app0 (s : St) (x : AV) : Option (AV × St) :=
 match x with
 | .nils => some (.nils, s)
 | .sl0 => some (.sl0, s)
 | .sl id off len c => match c with
  | .fix k => bif ze len k then some (.sl id off len c, s) else none
  | .opn _ => some (.sl id off len c, s)
 | .lst n ex cs => some (.lst n ex cs, s)
 | .gr id esz n cs => some (.gr id esz n cs, s)
 | _ => none
def appV (s : St) (t esz bytes : Nat) (x y : AV) : Option (AV × St) :=
 match jR y with
 | none => none
 | some 0 => app0 s x
 | some (Nat.succ n) => match qI s esz (Nat.succ n) y with
  | none => none
  | some new => appW s t esz bytes x (Nat.succ n) new
def QM (s : St) (t esz bytes : Nat) (zs : List AV) (x y : AV) : Option (AV × St) :=
 match y with
 | .int .i64 (.ofNat 0) => none
 | .int .i64 (.ofNat (Nat.succ n)) => bif ze (zb (Nat.succ n) bytes) 281474976710656 && zd n 9223372036854775807 then appW s t esz bytes x (Nat.succ n) (reps (Nat.succ n) zs) else none
 | _ => none
def cpyV (s : St) (esz : Nat) (x y : AV) : Option (AV × St) :=
 match jR x, jR y with
 | some a, some b =>
  match minN b a with
  | 0 => some (.int .i64 0, s)
  | Nat.succ m => match x with
   | .sl id off _ _ => match qI s esz (Nat.succ m) y with
    | some cs => match uP s (.ptr id off) cs with
     | some s' => some (.int .i64 (.ofNat (Nat.succ m)), s')
     | none => none
    | none => none
   | _ => none
 | _, _ => none
def kF (f : FK) (k : AV) : List (AV × AV × Nat) → Nat → Option (Option (Nat × AV))
 | [], _ => some none
 | e :: es, i => match eq1 f k e.1 with
  | some true => some (some (i, e.2.1))
  | some false => kF f k es (Nat.succ i)
  | none => none
def setK (v : AV) (k : AV) : List (AV × AV × Nat) → Nat → List (AV × AV × Nat)
 | [], _ => []
 | e :: es, 0 => (k, v, e.2.2) :: es
 | e :: es, i + 1 => e :: setK v k es i
def delK : List (AV × AV × Nat) → Nat → List (AV × AV × Nat)
 | [], _ => []
 | _ :: es, 0 => es
 | e :: es, i + 1 => e :: delK es i
def Wz (seen : List Nat) : List (AV × AV × Nat) → List (AV × AV × Nat)
 | [] => []
 | e :: es => bif memN e.2.2 seen then Wz seen es else e :: Wz seen es
def XA (last : Nat) : List (AV × AV × Nat) → Bool
 | [] => true
 | e :: es => bif ze last e.2.2 then XA last es else false
def Vf (b : Nat) : List (AV × AV × Nat) → Option (AV × AV)
 | [] => none
 | e :: es => bif za e.2.2 b then some (e.1, e.2.1) else Vf b es
def ql : AV := .tup []
def minV (mx : Bool) : AV → List AV → Option AV
 | a, [] => some a
 | .int k x, .int _ y :: r => bif (bif mx then ltI x y else ltI y x) then minV mx (.int k y) r else minV mx (.int k x) r
 | _, _ => none
def ret1 (s : St) : Option AV → Option (AV × St)
 | some v => some (v, s)
 | none => none
def V5 (c a b : Option AV) : Option AV :=
 match c with
 | some (.bool true) => a
 | some (.bool false) => b
 | _ => none
def gI : List AV → Option AV
 | v :: _ => some v
 | [] => none
def vLd (G : List (List AV)) (s : St) (p : AV) : Option AV :=
 match qT G s p 1 with
 | some l => gI l
 | none => none
def vLdn (G : List (List AV)) (s : St) (n : Nat) (p : AV) : Option AV :=
 match qT G s p n with
 | some cs => some (.agg cs)
 | none => none
def oSt (s : St) (n : Nat) (p w : AV) : Option (AV × St) :=
 bif za (lenN w.cells) n then
  match uP s p w.cells with
  | some s' => some (ql, s')
  | none => none
 else none
def vNck (x : AV) : Option AV :=
 match x with
 | .ptr i o => some (.ptr i o)
 | .gptr g o => some (.gptr g o)
 | .fn f a c => some (.fn f a c)
 | .yld l => some (.yld l)
 | .map m => some (.map m)
 | .vp cs => some (.vp cs)
 | _ => none
def vBin (op : BinOp) (x y : AV) : Option AV :=
 match x with
 | .int k a => match y with
  | .int k' b => binI op k a k' b
  | _ => none
 | .str a => match y with
  | .str b => binS op a b
  | _ => none
 | _ => none
def vEqk (k : EqK) (neg : Bool) (a b : AV) : Option AV :=
 match eqV k a b with
 | some r => some (.bool (bif neg then !r else r))
 | none => none
def vUn (op : UnOp) (x : AV) : Option AV :=
 match op with
 | .neg => match x with
  | .int k n => some (.int k (vq k (Int.sub 0 n)))
  | _ => none
 | .not => match x with
  | .bool b => some (.bool (!b))
  | _ => none
 | .xor => match x with
  | .int k n => match bits .xor k (bif k.signed then -1 else k.max) n with
   | some r => some (.int k r)
   | none => none
  | _ => none
 | .plus => none
def vCi (k : IntKind) (x : AV) : Option AV :=
 match x with
 | .int _ n => some (.int k (vq k n))
 | _ => none
def vCss (x : AV) : Option AV :=
 match x with
 | .str t => some (.str t)
 | _ => none
def oCsb (s : St) (e : Nat) (x : AV) : Option (AV × St) :=
 match x with
 | .str t => bif zd (lenN t) 9223372036854775808 then
   bif s.md then some (.lst (lenN t) false (xo t), s) else some (.sl s.next 0 (lenN t) (.opn 1), s.alloc (.row e (xo t) true false))
  else none
 | _ => none
def qN : List AV → Option (List Nat)
 | [] => some []
 | v :: r => match v with
  | .int .u8 (.ofNat n) => bif zd n 256 then
    match qN r with
    | some l => some (n :: l)
    | none => none
   else none
  | _ => none
def vStr : Option (List Nat) → Option AV
 | some b => some (.str b)
 | none => none
def qk : Option (List AV) → Option (List Nat)
 | some l => qN l
 | none => none
def vCbs (s : St) (x : AV) : Option AV :=
 match x with
 | .nils => some (.str [])
 | .sl0 => some (.str [])
 | .sl id off n _ => match s.get id with
  | some (.row _ cs _ _) => vStr (qk (cut cs off n))
  | some (.giv cs) => vStr (qk (cut cs off n))
  | _ => none
 | .lst n _ cs => vStr (qk (wA n cs))
 | .gr _ _ n cs => vStr (qk (wA n cs))
 | _ => none
def xB (c : Nat) : Bool := bif zd c 55296 then true else (ze 57344 c && ze c 1114111)
def encC (c : Nat) : List Nat :=
 bif zd c 128 then [c] else bif zd c 2048 then [zc 192 (zg c 64), zc 128 (zf c 64)]
 else bif zd c 65536 then [zc 224 (zg c 4096), zc 128 (zf (zg c 64) 64), zc 128 (zf c 64)]
 else [zc 240 (zg c 262144), zc 128 (zf (zg c 4096) 64), zc 128 (zf (zg c 64) 64), zc 128 (zf c 64)]
def encL (n : Int) : List Nat :=
 match n with
 | .ofNat c => encC (bif xB c then c else 65533)
 | .negSucc _ => [239, 191, 189]
def decC (b : Nat) : Bool := za (zg b 64) 2
def dec2 (b0 b1 : Nat) : Nat := zc (zb (zf b0 32) 64) (zf b1 64)
def dec3 (b0 b1 b2 : Nat) : Nat := zc (zc (zb (zf b0 16) 4096) (zb (zf b1 64) 64)) (zf b2 64)
def dec4 (b0 b1 b2 b3 : Nat) : Nat := zc (zc (zc (zb (zf b0 8) 262144) (zb (zf b1 64) 4096)) (zb (zf b2 64) 64)) (zf b3 64)
def decL (l : List Nat) : Nat × Nat :=
 match l with
 | [] => (65533, 1)
 | b0 :: r => bif zd b0 128 then (b0, 1) else
  match r with
  | [] => (65533, 1)
  | b1 :: r1 => bif za (zg b0 32) 6 && decC b1 then (bif ze 128 (dec2 b0 b1) then (dec2 b0 b1, 2) else (65533, 1)) else
   match r1 with
   | [] => (65533, 1)
   | b2 :: r2 => bif za (zg b0 16) 14 && decC b1 && decC b2 then (bif ze 2048 (dec3 b0 b1 b2) && xB (dec3 b0 b1 b2) then (dec3 b0 b1 b2, 3) else (65533, 1)) else
    match r2 with
    | [] => (65533, 1)
    | b3 :: _ => bif za (zg b0 8) 30 && decC b1 && decC b2 && decC b3 then (bif ze 65536 (dec4 b0 b1 b2 b3) && xB (dec4 b0 b1 b2 b3) then (dec4 b0 b1 b2 b3, 4) else (65533, 1)) else (65533, 1)
def vCis (x : AV) : Option AV :=
 match x with
 | .int _ n => some (.str (encL n))
 | _ => none
def oMsl (s : St) (e bytes : Nat) (zs : List AV) (l c : AV) : Option (AV × St) :=
 match l with
 | .int .i64 (.ofNat l) => match c with
  | .int .i64 (.ofNat c) =>
   bif ze l c && ze (zb c bytes) 281474976710656 && zd c 9223372036854775808 then
    some (.sl s.next 0 l (.fix c), s.alloc (.row e (reps c zs) false false))
   else none
  | _ => none
 | _ => none
def vSls (x : AV) (lo hi : Option AV) : Option AV :=
 match x with
 | .str t => match bnd (lenN t) hi (lenN t) with
  | some h => match bnd 0 lo h with
   | some l => some (.str (ZI (zh h l) (QZ l t)))
   | none => none
  | none => none
 | _ => none
def vSlF (esz n : Nat) (ex : Bool) (cs : List AV) (lo hi mx : Option AV) : Option AV :=
 match mx with
 | none => match bnd n hi n with
  | some h => match bnd 0 lo h with
   | some l => some (.lst (zh h l) (ex && za h n) (tkN (zb (zh h l) esz) (wK (zb l esz) cs)))
   | none => none
  | none => none
 | some m => match bnd n (some m) n with
  | some m => match bnd n hi m with
   | some h => match bnd 0 lo h with
    | some l => some (.lst (zh h l) (za h m) (tkN (zb (zh h l) esz) (wK (zb l esz) cs)))
    | none => none
   | none => none
  | none => none
def vCut (id off esz m len : Nat) (lo hi : Option AV) : Option AV :=
 match bnd len hi m with
 | some h => match bnd 0 lo h with
  | some l => some (.sl id (bif za m l then off else zc off (zb l esz)) (zh h l) (.fix (zh m l)))
  | none => none
 | none => none
def vSlv (esz : Nat) (x : AV) (lo hi mx : Option AV) : Option AV :=
 match x with
 | .nils => match bnd 0 mx 0 with
  | some _ => match bnd 0 hi 0 with
   | some _ => match bnd 0 lo 0 with
    | some _ => some .nils
    | none => none
   | none => none
  | none => none
 | .sl0 => match mx with
  | none => match bnd 0 hi 0 with
   | some _ => match bnd 0 lo 0 with
    | some _ => some .sl0
    | none => none
   | none => none
  | some _ => none
 | .sl id off len c => match c with
  | .fix c => match bnd c mx c with
   | some m => vCut id off esz m len lo hi
   | none => none
  | .opn e => bif za e esz then
    match mx with
    | none => match bnd len hi len with
     | some h => match bnd 0 lo h with
      | some l => bif za l 0 then some (.sl id off h (.opn e))
       else bif zd l len then some (.sl id (zc off (zb l esz)) (zh h l) (.opn e))
       else bif za h l then some .sl0 else none
      | none => none
     | none => none
    | some mx => match bnd len (some mx) len with
     | some m => vCut id off esz m len lo hi
     | none => none
   else none
 | .lst n ex cs => vSlF esz n ex cs lo hi mx
 | .gr _ e n cs => bif za e esz then vSlF esz n false cs lo hi mx else none
 | _ => none
def vSla (n esz : Nat) (x : AV) (lo hi mx : Option AV) : Option AV :=
 match x with
 | .ptr id off => match bnd n mx n with
  | some m => vCut id off esz m n lo hi
  | none => none
 | _ => none
def vFa (off : Nat) (x : AV) : Option AV :=
 match x with
 | .ptr id o => some (.ptr id (zc o off))
 | .gptr g o => some (.gptr g (zc o off))
 | .vp cs => some (.vp (wK off cs))
 | _ => none
def aggO : Option (List AV) → Option AV
 | some l => some (.agg l)
 | none => none
def vFd (off : Nat) (n : Option Nat) (x : AV) : Option AV :=
 match x with
 | .agg cs => match n with
  | none => gI (wK off cs)
  | some n => aggO (cut cs off n)
 | _ => none
def vIa (esz : Nat) (x i : AV) : Option AV :=
 match x with
 | .sl id off len _ => match idx i len with
  | some k => some (.ptr id (zc off (zb k esz)))
  | none => none
 | .lst n _ cs => match idx i n with
  | some k => some (.vp (wK (zb k esz) cs))
  | none => none
 | .gr _ e n cs => bif za e esz then match idx i n with
   | some k => some (.vp (wK (zb k esz) cs))
   | none => none
  else none
 | _ => none
def vIaa (n esz : Nat) (x i : AV) : Option AV :=
 match x with
 | .ptr id off => match idx i n with
  | some k => some (.ptr id (zc off (zb k esz)))
  | none => none
 | .gptr g off => match idx i n with
  | some k => some (.gptr g (zc off (zb k esz)))
  | none => none
 | .vp cs => match idx i n with
  | some k => some (.vp (wK (zb k esz) cs))
  | none => none
 | _ => none
def Js : Option Nat → Option AV
 | some b => some (.int .u8 (.ofNat b))
 | none => none
def vIxs (x i : AV) : Option AV :=
 match x with
 | .str t => match i with
  | .int _ (.ofNat i) => Js (getS t i)
  | _ => none
 | _ => none
def vIxa (n esz : Nat) (ag : Bool) (x i : AV) : Option AV :=
 match x with
 | .agg cs => match idx i n with
  | some k => bif ag then aggO (cut cs (zb k esz) esz) else gI (wK (zb k esz) cs)
  | none => none
 | _ => none
def VB (z : AV) (ok : Bool) : Option (Option (Nat × AV)) → Option AV
 | some (some p) => some (bif ok then .tup [p.2, .bool true] else p.2)
 | some none => some (bif ok then .tup [z, .bool false] else z)
 | none => none
def vLk (s : St) (f : FK) (z : AV) (ok : Bool) (m k : AV) : Option AV :=
 match m with
 | .nilm => VB z ok (some none)
 | .map id => match s.get id with
  | some (.map es _) => VB z ok (kF f k es 0)
  | _ => none
 | _ => none
def oMu (s : St) (f : FK) (m k v : AV) : Option (AV × St) :=
 match m with
 | .map id => match s.get id with
  | some (.map es clock) => match kF f k es 0 with
   | some (some p) => some (ql, s.put id (.map (setK v k es p.1) clock))
   | some none => some (ql, s.put id (.map (es ++ [(k, v, clock)]) (Nat.succ clock)))
   | none => none
  | _ => none
 | _ => none
def oMd (s : St) (f : FK) (m k : AV) : Option (AV × St) :=
 match m with
 | .nilm => some (ql, s)
 | .map id => match s.get id with
  | some (.map es clock) => match kF f k es 0 with
   | some (some p) => some (ql, s.put id (.map (delK es p.1) clock))
   | some none => some (ql, s.put id (.map es clock))
   | none => none
  | _ => none
 | _ => none
def oRs (s : St) (x : AV) : Option (AV × St) :=
 match x with
 | .str t => some (.ptr s.next 0, s.alloc (.siter t 0))
 | _ => none
def oNs (s : St) (it : AV) : Option (AV × St) :=
 match it with
 | .ptr id 0 => match s.get id with
  | some (.siter t pos) => match QZ pos t with
   | b :: r => some (.tup [.bool true, .int .i64 (.ofNat pos), .int .i32 (.ofNat (decL (b :: r)).1)], s.put id (.siter t (zc pos (decL (b :: r)).2)))
   | [] => some (.tup [.bool false], s)
  | _ => none
 | _ => none
def oRm (s : St) (x : AV) : Option (AV × St) :=
 match x with
 | .nilm => some (.ptr s.next 0, s.alloc (.miter none 0 [] 0))
 | .map id => match s.get id with
  | some (.map _ clock) => some (.ptr s.next 0, s.alloc (.miter (some id) clock [] clock))
  | _ => none
 | _ => none
def gJ (s : St) (id m since : Nat) (seen : List Nat) (clock : Nat) : List (AV × AV × Nat) → Option (AV × St)
 | [] => some (.tup [.bool false], s)
 | e :: r => match r with
  | [] => bif zd e.2.2 since then some (.tup [.bool true, e.1, e.2.1], s.put id (.miter (some m) since (seen ++ [e.2.2]) clock)) else none
  | _ :: _ => none
def J6 (seen : List Nat) (last : Nat) (es : List (AV × AV × Nat)) : Bool :=
 match seen with
 | [] => false
 | _ :: _ => match es with
  | [] => false
  | _ :: _ => XA last es
def oNm (s : St) (it : AV) : Option (AV × St) :=
 match it with
 | .ptr id 0 => match s.get id with
  | some (.miter none _ _ _) => some (.tup [.bool false], s)
  | some (.miter (some m) since seen last) => match s.get m with
   | some (.map es clock) => bif J6 seen last es then none else gJ s id m since seen clock (Wz seen es)
   | _ => none
  | _ => none
 | _ => none
def Wx : List Nat → Option Nat
 | [] => none
 | n :: r => match r with
  | [] => some n
  | _ :: _ => Wx r
def ztj : Option (AV × AV) → Option AV
 | some p => some (.tup [p.1, p.2])
 | none => none
def vEn (s : St) (it : AV) : Option AV :=
 match it with
 | .ptr id 0 => match s.get id with
  | some (.miter (some m) _ seen stepped) => match Wx seen with
   | some b => match s.get m with
    | some (.map es clock) => bif za clock stepped then ztj (Vf b es) else none
    | _ => none
   | none => none
  | _ => none
 | _ => none
def vEx (x : AV) (i : Nat) : Option AV :=
 match x with
 | .tup vs => gI (wK i vs)
 | _ => none
def vLen (s : St) (k : LK) (x : AV) : Option AV :=
 match k with
 | .s => match x with
  | .str t => some (.int .i64 (.ofNat (lenN t)))
  | _ => none
 | .v => match x with
  | .nils => some (.int .i64 (.ofNat 0))
  | .sl0 => some (.int .i64 (.ofNat 0))
  | .sl _ _ n _ => some (.int .i64 (.ofNat n))
  | .lst n _ _ => some (.int .i64 (.ofNat n))
  | .gr _ _ n _ => some (.int .i64 (.ofNat n))
  | _ => none
 | .m => match x with
  | .nilm => some (.int .i64 (.ofNat 0))
  | .map id => match s.get id with
   | some (.map es _) => some (.int .i64 (.ofNat (lenN es)))
   | _ => none
  | _ => none
def vCap (x : AV) : Option AV :=
 match x with
 | .nils => some (.int .i64 (.ofNat 0))
 | .sl _ _ _ (.fix n) => some (.int .i64 (.ofNat n))
 | _ => none
def vMn (mx : Bool) : List AV → Option AV
 | v :: r => minV mx v r
 | [] => none
def oCbb (s : St) (x : AV) : Option (AV × St) :=
 match x with
 | .sl id off len c => match s.get id with
  | some (.row e cs ext fz) => some (.sl id off len c, s.put id (.row e cs ext fz))
  | _ => none
 | _ => none
def vCup (s : St) (x : AV) : Option AV :=
 match x with
 | .nilp => some .nilp
 | .ptr id off => match s.get id with
  | some (.row _ cs _ _) => bif zd off (lenN cs) then some (.ptr id off) else none
  | _ => none
 | _ => none
def memL (e n : Nat) : List (Nat × Nat) → Bool
 | [] => false
 | p :: r => bif za p.1 e && za p.2 n then true else memL e n r
def vCpu (s : St) (L : List (Nat × Nat)) (x : AV) : Option AV :=
 match x with
 | .nilp => some .nilp
 | .ptr id 0 => match s.get id with
  | some (.row e cs false _) => bif memL e (lenN cs) L then some (.ptr id 0) else none
  | _ => none
 | _ => none
def zwO : List (AV × AV × Nat) → Nat → Nat
 | [], _ => 0
 | e :: _, 0 => e.2.2
 | _ :: es, i + 1 => zwO es i
def oMe (s : St) (f : FK) (z : AV) (m k : AV) : Option (AV × St) :=
 match m with
 | .map id => match s.get id with
  | some (.map es clock) => match kF f k es 0 with
   | some (some p) => some (.tup [p.2, .int .i64 (.ofNat (zwO es p.1))], s.put id (.map (setK p.2 k es p.1) clock))
   | some none => some (.tup [z, .int .i64 (.ofNat clock)], s.put id (.map (es ++ [(k, z, clock)]) (Nat.succ clock)))
   | none => none
  | _ => none
 | _ => none
def setB (b : Nat) (v : AV) : List (AV × AV × Nat) → Option (List (AV × AV × Nat))
 | [] => none
 | e :: es => bif za e.2.2 b then some ((e.1, v, e.2.2) :: es) else match setB b v es with
  | some r => some (e :: r)
  | none => none
def oEs (s : St) (m t v : AV) : Option (AV × St) :=
 match m with
 | .map id => match t with
  | .int _ (.ofNat b) => match s.get id with
   | some (.map es clock) => match setB b v es with
    | some es' => some (ql, s.put id (.map es' clock))
    | none => none
   | _ => none
  | _ => none
 | _ => none
def vUsd (x : AV) : Option AV :=
 match x with
 | .nils => some .nilp
 | .sl id off len c => match c with
  | .fix c => bif za c 0 then none else some (.ptr id off)
  | .opn _ => bif za len 0 then none else some (.ptr id off)
 | _ => none
def oUst (s : St) (e : Nat) (x n : AV) : Option (AV × St) :=
 match n with
 | .int _ (.ofNat n) => match n with
  | 0 => match x with
   | .nilp => some (.str [], s)
   | .ptr _ _ => some (.str [], s)
   | _ => none
  | Nat.succ m => match x with
   | .ptr id off => match s.get id with
    | some (.row t cs ext _) => bif za t e && zd m 9223372036854775807 then
      match qk (cut cs off (Nat.succ m)) with
      | some b => some (.str b, s.put id (.row t cs ext true))
      | none => none
     else none
    | _ => none
   | _ => none
 | _ => none
def JY (c : Nat) : List Nat → Nat → Option Nat
 | [], _ => none
 | b :: r, i => bif za b c then some i else JY c r (Nat.succ i)
def vIbs (x c : AV) : Option AV :=
 match x with
 | .str t => match c with
  | .int .u8 (.ofNat c) => bif zd c 256 then match JY c t 0 with
   | some i => some (.int .i64 (.ofNat i))
   | none => some (.int .i64 (.negSucc 0)) else none
  | _ => none
 | _ => none
def v1 (tm : Trie AV) (s : St) (x : Opd) (f : AV → Option AV) : Option (AV × St) :=
 match x.ev tm with
 | some v => ret1 s (f v)
 | none => none
def v2 (tm : Trie AV) (s : St) (x y : Opd) (f : AV → AV → Option AV) : Option (AV × St) :=
 match x.ev tm with
 | some v => match y.ev tm with
  | some w => ret1 s (f v w)
  | none => none
 | none => none
def o1 (tm : Trie AV) (x : Opd) (f : AV → Option (AV × St)) : Option (AV × St) :=
 match x.ev tm with
 | some v => f v
 | none => none
def o2 (tm : Trie AV) (x y : Opd) (f : AV → AV → Option (AV × St)) : Option (AV × St) :=
 match x.ev tm with
 | some v => match y.ev tm with
  | some w => f v w
  | none => none
 | none => none
def o3 (tm : Trie AV) (x y z : Opd) (f : AV → AV → AV → Option (AV × St)) : Option (AV × St) :=
 match x.ev tm with
 | some v => match y.ev tm with
  | some w => match z.ev tm with
   | some u => f v w u
   | none => none
  | none => none
 | none => none
def vs3 (tm : Trie AV) (s : St) (x : Opd) (lo hi : Option Opd) (f : AV → Option AV → Option AV → Option AV) : Option (AV × St) :=
 match x.ev tm with
 | some v => match evO tm lo with
  | some l => match evO tm hi with
   | some h => ret1 s (f v l h)
   | none => none
  | none => none
 | none => none
def vs4 (tm : Trie AV) (s : St) (x : Opd) (lo hi mx : Option Opd) (f : AV → Option AV → Option AV → Option AV → Option AV) : Option (AV × St) :=
 match evO tm mx with
 | some m => vs3 tm s x lo hi (fun v l h => f v l h m)
 | none => none
def vL (tm : Trie AV) (s : St) (l : List Opd) (f : List AV → Option AV) : Option (AV × St) :=
 match evL tm l with
 | some vs => ret1 s (f vs)
 | none => none
def vLL (tm : Trie AV) (s : St) (l m : List Opd) (f : List AV → List AV → Option AV) : Option (AV × St) :=
 match evL tm l with
 | some us => match evL tm m with
  | some vs => ret1 s (f us vs)
  | none => none
 | none => none
def lk (s : St) (e : Nat) (zs : List AV) : Option (AV × St) := some (.ptr s.next 0, s.alloc (.row e zs false false))
def oBox (s : St) (e : Nat) (v : AV) : Option (AV × St) := some (.ptr s.next 0, s.alloc (.row e v.cells false false))
def oBsl (s : St) (e len : Nat) : Option (List AV) → Option (AV × St)
 | some cs => bif s.md && xz cs then some (.lst len true cs, s) else some (.sl s.next 0 len (.fix len), s.alloc (.row e cs false false))
 | none => none
def zpp (s : St) : Option (AV × St) := some (.map s.next, s.alloc (.map [] 0))
abbrev ztc (x : Opd) (_G : Env) (tm : Trie AV) (s : St) : Option (AV × St) := v1 tm s x some
abbrev K3 (c : Opd) (a : Opd) (b : Opd) (_G : Env) (tm : Trie AV) (s : St) : Option (AV × St) := ret1 s (V5 (c.ev tm) (a.ev tm) (b.ev tm))
abbrev Yq (e : Nat) (zs : List AV) (_G : Env) (_tm : Trie AV) (s : St) : Option (AV × St) := lk s e zs
abbrev PR (e : Nat) (x : Opd) (_G : Env) (tm : Trie AV) (s : St) : Option (AV × St) := o1 tm x (oBox s e)
abbrev VN (zs : List AV) (ps : List (Nat × Nat × Opd)) (_G : Env) (tm : Trie AV) (s : St) : Option (AV × St) := ret1 s (aggO (uJ zs tm ps))
abbrev PS (e : Nat) (zs : List AV) (len : Nat) (ps : List (Nat × Nat × Opd)) (_G : Env) (tm : Trie AV) (s : St) : Option (AV × St) := oBsl s e len (uJ zs tm ps)
abbrev zta (x : Opd) (G : Env) (tm : Trie AV) (s : St) : Option (AV × St) := v1 tm s x (vLd G.globs s)
abbrev P3 (n : Nat) (x : Opd) (G : Env) (tm : Trie AV) (s : St) : Option (AV × St) := v1 tm s x (vLdn G.globs s n)
abbrev ztg (n : Nat) (x : Opd) (v : Opd) (_G : Env) (tm : Trie AV) (s : St) : Option (AV × St) := o2 tm x v (oSt s n)
abbrev P7 (x : Opd) (_G : Env) (tm : Trie AV) (s : St) : Option (AV × St) := v1 tm s x vNck
abbrev PQ (op : BinOp) (x : Opd) (y : Opd) (_G : Env) (tm : Trie AV) (s : St) : Option (AV × St) := v2 tm s x y (vBin op)
abbrev PZ (k : EqK) (neg : Bool) (x : Opd) (y : Opd) (_G : Env) (tm : Trie AV) (s : St) : Option (AV × St) := v2 tm s x y (vEqk k neg)
abbrev zth (op : UnOp) (x : Opd) (_G : Env) (tm : Trie AV) (s : St) : Option (AV × St) := v1 tm s x (vUn op)
abbrev zu6 (k : IntKind) (x : Opd) (_G : Env) (tm : Trie AV) (s : St) : Option (AV × St) := v1 tm s x (vCi k)
abbrev PX (e : Nat) (x : Opd) (_G : Env) (tm : Trie AV) (s : St) : Option (AV × St) := o1 tm x (oCsb s e)
abbrev PT (x : Opd) (_G : Env) (tm : Trie AV) (s : St) : Option (AV × St) := o1 tm x (oCbb s)
abbrev PY (x : Opd) (_G : Env) (tm : Trie AV) (s : St) : Option (AV × St) := v1 tm s x (vCup s)
abbrev PW (L : List (Nat × Nat)) (x : Opd) (_G : Env) (tm : Trie AV) (s : St) : Option (AV × St) := v1 tm s x (vCpu s L)
abbrev PU (x : Opd) (_G : Env) (tm : Trie AV) (s : St) : Option (AV × St) := v1 tm s x (vCbs s)
abbrev PV (x : Opd) (_G : Env) (tm : Trie AV) (s : St) : Option (AV × St) := v1 tm s x vCis
abbrev P6 (t : Nat) (x : Opd) (_G : Env) (tm : Trie AV) (s : St) : Option (AV × St) := v1 tm s x (fun v => some (.ifc t v))
abbrev P5 (f : Nat) (fst : List Opd) (cap : List Opd) (_G : Env) (tm : Trie AV) (s : St) : Option (AV × St) := vLL tm s fst cap (fun us vs => some (.fn f us vs))
abbrev zza (x : Opd) (lo : Option Opd) (hi : Option Opd) (_G : Env) (tm : Trie AV) (s : St) : Option (AV × St) := vs3 tm s x lo hi vSls
abbrev zzb (esz : Nat) (x : Opd) (lo : Option Opd) (hi : Option Opd) (mx : Option Opd) (_G : Env) (tm : Trie AV) (s : St) : Option (AV × St) := vs4 tm s x lo hi mx (vSlv esz)
abbrev P9 (n : Nat) (esz : Nat) (x : Opd) (lo : Option Opd) (hi : Option Opd) (mx : Option Opd) (_G : Env) (tm : Trie AV) (s : St) : Option (AV × St) := vs4 tm s x lo hi mx (vSla n esz)
abbrev zu8 (off : Nat) (x : Opd) (_G : Env) (tm : Trie AV) (s : St) : Option (AV × St) := v1 tm s x (vFa off)
abbrev zu9 (esz : Nat) (x : Opd) (i : Opd) (_G : Env) (tm : Trie AV) (s : St) : Option (AV × St) := v2 tm s x i (vIa esz)
abbrev P0 (n : Nat) (esz : Nat) (x : Opd) (i : Opd) (_G : Env) (tm : Trie AV) (s : St) : Option (AV × St) := v2 tm s x i (vIaa n esz)
abbrev P2 (x : Opd) (i : Opd) (_G : Env) (tm : Trie AV) (s : St) : Option (AV × St) := v2 tm s x i vIxs
abbrev ztf (x : Opd) (_G : Env) (tm : Trie AV) (s : St) : Option (AV × St) := o1 tm x (oRs s)
abbrev zte (it : Opd) (_G : Env) (tm : Trie AV) (s : St) : Option (AV × St) := o1 tm it (oNs s)
abbrev zu7 (x : Opd) (i : Nat) (_G : Env) (tm : Trie AV) (s : St) : Option (AV × St) := v1 tm s x (fun v => vEx v i)
abbrev zu5 (_ : Nat) (_ : List Opd) (_G : Env) (_tm : Trie AV) (_s : St) : Option (AV × St) := none
abbrev zob (_ : Opd) (_ : List Opd) (_G : Env) (_tm : Trie AV) (_s : St) : Option (AV × St) := none
abbrev P4 (k : LK) (x : Opd) (_G : Env) (tm : Trie AV) (s : St) : Option (AV × St) := v1 tm s x (vLen s k)
abbrev PP (e : Nat) (esz : Nat) (bytes : Nat) (x : Opd) (y : Opd) (_G : Env) (tm : Trie AV) (s : St) : Option (AV × St) := o2 tm x y (appV s e esz bytes)
abbrev ztb (xs : List Opd) (_G : Env) (tm : Trie AV) (s : St) : Option (AV × St) := vL tm s xs (vMn false)
abbrev zzd (x : Opd) (_G : Env) (tm : Trie AV) (s : St) : Option (AV × St) := v1 tm s x vUsd
abbrev zze (e : Nat) (x : Opd) (n : Opd) (_G : Env) (tm : Trie AV) (s : St) : Option (AV × St) := o2 tm x n (oUst s e)
abbrev P1 (x : Opd) (c : Opd) (_G : Env) (tm : Trie AV) (s : St) : Option (AV × St) := v2 tm s x c vIbs
abbrev P8 (x : Opd) (_G : Env) (tm : Trie AV) (s : St) : Option (AV × St) := v1 tm s x some
abbrev zzc  (_G : Env) (_tm : Trie AV) (_s : St) : Option (AV × St) := none
noncomputable def opv (G : Env) (op : IOp) (tm : Trie AV) (s : St) : Option (AV × St) :=
 IOp.rec (motive := fun _ => Env → Trie AV → St → Option (AV × St)) ztc K3 Yq PR VN PS zta P3 ztg P7 PQ PZ zth zu6 PX PT PY PW PU PV P6 P5 zza zzb P9 zu8 zu9 P0 P2 ztf zte zu7 zu5 zob P4 PP ztb zzd zze P1 P8 zzc op G tm s
def qp (tm : Trie AV) (d : Option Nat) (v : AV) : Trie AV :=
 match d with
 | some i => tm.set i v
 | none => tm
def wH : Trie AV → Nat → List AV → Trie AV
 | tm, _, [] => tm
 | tm, i, v :: r => wH (tm.set i v) (Nat.succ i) r
def kN : Trie AV → List Nat → List AV → Option (Trie AV)
 | tm, [], [] => some tm
 | tm, p :: ps, v :: vs => kN (tm.set p v) ps vs
 | _, _, _ => none
def jo (g : Option (Nat × Bool)) (tm : Trie AV) : Option Bool :=
 match g with
 | none => some true
 | some (i, w) => match tm.get i with
  | some (.bool b) => some (b == w)
  | some _ => some false
  | none => none
def resV (G : List (List AV)) (tm : Trie AV) (s : St) : List RV → Option (List AV)
 | [] => some []
 | r :: rest => match (match r with
   | .t i => tm.get i
   | .c1 a => match tm.get a with
    | some p => match qT G s p 1 with
     | some (v :: _) => some v
     | _ => none
    | none => none
   | .cn a n => match tm.get a with
    | some p => match qT G s p n with
     | some cs => some (.agg cs)
     | none => none
    | none => none : Option AV), resV G tm s rest with
  | some v, some vs => some (v :: vs)
  | _, _ => none
def qi : List AV → AV
 | [v] => v
 | vs => .tup vs
def x9 (s : St) : List Nat → Option St
 | [] => some s
 | d :: r => match s.get d with
  | some .dfd => x9 (s.put d .dfd0) r
  | _ => none
def tPtr : Option AV → Option (List Nat)
 | some (.ptr id _) => some [id]
 | some (.sl id _ _ _) => some [id]
 | some (.map id) => some [id]
 | some _ => some []
 | none => none
def znw : Option AV → Option (List Nat)
 | some (.ptr id _) => some [id]
 | some (.sl id _ _ _) => some [id]
 | some (.map id) => some [id]
 | some (.gr id _ _ _) => some [id]
 | some _ => some []
 | none => none
def znv (a b : Option (List Nat)) : Option (List Nat) :=
 match a, b with
 | some a, some b => some (a ++ b)
 | _, _ => none
def wM (op : IOp) (tm : Trie AV) : Option (List Nat) :=
 match op with
 | .ld x | .ldn _ x | .st _ x _ | .len _ x | .cbs x | .cbb x | .cup x | .cpu _ x | .ust _ x _ => tPtr (x.ev tm)
 | .app _ _ _ x y => znv (znw (x.ev tm)) (tPtr (y.ev tm))
 | .call _ _ | .cv _ _ | .ns _ => none
 | _ => some []
structure LogE where
 idx : Nat
 lo : Nat
 hi : Nat
 tch : Option (List Nat)
 wm : Nat
def wV (deps : Nat) : List LogE → List (Nat × Nat) → List (Nat × Nat)
 | [], h => h
 | e :: r, h => bif za e.lo e.hi || deps.testBit e.idx then wV deps r h else (e.lo, e.hi) :: wV deps r h
def offMask (m : Nat) : Option (List Nat) → Bool
 | none => false
 | some l => go l
 where
 go : List Nat → Bool
 | [] => true
 | a :: r => bif m.testBit a then false else go r
def vy (deps : Nat) (tch : Option (List Nat)) (wm : Nat) : List LogE → Bool
 | [] => true
 | e :: r => bif deps.testBit e.idx then vy deps tch wm r
  else bif (za wm 0 || offMask wm e.tch) && (za e.wm 0 || offMask e.wm tch) then vy deps tch wm r else false
structure Self where
 call : Nat → List AV → St → Option (AV × St)
 loop : Option Nat → ICode → Fr → St → Option (Res × Fr × St)
 round : Nat → List AV → St → Option (AV × St)
def evCv (S : Self) (x : Option AV) (vs : Option (List AV)) (s : St) : Option (AV × St) :=
 match vs with
 | some vs => match x with
  | some (.fn f a c) => S.call f (a ++ vs ++ c) s
  | some (.yld l) => S.round l vs s
  | _ => none
 | none => none
def evCl (S : Self) (f : Nat) (vs : Option (List AV)) (s : St) : Option (AV × St) :=
 match vs with
 | some vs => S.call f vs s
 | none => none
abbrev zvx (f : Nat) (args : List Opd) (_G : Env) (S : Self) (tm : Trie AV) (s : St) : Option (AV × St) := evCl S f (evL tm args) s
abbrev zpM (x : Opd) (args : List Opd) (_G : Env) (S : Self) (tm : Trie AV) (s : St) : Option (AV × St) := evCv S (x.ev tm) (evL tm args) s
abbrev zpS (y0 : Opd) (G : Env) (_S : Self) (tm : Trie AV) (s : St) : Option (AV × St) := ztc y0 G tm s
abbrev zvy (y0 : Opd) (y1 : Opd) (y2 : Opd) (G : Env) (_S : Self) (tm : Trie AV) (s : St) : Option (AV × St) := K3 y0 y1 y2 G tm s
abbrev zyu (y0 : Nat) (y1 : List AV) (G : Env) (_S : Self) (tm : Trie AV) (s : St) : Option (AV × St) := Yq y0 y1 G tm s
abbrev zsZ (y0 : Nat) (y1 : Opd) (G : Env) (_S : Self) (tm : Trie AV) (s : St) : Option (AV × St) := PR y0 y1 G tm s
abbrev zyv (y0 : List AV) (y1 : List (Nat × Nat × Opd)) (G : Env) (_S : Self) (tm : Trie AV) (s : St) : Option (AV × St) := VN y0 y1 G tm s
abbrev zs0 (y0 : Nat) (y1 : List AV) (y2 : Nat) (y3 : List (Nat × Nat × Opd)) (G : Env) (_S : Self) (tm : Trie AV) (s : St) : Option (AV × St) := PS y0 y1 y2 y3 G tm s
abbrev zpQ (y0 : Opd) (G : Env) (_S : Self) (tm : Trie AV) (s : St) : Option (AV × St) := zta y0 G tm s
abbrev zrb (y0 : Nat) (y1 : Opd) (G : Env) (_S : Self) (tm : Trie AV) (s : St) : Option (AV × St) := P3 y0 y1 G tm s
abbrev zpV (y0 : Nat) (y1 : Opd) (y2 : Opd) (G : Env) (_S : Self) (tm : Trie AV) (s : St) : Option (AV × St) := ztg y0 y1 y2 G tm s
abbrev zrf (y0 : Opd) (G : Env) (_S : Self) (tm : Trie AV) (s : St) : Option (AV × St) := P7 y0 G tm s
abbrev zsY (y0 : BinOp) (y1 : Opd) (y2 : Opd) (G : Env) (_S : Self) (tm : Trie AV) (s : St) : Option (AV × St) := PQ y0 y1 y2 G tm s
abbrev zs7 (y0 : EqK) (y1 : Bool) (y2 : Opd) (y3 : Opd) (G : Env) (_S : Self) (tm : Trie AV) (s : St) : Option (AV × St) := PZ y0 y1 y2 y3 G tm s
abbrev zpW (y0 : UnOp) (y1 : Opd) (G : Env) (_S : Self) (tm : Trie AV) (s : St) : Option (AV × St) := zth y0 y1 G tm s
abbrev zpL (y0 : IntKind) (y1 : Opd) (G : Env) (_S : Self) (tm : Trie AV) (s : St) : Option (AV × St) := zu6 y0 y1 G tm s
abbrev zs5 (y0 : Nat) (y1 : Opd) (G : Env) (_S : Self) (tm : Trie AV) (s : St) : Option (AV × St) := PX y0 y1 G tm s
abbrev zs1 (y0 : Opd) (G : Env) (_S : Self) (tm : Trie AV) (s : St) : Option (AV × St) := PT y0 G tm s
abbrev zs6 (y0 : Opd) (G : Env) (_S : Self) (tm : Trie AV) (s : St) : Option (AV × St) := PY y0 G tm s
abbrev zs4 (y0 : List (Nat × Nat)) (y1 : Opd) (G : Env) (_S : Self) (tm : Trie AV) (s : St) : Option (AV × St) := PW y0 y1 G tm s
abbrev zs2 (y0 : Opd) (G : Env) (_S : Self) (tm : Trie AV) (s : St) : Option (AV × St) := PU y0 G tm s
abbrev zs3 (y0 : Opd) (G : Env) (_S : Self) (tm : Trie AV) (s : St) : Option (AV × St) := PV y0 G tm s
abbrev zre (y0 : Nat) (y1 : Opd) (G : Env) (_S : Self) (tm : Trie AV) (s : St) : Option (AV × St) := P6 y0 y1 G tm s
abbrev zrd (y0 : Nat) (y1 : List Opd) (y2 : List Opd) (G : Env) (_S : Self) (tm : Trie AV) (s : St) : Option (AV × St) := P5 y0 y1 y2 G tm s
abbrev zri (y0 : Opd) (y1 : Option Opd) (y2 : Option Opd) (G : Env) (_S : Self) (tm : Trie AV) (s : St) : Option (AV × St) := zza y0 y1 y2 G tm s
abbrev zrj (y0 : Nat) (y1 : Opd) (y2 : Option Opd) (y3 : Option Opd) (y4 : Option Opd) (G : Env) (_S : Self) (tm : Trie AV) (s : St) : Option (AV × St) := zzb y0 y1 y2 y3 y4 G tm s
abbrev zrh (y0 : Nat) (y1 : Nat) (y2 : Opd) (y3 : Option Opd) (y4 : Option Opd) (y5 : Option Opd) (G : Env) (_S : Self) (tm : Trie AV) (s : St) : Option (AV × St) := P9 y0 y1 y2 y3 y4 y5 G tm s
abbrev zpO (y0 : Nat) (y1 : Opd) (G : Env) (_S : Self) (tm : Trie AV) (s : St) : Option (AV × St) := zu8 y0 y1 G tm s
abbrev zpP (y0 : Nat) (y1 : Opd) (y2 : Opd) (G : Env) (_S : Self) (tm : Trie AV) (s : St) : Option (AV × St) := zu9 y0 y1 y2 G tm s
abbrev zs8 (y0 : Nat) (y1 : Nat) (y2 : Opd) (y3 : Opd) (G : Env) (_S : Self) (tm : Trie AV) (s : St) : Option (AV × St) := P0 y0 y1 y2 y3 G tm s
abbrev zra (y0 : Opd) (y1 : Opd) (G : Env) (_S : Self) (tm : Trie AV) (s : St) : Option (AV × St) := P2 y0 y1 G tm s
abbrev zpU (y0 : Opd) (G : Env) (_S : Self) (tm : Trie AV) (s : St) : Option (AV × St) := ztf y0 G tm s
abbrev zpT (y0 : Opd) (G : Env) (_S : Self) (tm : Trie AV) (s : St) : Option (AV × St) := zte y0 G tm s
abbrev zpN (y0 : Opd) (y1 : Nat) (G : Env) (_S : Self) (tm : Trie AV) (s : St) : Option (AV × St) := zu7 y0 y1 G tm s
abbrev zrc (y0 : LK) (y1 : Opd) (G : Env) (_S : Self) (tm : Trie AV) (s : St) : Option (AV × St) := P4 y0 y1 G tm s
abbrev zsX (y0 : Nat) (y1 : Nat) (y2 : Nat) (y3 : Opd) (y4 : Opd) (G : Env) (_S : Self) (tm : Trie AV) (s : St) : Option (AV × St) := PP y0 y1 y2 y3 y4 G tm s
abbrev zpR (y0 : List Opd) (G : Env) (_S : Self) (tm : Trie AV) (s : St) : Option (AV × St) := ztb y0 G tm s
abbrev zrl (y0 : Opd) (G : Env) (_S : Self) (tm : Trie AV) (s : St) : Option (AV × St) := zzd y0 G tm s
abbrev zrm (y0 : Nat) (y1 : Opd) (y2 : Opd) (G : Env) (_S : Self) (tm : Trie AV) (s : St) : Option (AV × St) := zze y0 y1 y2 G tm s
abbrev zs9 (y0 : Opd) (y1 : Opd) (G : Env) (_S : Self) (tm : Trie AV) (s : St) : Option (AV × St) := P1 y0 y1 G tm s
abbrev zrg (y0 : Opd) (G : Env) (_S : Self) (tm : Trie AV) (s : St) : Option (AV × St) := P8 y0 G tm s
abbrev zrk  (G : Env) (_S : Self) (tm : Trie AV) (s : St) : Option (AV × St) := zzc  G tm s
noncomputable def evOp (G : Env) (S : Self) (op : IOp) (tm : Trie AV) (s : St) : Option (AV × St) :=
 IOp.rec (motive := fun _ => Env → Self → Trie AV → St → Option (AV × St)) zpS zvy zyu zsZ zyv zs0 zpQ zrb zpV zrf zsY zs7 zpW zpL zs5 zs1 zs6 zs4 zs2 zs3 zre zrd zri zrj zrh zpO zpP zs8 zra zpU zpT zpN zvx zpM zrc zsX zpR zrl zrm zs9 zrg zrk op G S tm s
def stS (tm : Trie AV) (d : Option Nat) : Option (AV × St) → Option (Trie AV × St)
 | some p => some (qp tm d p.1, p.2)
 | none => none
def Ko (n : Nat) (p : IOp) : SOper := ⟨some n, p, none⟩
def Kg (n : Nat) (p : IOp) (c : Nat) (b : Bool) : SOper := ⟨some n, p, some (c, b)⟩
def Kn (p : IOp) : SOper := ⟨none, p, none⟩
def Kh (p : IOp) (c : Nat) (b : Bool) : SOper := ⟨none, p, some (c, b)⟩
def Kd (n : Nat) (p : IOp) (m : Nat) : DOper := ⟨⟨some n, p, none⟩, m⟩
def Ke (n : Nat) (p : IOp) (c : Nat) (b : Bool) (m : Nat) : DOper := ⟨⟨some n, p, some (c, b)⟩, m⟩
def Kf (p : IOp) (m : Nat) : DOper := ⟨⟨none, p, none⟩, m⟩
def Kk (p : IOp) (c : Nat) (b : Bool) (m : Nat) : DOper := ⟨⟨none, p, some (c, b)⟩, m⟩
def Ki (n : Nat) : Opd := .c (.int .i64 (.ofNat n))
def Kj (n : Nat) : Opd := .c (.int .u8 (.ofNat n))
def Ku (n : Nat) : Opd := .c (.int .u32 (.ofNat n))
def Kq (n : Nat) : Opd := .c (.int .u64 (.ofNat n))
def Kc (n : Nat) : Opd := .c (.int .i32 (.ofNat n))
def Kv (n : Nat) : AV := .int .i64 (.ofNat n)
def Kw (n : Nat) : AV := .int .u8 (.ofNat n)
def KF : Opd := .c (.bool false)
def KT : Opd := .c (.bool true)
def Km (n : Nat) (x : Opd) : SOper := ⟨some n, .mv x, none⟩
def Kr (l : List SOper) (b : ICode) : ICode := .seq (.reg l) b
def kb (t : IntKind) (l : List Nat) : List AV := l.map fun n => .int t (.ofNat n)
instance opI {n : Nat} : OfNat Opd n := ⟨.t n⟩
theorem opN (n : Nat) : (no_index (OfNat.ofNat n) : Opd) = .t n := rfl
def jU (G : Env) (S : Self) (o : SOper) (tm : Trie AV) (s : St) : Option (Trie AV × St) :=
 match jo o.guard tm with
 | some true => stS tm o.dst (evOp G S o.op tm s)
 | some false => some (qp tm o.dst ql, s)
 | none => none
def evS (G : Env) (S : Self) : List SOper → Trie AV → St → Option (Trie AV × St)
 | [], tm, s => some (tm, s)
 | o :: r, tm, s => match jU G S o tm s with
  | some p => evS G S r p.1 p.2
  | none => none
def begD (o : DOper) (log : List LogE) (tm : Trie AV) (s : St) : St :=
 { s with hide := wV o.deps log s.hide, only := (wM o.o.op tm).map fun l => (s.next, l), wm := 0 }
def wd (m n : Nat) : Nat := zf m (Nat.pow 2 n)
def endD (o : DOper) (i : Nat) (log : List LogE) (tm : Trie AV) (s : St) : Option (AV × St) → Option (List LogE × Trie AV × St)
 | some p => bif vy o.deps (wM o.o.op tm) (wd p.2.wm s.next) log then
   some ({ idx := i, lo := s.next, hi := p.2.next, tch := wM o.o.op tm, wm := wd p.2.wm s.next } :: log, qp tm o.o.dst p.1, { p.2 with hide := s.hide, only := s.only, wm := Nat.lor s.wm p.2.wm })
  else none
 | none => none
def jT (G : Env) (S : Self) (o : DOper) (i : Nat) (log : List LogE) (tm : Trie AV) (s : St) : Option (List LogE × Trie AV × St) :=
 match jo o.o.guard tm with
 | some true => endD o i log tm s (evOp G S o.o.op tm (begD o log tm s))
 | some false => some (log, qp tm o.o.dst ql, s)
 | none => none
def evD (G : Env) (S : Self) : List DOper → Nat → List LogE → Trie AV → St → Option (Trie AV × St)
 | [], _, _, tm, s => some (tm, s)
 | o :: r, i, log, tm, s => match jT G S o i log tm s with
  | some p => evD G S r (Nat.succ i) p.1 p.2.1 p.2.2
  | none => none
def uN (df : List Nat) : Option (Trie AV × St) → Option (Res × Fr × St)
 | some p => some (.norm, { tm := p.1, df := df }, p.2)
 | none => none
def ub (k : Fr → St → Option (Res × Fr × St)) : Option (Res × Fr × St) → Option (Res × Fr × St)
 | some p => match p.1 with
  | .norm => k p.2.1 p.2.2
  | _ => some p
 | none => none
def YL (c : Option AV) (a b : Fr → St → Option (Res × Fr × St)) (fr : Fr) (s : St) : Option (Res × Fr × St) :=
 match c with
 | some (.bool true) => a fr s
 | some (.bool false) => b fr s
 | _ => none
def jg (id : Nat) : Option (Res × Fr × St) → Option (Res × Fr × St)
 | some p => match p.1 with
  | .exit i => bif za i id then some (.norm, p.2) else some p
  | _ => some p
 | none => none
def Ga : Option Res → Res
 | none => .norm
 | some r => r
def gN (fr : Fr) (l d : Nat) : Option (AV × St) → Option (Res × Fr × St)
 | some p => match p.2.get l with
  | some (.loop st pend tm ps asg body dd) => match st with
   | .busy => none
   | _ => some (Ga pend, { fr with df := d :: fr.df }, p.2.put l (.loop .exhausted pend tm ps asg body dd))
  | _ => none
 | none => none
def rfR (S : Self) (rd : Option Nat) (g : Option AV) (ps : List Nat) (asg body : ICode) (fr : Fr) (s : St) : Option (Res × Fr × St) :=
 match rd with
 | none => match g with
  | some (.fn f a c) => gN fr (Nat.succ s.next) s.next (S.call f (a ++ .yld (Nat.succ s.next) :: c) ((s.alloc .dfd).alloc (.loop .ready none fr.tm ps asg body s.next)))
  | _ => none
 | some _ => none
def Y8 (G : Env) (S : Self) (ops : List DOper) (fr : Fr) (s : St) : Option (Res × Fr × St) :=
 match s.only with
 | none => uN fr.df (evD G S ops 0 [] fr.tm s)
 | some _ => none
def delL : List Nat → Trie AV → Trie AV
 | [], tm => tm
 | i :: r, tm => (delL r tm).del i
def Q1 : List SOper → List Nat
 | [] => []
 | o :: r => match o.dst with
  | some i => i :: Q1 r
  | none => Q1 r
def Q0 : List DOper → List Nat
 | [] => []
 | o :: r => match o.o.dst with
  | some i => i :: Q0 r
  | none => Q0 r
def zpm : ICode → List Nat
 | .reg l => Q1 l
 | .regd l => Q0 l
 | .seq a b => zpm a ++ zpm b
 | _ => []
mutual
def eqW : AV → AV → Bool
 | .bool a, .bool b => a == b
 | .int k n, .int k' m => vK k k' && eqI n m
 | .str a, .str b => eqS a b
 | .nils, .nils => true
 | .nilp, .nilp => true
 | .sl0, .sl0 => true
 | .nilm, .nilm => true
 | .nili, .nili => true
 | .nilf, .nilf => true
 | .ptr i o, .ptr j p => za i j && za o p
 | .gptr i o, .gptr j p => za i j && za o p
 | .map i, .map j => za i j
 | .sl i o n c, .sl j p m d => za i j && za o p && za n m && (match c, d with
  | .fix x, .fix y => za x y
  | .opn x, .opn y => za x y
  | _, _ => false)
 | .agg a, .agg b => eqWL a b
 | .lst n e a, .lst m f b => za n m && (e == f) && eqWL a b
 | _, _ => false
def eqWL : List AV → List AV → Bool
 | [], [] => true
 | a :: x, b :: y => eqW a b && eqWL x y
 | _, _ => false
end
def eqO : Option AObj → Option AObj → Bool
 | some (.row e cs x f), some (.row e' cs' x' f') => za e e' && (x == x') && (f == f') && eqWL cs cs'
 | some (.app e cs), some (.app e' cs') => za e e' && eqWL cs cs'
 | none, none => true
 | _, _ => false
def zpk (sA sB : St) (i : Nat) (J : Trie AObj) : Trie AObj := bif eqO (sA.objs.get i) (sB.objs.get i) then J else J.del i
def zsL (sA sB : St) : Nat → Nat → Trie AObj → Trie AObj
 | 0, _, J => J
 | k + 1, i, J => zsL sA sB k (Nat.succ i) (zpk sA sB i J)
def zsM (sA sB : St) : Nat → Nat → Trie AObj → Option (Trie AObj)
 | 0, m, J => bif za m 0 then some J else none
 | k + 1, m, J => bif za m 0 then some J else zsM sA sB k (Nat.xor m (Nat.shiftLeft 1 (Nat.log2 m))) (zpk sA sB (Nat.log2 m) J)
def evC (G : Env) (S : Self) (rd : Option Nat) : ICode → Fr → St → Option (Res × Fr × St)
 | .skip, fr, s => some (.norm, fr, s)
 | .reg ops, fr, s => uN fr.df (evS G S ops fr.tm s)
 | .regd ops, fr, s => Y8 G S ops fr s
 | .seq a b, fr, s => ub (evC G S rd b) (evC G S rd a fr s)
 | .cond c a b, fr, s => YL (c.ev fr.tm) (evC G S rd a) (evC G S rd b) fr s
 | .block id b, fr, s => jg id (evC G S rd b fr s)
 | .loop b, fr, s => ub (S.loop rd b) (evC G S rd b fr s)
 | .exit id, fr, s => some (.exit id, fr, s)
 | .ret, fr, s => some (.ret, fr, s)
 | .rf g ps asg body, fr, s => rfR S rd (g.ev fr.tm) ps asg body fr s
 | .stk, _, _ => none
def resE (G : List (List AV)) (tm : Trie AV) (s : St) (res : List RV) : Option (AV × St) :=
 match resV G tm s res with
 | some vs => some (qi vs, s)
 | none => none
def vz (G : List (List AV)) (res : List RV) : Option (Res × Fr × St) → Option (AV × St)
 | some p => match p.1 with
  | .exit _ => none
  | _ => match x9 p.2.2 p.2.1.df with
   | some s => resE G p.2.1.tm s res
   | none => none
 | none => none
def frz1 (n0 : Nat) : AV → Option AV
 | .gr id esz n cs => bif ze n0 id then some (.lst n false cs) else some (.gr id esz n cs)
 | .ptr id off => bif zd id n0 then some (.ptr id off) else none
 | .sl id off len c => bif zd id n0 then some (.sl id off len c) else none
 | .map id => bif zd id n0 then some (.map id) else none
 | v => bif xG v then some v else none
def frzL (n0 : Nat) : List AV → Option (List AV)
 | [] => some []
 | v :: r => match frz1 n0 v with
  | some v => match frzL n0 r with
   | some r => some (v :: r)
   | none => none
  | none => none
def frz2 (n0 : Nat) : AV → Option AV
 | .agg cs => match frzL n0 cs with
  | some l => some (.agg l)
  | none => none
 | v => frz1 n0 v
def frzT (n0 : Nat) : List AV → Option (List AV)
 | [] => some []
 | v :: r => match frz2 n0 v with
  | some v => match frzT n0 r with
   | some r => some (v :: r)
   | none => none
  | none => none
def frzA (n0 : Nat) : AV → Option AV
 | .tup vs => match frzT n0 vs with
  | some l => some (.tup l)
  | none => none
 | v => frz2 n0 v
def popR (s : St) : Option (AV × St) → Option (AV × St)
 | some p => match (bif za (wd p.2.wm s.next) 0 then frzA s.next p.1 else none) with
  | some v => some (v, s)
  | none => some (p.1, { p.2 with wm := Nat.lor s.wm p.2.wm, md := s.md })
 | none => none
def mdR (b : Bool) : Option (AV × St) → Option (AV × St)
 | some p => some (p.1, { p.2 with md := b })
 | none => none
def gS (E : Env) (S : Self) (F : IFunc) (args : List AV) (s : St) : Option (AV × St) :=
 vz E.globs F.res (evC E S none F.body { tm := wH .leaf 0 args, df := [] } s)
def gE (E : Env) (S : Self) (f : Nat) (args : List AV) (s : St) : Option (AV × St) :=
 match E.funs.get f with
 | some F => bif ze (lenN args) F.ntmps then
   bif E.pure f then popR s (gS E S F args { s with wm := 0, md := true }) else mdR s.md (gS E S F args { s with md := false })
  else none
 | none => none
def vg (l : Nat) : Option (Res × Fr × St) → Option (AV × St)
 | some p => match p.2.2.get l with
  | some (.loop _ _ tm ps asg body d) => match p.1 with
   | .norm => some (.bool true, p.2.2.put l (.loop .ready none tm ps asg body d))
   | r => some (.bool false, p.2.2.put l (.loop .done (some r) tm ps asg body d))
  | _ => none
 | none => none
def qx (E : Env) (S : Self) (l : Nat) (bd : ICode) : Option (Res × Fr × St) → Option (AV × St)
 | some p => match p.1 with
  | .norm => match p.2.2.get l with
   | some (.loop .ready pend tm ps asg body d) => vg l (evC E S (some l) bd p.2.1 (p.2.2.put l (.loop .busy pend tm ps asg body d)))
   | _ => none
  | _ => none
 | none => none
def v6 (E : Env) (S : Self) (l : Nat) (args : List AV) (s : St) : Option (AV × St) :=
 match s.get l with
 | some (.loop _ _ tm ps asg body _) => match kN tm ps args with
  | some tm1 => qx E S l body (evC E S (some l) asg { tm := tm1, df := [] } s)
  | none => none
 | _ => none
def ev (E : Env) : Nat → Self
 | 0 => ⟨fun _ _ _ => none, fun _ _ _ _ => none, fun _ _ _ => none⟩
 | n + 1 => ⟨fun f args s => gE E (ev E n) f args s, fun rd b fr s => evC E (ev E n) rd (.loop b) fr s, fun l args s => v6 E (ev E n) l args s⟩
def s0 : St := ⟨.leaf, 0, 0, [], none, false⟩
end
end Go.Proofs.YthcmnajcjapjbaaGreatDoor.Ev

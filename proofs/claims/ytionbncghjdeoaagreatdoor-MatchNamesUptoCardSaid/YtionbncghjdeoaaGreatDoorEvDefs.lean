/- Part of a verified evaluator of the model's code, generic over the program: a run of the evaluator that answers shows what the model's run answers. No conditions of its own. -/
import GoSem.Dispatch
import GoSem.Machine.Frame
set_option linter.unusedSimpArgs false
set_option linter.unusedVariables false
set_option linter.defProp false
open Nat renaming beq → za, mul → zb, add → zc, blt → zd, ble → ze, mod → zf, div → zg, sub → zh, lor → zi, casesOn → zj
namespace Go.Proofs.YtionbncghjdeoaaGreatDoor.Ev
theorem oM {p : Prop} (h : p := by omega) : p := h
noncomputable section
inductive Trie (α : Type) where
 | leaf
 | node (v : Option α) (l r : Trie α)
noncomputable def Trie.get {α : Type} (t : Trie α) : Nat → Option α :=
 Trie.rec (motive := fun _ => Nat → Option α) (fun _ => none) (fun v _ _ l r n => zj (motive := fun _ => Option α) n v fun _ => cond (za (zf n 2) 1) (l (zg n 2)) (r (Nat.pred (zg n 2)))) t
noncomputable def Trie.setF {α : Type} (f : Nat) : Trie α → Nat → Option α → Trie α :=
 Nat.rec (motive := fun _ => Trie α → Nat → Option α → Trie α) (fun t _ _ => t)
  (fun _ ih t n v => Trie.casesOn (motive := fun _ => Trie α) t
   (zj (motive := fun _ => Trie α) n (.node v .leaf .leaf) fun _ => cond (za (zf n 2) 1) (.node none (ih .leaf (zg n 2) v) .leaf) (.node none .leaf (ih .leaf (Nat.pred (zg n 2)) v)))
   fun w l r => zj (motive := fun _ => Trie α) n (.node v l r) fun _ => cond (za (zf n 2) 1) (.node w (ih l (zg n 2) v) r) (.node w l (ih r (Nat.pred (zg n 2)) v))) f
def Trie.set {α : Type} (t : Trie α) (n : Nat) (v : α) : Trie α := t.setF (Nat.succ n) n (some v)
def Trie.del {α : Type} (t : Trie α) (n : Nat) : Trie α := t.setF (Nat.succ n) n none
inductive Cap where
 | fix (n : Nat)
 | opn (esz : Nat)
inductive AV where
 | bool (b : Bool)
 | int (k : IntKind) (n : Int)
 | str (s : List Nat)
 | ptr (id off : Nat)
 | nilp
 | gptr (g off : Nat)
 | sl (id off len : Nat) (c : Cap)
 | sl0
 | nils
 | map (id : Nat)
 | nilm
 | fn (f : Nat) (fst cap : List AV)
 | nilf
 | yld (l : Nat)
 | ifc (t : Nat) (v : AV)
 | nili
 | agg (cs : List AV)
 | tup (vs : List AV)
 /-- a slice whose cells are never written again; ex: its capacity is its length -/
 | lst (n : Nat) (ex : Bool) (cs : List AV)
 /-- such a slice that may grow: id says whether it may still -/
 | gr (id esz n : Nat) (cs : List AV)
 /-- a pointer to cells that are never written again -/
 | vp (cs : List AV)
 deriving Inhabited
inductive Opd where
 | t (i : Nat)
 | c (v : AV)
 deriving Inhabited
inductive FK where
 | i | s | b
 deriving DecidableEq
inductive EqK where
 | basic | bool | ptr | slice | map | func | iface | ifacec
 | flat (ks : List FK)
 deriving DecidableEq
inductive LK where
 | s | v | m
 deriving DecidableEq
inductive IOp where
 | mv (x : Opd)
 | pick (c a b : Opd)
 | alloc (e : Nat) (zs : List AV)
 | box (e : Nat) (x : Opd)
 | build (zs : List AV) (ps : List (Nat × Nat × Opd))
 | bsl (e : Nat) (zs : List AV) (len : Nat) (ps : List (Nat × Nat × Opd))
 | ld (x : Opd)
 | ldn (n : Nat) (x : Opd)
 | st (n : Nat) (x v : Opd)
 | nck (x : Opd)
 | bin (op : BinOp) (x y : Opd)
 | eqk (k : EqK) (neg : Bool) (x y : Opd)
 | un (op : UnOp) (x : Opd)
 | ci (k : IntKind) (x : Opd)
 | csb (e : Nat) (x : Opd)
 | cbb (x : Opd)
 | cup (x : Opd)
 | cpu (u : List (Nat × Nat)) (x : Opd)
 | cbs (x : Opd)
 | cis (x : Opd)
 | mif (t : Nat) (x : Opd)
 | mfn (f : Nat) (fst cap : List Opd)
 | msl (e esz bytes : Nat) (zs : List AV) (l c : Opd)
 | sls (x : Opd) (lo hi : Option Opd)
 | slv (esz : Nat) (x : Opd) (lo hi mx : Option Opd)
 | sla (n esz : Nat) (x : Opd) (lo hi mx : Option Opd)
 | fa (off : Nat) (x : Opd)
 | ia (esz : Nat) (x i : Opd)
 | iaa (n esz : Nat) (x i : Opd)
 | ixs (x i : Opd)
 | rs (x : Opd)
 | ns (it : Opd)
 | ex (x : Opd) (i : Nat)
 | call (f : Nat) (args : List Opd)
 | cv (x : Opd) (args : List Opd)
 | len (k : LK) (x : Opd)
 | app (e esz bytes : Nat) (x y : Opd)
 | mn (xs : List Opd)
 | usd (x : Opd)
 | ust (e : Nat) (x n : Opd)
 | ibs (x c : Opd)
 | nes (x : Opd)
 | stk
 deriving Inhabited
structure SOper where
 dst : Option Nat
 op : IOp
 guard : Option (Nat × Bool)
 deriving Inhabited
structure DOper where
 o : SOper
 deps : Nat
 deriving Inhabited
inductive ICode where
 | skip
 | reg (ops : List SOper)
 | regd (ops : List DOper)
 | seq (a b : ICode)
 | cond (c : Opd) (a b : ICode)
 | block (id : Nat) (b : ICode)
 | loop (b : ICode)
 | exit (id : Nat)
 | ret
 | rf (g : Opd) (ps : List Nat) (assign body : ICode)
 | stk
 /-- a drawn bool (in the temporary d), and what is done by it: the same, but for the temporaries -/
 | both (t d : Nat) (a b : ICode)
 deriving Inhabited
inductive RV where
 | t (i : Nat)
 | c1 (a : Nat)
 | cn (a n : Nat)
 deriving Inhabited
structure IFunc where
 ntmps : Nat
 res : List RV
 body : ICode
 deriving Inhabited
inductive Res where
 | norm
 | exit (id : Nat)
 | ret
 deriving DecidableEq
inductive LSt where
 | ready | busy | done | exhausted
 deriving DecidableEq
inductive AObj where
 | row (e : Nat) (cells : List AV) (ext fz : Bool)
 | map (es : List (AV × AV × Nat)) (clock : Nat)
 | siter (s : List Nat) (pos : Nat)
 | miter (m : Option Nat) (since : Nat) (seen : List Nat) (stepped : Nat)
 | loop (st : LSt) (pend : Option Res) (tm : Trie AV) (ps : List Nat) (assign body : ICode) (defers : Nat)
 | dfd
 | dfd0
 /-- a row that was there before: looked at alone -/
 | giv (cells : List AV)
 /-- a row that may grow behind its first cells, which are never written again -/
 | app (e : Nat) (cells : List AV)
def vB : AObj → Bool
 | .giv _ => true
 | _ => false
def zzW : AObj → Bool
 | .app _ _ => true
 | _ => false
structure St where
 objs : Trie AObj
 next : Nat
 wm : Nat
 hide : List (Nat × Nat)
 only : Option (Nat × List Nat)
 /-- is the function one whose rows are frozen where they are made? -/
 md : Bool
structure Fr where
 tm : Trie AV
 df : List Nat
structure Env where
 funs : Trie IFunc
 globs : List (List AV)
 lies : List (Nat × Nat × Nat)
 /-- which functions freeze their rows, and leave none of their own behind -/
 pure : Nat → Bool
mutual
def x0 : AV → Bool
 | .bool _ => true
 | .int _ _ => true
 | .str _ => true
 | .nilp => true
 | .gptr _ _ => true
 | .sl0 => true
 | .nils => true
 | .nilm => true
 | .nilf => true
 | .nili => true
 | .lst _ _ _ => true
 | .vp _ => true
 | .ifc _ v => x0 v
 | .fn _ a c => xK a && xK c
 | .agg cs => xK cs
 | .tup vs => xK vs
 | .ptr _ _ => false
 | .sl _ _ _ _ => false
 | .map _ => false
 | .yld _ => false
 | .gr _ _ _ _ => false
def xK : List AV → Bool
 | [] => true
 | v :: r => x0 v && xK r
end
def hid : List (Nat × Nat) → Nat → Bool
 | [], _ => false
 | p :: r, n => bif ze p.1 n then (bif zd n p.2 then true else hid r n) else hid r n
def ph : Nat → List Nat → Bool
 | _, [] => false
 | n, m :: r => bif za n m then true else ph n r
def St.get (s : St) (id : Nat) : Option AObj :=
 match s.only with
 | none => bif hid s.hide id then none else s.objs.get id
 | some p => bif hid s.hide id then none else bif ze p.1 id then s.objs.get id else bif ph id p.2 then s.objs.get id else none
def St.alloc (s : St) (o : AObj) : St := { s with objs := s.objs.set s.next o, next := Nat.succ s.next }
def zmh (a b : Nat) : Nat := bif ze a b then a else b
def jW (m id : Nat) : Nat := zi m (Nat.shiftLeft 1 id)
def St.put (s : St) (id : Nat) (o : AObj) : St := { s with objs := s.objs.set id o, wm := jW s.wm id }
def St.del (s : St) (id : Nat) : St := { s with objs := s.objs.del id, wm := jW s.wm id }
def wC : Nat → List AV → Option (List AV)
 | 0, _ => some []
 | _ + 1, [] => none
 | n + 1, v :: r => match wC n r with
  | some l => some (v :: l)
  | none => none
def wP : Nat → List AV → List AV
 | 0, l => l
 | _ + 1, [] => []
 | n + 1, _ :: r => wP n r
def tkN : Nat → List AV → List AV
 | 0, _ => []
 | _ + 1, [] => []
 | n + 1, v :: r => v :: tkN n r
def cut (l : List AV) (off n : Nat) : Option (List AV) := wC n (wP off l)
def Qe : List AV → List AV → Option (List AV)
 | l, [] => some l
 | [], _ :: _ => none
 | _ :: l, v :: vs => match Qe l vs with
  | some r => some (v :: r)
  | none => none
def vr : List AV → Nat → List AV → Option (List AV)
 | l, 0, vs => Qe l vs
 | [], _ + 1, vs => match vs with
  | [] => some []
  | _ :: _ => none
 | v :: l, n + 1, vs => match vr l n vs with
  | some r => some (v :: r)
  | none => none
def reps : Nat → List AV → List AV
 | 0, _ => []
 | n + 1, z => z ++ reps n z
def wZ {α : Type} : List α → Nat
 | [] => 0
 | _ :: r => Nat.succ (wZ r)
def AV.cells : AV → List AV
 | .agg cs => cs
 | v => [v]
def Opd.ev (tm : Trie AV) : Opd → Option AV
 | .t i => tm.get i
 | .c v => some v
def evL (tm : Trie AV) : List Opd → Option (List AV)
 | [] => some []
 | x :: r => match x.ev tm, evL tm r with
  | some v, some vs => some (v :: vs)
  | _, _ => none
def evO (tm : Trie AV) : Option Opd → Option (Option AV)
 | none => some none
 | some x => match x.ev tm with
  | some v => some (some v)
  | none => none
def ltI : Int → Int → Bool
 | .ofNat a, .ofNat b => zd a b
 | .ofNat _, .negSucc _ => false
 | .negSucc _, .ofNat _ => true
 | .negSucc a, .negSucc b => zd b a
def eqI : Int → Int → Bool
 | .ofNat a, .ofNat b => za a b
 | .ofNat _, .negSucc _ => false
 | .negSucc _, .ofNat _ => false
 | .negSucc a, .negSucc b => za a b
def Uk : IntKind → Nat
 | .i8 => 128 | .i16 => 32768 | .i32 => 2147483648 | .i64 => 9223372036854775808
 | .u8 => 256 | .u16 => 65536 | .u32 => 4294967296 | .u64 => 18446744073709551616
def qV (k : IntKind) (n : Int) : Int :=
 match n with
 | .ofNat a => bif zd a (Uk k) then .ofNat a else k.wrap n
 | .negSucc _ => k.wrap n
def vX : IntKind → IntKind → Bool
 | .i8, .i8 | .i16, .i16 | .i32, .i32 | .i64, .i64 | .u8, .u8 | .u16, .u16 | .u32, .u32 | .u64, .u64 => true
 | _, _ => false
def bits (op : BinOp) (k : IntKind) (x y : Int) : Option Int :=
 match op with
 | .and => some (k.wrap ((BitVec.ofInt k.bits x) &&& (BitVec.ofInt k.bits y)).toNat)
 | .or => some (k.wrap ((BitVec.ofInt k.bits x) ||| (BitVec.ofInt k.bits y)).toNat)
 | .xor => some (k.wrap ((BitVec.ofInt k.bits x) ^^^ (BitVec.ofInt k.bits y)).toNat)
 | .andNot => some (k.wrap ((BitVec.ofInt k.bits x) &&& ~~~(BitVec.ofInt k.bits y)).toNat)
 | _ => none
def ji (op : BinOp) (k : IntKind) (x : Int) (k' : IntKind) (y : Int) : Option AV :=
 match op with
 | .shl => bif ltI y 0 then none else some (.int k (qV k (x * 2 ^ (min y.toNat k.bits))))
 | .shr => bif ltI y 0 then none else some (.int k (x.fdiv (2 ^ (min y.toNat k.bits))))
 | _ => bif vX k k' then
  match op with
  | .add => some (.int k (qV k (Int.add x y)))
  | .sub => some (.int k (qV k (Int.sub x y)))
  | .mul => some (.int k (qV k (Int.mul x y)))
  | .quo => bif eqI y 0 then none else some (.int k (qV k (x.tdiv y)))
  | .rem => bif eqI y 0 then none else some (.int k (x.tmod y))
  | .eql => some (.bool (eqI x y))
  | .neq => some (.bool (!eqI x y))
  | .lss => some (.bool (ltI x y))
  | .leq => some (.bool (!ltI y x))
  | .gtr => some (.bool (ltI y x))
  | .geq => some (.bool (!ltI x y))
  | op => match bits op k x y with
   | some r => some (.int k r)
   | none => none
  else none
def eqS : List Nat → List Nat → Bool
 | [], [] => true
 | a :: x, b :: y => bif za a b then eqS x y else false
 | _, _ => false
def ltS : List Nat → List Nat → Bool
 | _, [] => false
 | [], _ :: _ => true
 | a :: x, b :: y => bif zd a b then true else bif za a b then ltS x y else false
def Ug : Nat → List Nat → List Nat
 | 0, _ => []
 | _ + 1, [] => []
 | n + 1, v :: r => v :: Ug n r
def U0 : Nat → List Nat → List Nat
 | 0, l => l
 | _ + 1, [] => []
 | n + 1, _ :: r => U0 n r
def Pt : List Nat → Nat → Option Nat
 | [], _ => none
 | v :: _, 0 => some v
 | _ :: r, n + 1 => Pt r n
def zyM (op : BinOp) (x y : List Nat) : Option AV :=
 match op with
 | .add => bif zd (zc (wZ x) (wZ y)) 9223372036854775808 then some (.str (x ++ y)) else none
 | .eql => some (.bool (eqS x y))
 | .neq => some (.bool (!eqS x y))
 | .lss => some (.bool (ltS x y))
 | .leq => some (.bool (ltS x y || eqS x y))
 | .gtr => some (.bool (!(ltS x y || eqS x y)))
 | .geq => some (.bool (!ltS x y))
 | _ => none
def eq1 (f : FK) (a b : AV) : Option Bool :=
 match f with
 | .i => match a, b with
  | .int k m, .int k' n => bif vX k k' then some (eqI m n) else none
  | _, _ => none
 | .s => match a, b with
  | .str s, .str t => some (eqS s t)
  | _, _ => none
 | .b => match a, b with
  | .bool p, .bool q => some (p == q)
  | _, _ => none
def gQ : List FK → List AV → List AV → Option Bool
 | [], [], [] => some true
 | f :: fs, a :: x, b :: y =>
  match eq1 f a b with
  | some true => gQ fs x y
  | some false => match gQ fs x y with
   | some _ => some false
   | none => none
  | none => none
 | _, _, _ => none
def eqV (k : EqK) (a b : AV) : Option Bool :=
 match k with
 | .bool => match a, b with
  | .bool p, .bool q => some (p == q)
  | _, _ => none
 | .ptr => match a, b with
  | .nilp, .nilp => some true
  | .nilp, .ptr _ _ => some false
  | .ptr _ _, .nilp => some false
  | .nilp, .vp _ => some false
  | .vp _, .nilp => some false
  | .ptr i o, .ptr i' o' => bif za i i' then some (za o o') else none
  | _, _ => none
 | .slice => match a, b with
  | .nils, .nils => some true
  | .nils, .sl _ _ _ _ => some false
  | .sl _ _ _ _, .nils => some false
  | .nils, .sl0 => some false
  | .sl0, .nils => some false
  | .nils, .lst n _ _ => bif za n 0 then none else some false
  | .lst n _ _, .nils => bif za n 0 then none else some false
  | .nils, .gr _ _ _ _ => some false
  | .gr _ _ _ _, .nils => some false
  | _, _ => none
 | .map => match a, b with
  | .nilm, .nilm => some true
  | .nilm, .map _ => some false
  | .map _, .nilm => some false
  | _, _ => none
 | .func => match a, b with
  | .nilf, .nilf => some true
  | .nilf, .fn _ _ _ => some false
  | .fn _ _ _, .nilf => some false
  | _, _ => none
 | .iface => match a, b with
  | .nili, .ifc _ _ => some false
  | .ifc _ _, .nili => some false
  | _, _ => none
 | .ifacec => match a, b with
  | .nili, .nili => some true
  | .nili, .ifc _ _ => some false
  | .ifc _ _, .nili => some false
  | _, _ => none
 | .flat ks => match a, b with
  | .agg x, .agg y => gQ ks x y
  | _, _ => none
 | .basic => none
def idx (i : AV) (n : Nat) : Option Nat :=
 match i with
 | .int _ (.ofNat a) => bif zd a n then some a else none
 | _ => none
def bnd (d : Nat) (i : Option AV) (n : Nat) : Option Nat :=
 match i with
 | none => some d
 | some (.int _ (.ofNat a)) => bif ze a n then some a else none
 | _ => none
def vH (G : List (List AV)) (s : St) (p : AV) (n : Nat) : Option (List AV) :=
 match p with
 | .ptr id off => match s.get id with
  | some (.row _ cs _ _) => cut cs off n
  | some (.giv cs) => cut cs off n
  | _ => none
 | .gptr g off => match G[g]? with
  | some cs => cut cs off n
  | none => none
 | .vp cs => wC n cs
 | _ => none
def scal : AV → Bool
 | .agg _ => false
 | .tup _ => false
 | _ => true
def xT : List AV → Bool
 | [] => true
 | v :: r => bif scal v then xT r else false
def uQ (s : St) (p : AV) (vs : List AV) : Option St :=
 match p with
 | .ptr id off => match s.get id with
  | some (.row t cs e fz) => bif fz || !xT vs then none else match vr cs off vs with
   | some cs' => some (s.put id (.row t cs' e fz))
   | none => none
  | _ => none
 | _ => none
def jo (zs : List AV) (tm : Trie AV) : List (Nat × Nat × Opd) → Option (List AV)
 | [] => some zs
 | p :: r => match p.2.2.ev tm with
  | some v => bif za (wZ v.cells) p.2.1 && ze 1 p.2.1 then
    match vr zs p.1 v.cells with
    | some zs' => jo zs' tm r
    | none => none
   else none
  | none => none
def uO : AV → Option Nat
 | .nils => some 0
 | .sl0 => some 0
 | .sl _ _ n _ => some n
 | .str s => some (wZ s)
 | .lst n _ _ => some n
 | .gr _ _ n _ => some n
 | _ => none
def x6 : List Nat → List AV
 | [] => []
 | b :: r => .int .u8 (.ofNat b) :: x6 r
def w6 (s : St) (esz n : Nat) : AV → Option (List AV)
 | .nils => some []
 | .sl0 => some []
 | .sl id off _ _ => match s.get id with
  | some (.row _ cs _ _) => cut cs off (zb n esz)
  | some (.giv cs) => cut cs off (zb n esz)
  | _ => none
 | .str t => bif za esz 1 then some (x6 (Ug n t)) else none
 | .lst _ _ cs => wC (zb n esz) cs
 | .gr _ _ _ cs => wC (zb n esz) cs
 | _ => none
def grow (s : St) (t esz bytes : Nat) (cs : List AV) (need : Nat) : Option (AV × St) :=
 bif ze (zb (zb 2 need) bytes) 281474976710656 && ze 1 esz && zd need 9223372036854775808 then
  some (.sl s.next 0 need (.opn esz), s.alloc (.row t cs true false))
 else none
def hW (s : St) (t esz bytes : Nat) (cs : List AV) (need : Nat) : Option (AV × St) :=
 bif ze (zb (zb 2 need) bytes) 281474976710656 && ze 1 esz && zd need 9223372036854775808 && xK cs then
  some (.gr s.next esz need cs, s.alloc (.app t cs))
 else none
def ZW (s : St) (t esz bytes : Nat) (x : AV) (n : Nat) (new : List AV) : Option (AV × St) :=
 match x with
 | .nils => bif s.md && xK new then hW s t esz bytes new n else grow s t esz bytes new n
 | .lst k ex cs => bif ex then match wC (zb k esz) cs with
   | some old => hW s t esz bytes (old ++ new) (zc k n)
   | none => none
  else none
 | .gr id esz' k cs => match s.get id with
  | some (.app t0 cells) => bif za esz esz' && za t0 t && za (wZ cells) (wZ cs) && xT new then hW (s.del id) t esz bytes (cs ++ new) (zc k n) else none
  | _ => none
 | .sl id off len c => match s.get id with
  | some (.row t0 cs e fz) =>
   match c with
   | .fix k => bif ze (zc len n) k then
     match uQ s (.ptr id (zc off (zb len esz))) new with
     | some s' => some (.sl id off (zc len n) (.fix k), s')
     | none => none
    else match cut cs off (zb len esz) with
     | some old => grow s t esz bytes (old ++ new) (zc len n)
     | none => none
   | .opn esz' => bif za esz esz' && e && !fz then
     bif ze (zc off (zb (zc len n) esz)) (wZ cs) then
      match uQ s (.ptr id (zc off (zb len esz))) new with
      | some s' => some (.sl id off (zc len n) (.opn esz), s')
      | none => none
     else bif xT new && za t0 t then match cut cs off (zb len esz) with
       | some old => grow (s.del id) t esz bytes (old ++ new) (zc len n)
       | none => none
      else none
    else none
  | _ => none
 | _ => none
def zvr (s : St) (x : AV) : Option (AV × St) :=
 match x with
 | .nils => some (.nils, s)
 | .sl0 => some (.sl0, s)
 | .sl id off len c => match c with
  | .fix k => bif ze len k then some (.sl id off len c, s) else none
  | .opn _ => some (.sl id off len c, s)
 | .lst n ex cs => some (.lst n ex cs, s)
 | .gr id esz n cs => some (.gr id esz n cs, s)
 | _ => none
def jg (s : St) (t esz bytes : Nat) (x y : AV) : Option (AV × St) :=
 match uO y with
 | none => none
 | some 0 => zvr s x
 | some (Nat.succ n) => match w6 s esz (Nat.succ n) y with
  | none => none
  | some new => ZW s t esz bytes x (Nat.succ n) new
def UQ (s : St) (t esz bytes : Nat) (zs : List AV) (x y : AV) : Option (AV × St) :=
 match y with
 | .int .i64 (.ofNat 0) => none
 | .int .i64 (.ofNat (Nat.succ n)) => bif ze (zb (Nat.succ n) bytes) 281474976710656 && zd n 9223372036854775807 then ZW s t esz bytes x (Nat.succ n) (reps (Nat.succ n) zs) else none
 | _ => none
def zmq (s : St) (esz : Nat) (x y : AV) : Option (AV × St) :=
 match uO x, uO y with
 | some a, some b =>
  match zmh b a with
  | 0 => some (.int .i64 0, s)
  | Nat.succ m => match x with
   | .sl id off _ _ => match w6 s esz (Nat.succ m) y with
    | some cs => match uQ s (.ptr id off) cs with
     | some s' => some (.int .i64 (.ofNat (Nat.succ m)), s')
     | none => none
    | none => none
   | _ => none
 | _, _ => none
def hH (f : FK) (k : AV) : List (AV × AV × Nat) → Nat → Option (Option (Nat × AV))
 | [], _ => some none
 | e :: es, i => match eq1 f k e.1 with
  | some true => some (some (i, e.2.1))
  | some false => hH f k es (Nat.succ i)
  | none => none
def UI (v : AV) (k : AV) : List (AV × AV × Nat) → Nat → List (AV × AV × Nat)
 | [], _ => []
 | e :: es, 0 => (k, v, e.2.2) :: es
 | e :: es, i + 1 => e :: UI v k es i
def zxc : List (AV × AV × Nat) → Nat → List (AV × AV × Nat)
 | [], _ => []
 | _ :: es, 0 => es
 | e :: es, i + 1 => e :: zxc es i
def VG (seen : List Nat) : List (AV × AV × Nat) → List (AV × AV × Nat)
 | [] => []
 | e :: es => bif ph e.2.2 seen then VG seen es else e :: VG seen es
def QD (last : Nat) : List (AV × AV × Nat) → Bool
 | [] => true
 | e :: es => bif ze last e.2.2 then QD last es else false
def Jg (b : Nat) : List (AV × AV × Nat) → Option (AV × AV)
 | [] => none
 | e :: es => bif za e.2.2 b then some (e.1, e.2.1) else Jg b es
def qz : AV := .tup []
def VM (mx : Bool) : AV → List AV → Option AV
 | a, [] => some a
 | .int k x, .int _ y :: r => bif (bif mx then ltI x y else ltI y x) then VM mx (.int k y) r else VM mx (.int k x) r
 | _, _ => none
def ko (s : St) : Option AV → Option (AV × St)
 | some v => some (v, s)
 | none => none
def JU (c a b : Option AV) : Option AV :=
 match c with
 | some (.bool true) => a
 | some (.bool false) => b
 | _ => none
def hY : List AV → Option AV
 | v :: _ => some v
 | [] => none
def vLd (G : List (List AV)) (s : St) (p : AV) : Option AV :=
 match vH G s p 1 with
 | some l => hY l
 | none => none
def Ys (G : List (List AV)) (s : St) (n : Nat) (p : AV) : Option AV :=
 match vH G s p n with
 | some cs => some (.agg cs)
 | none => none
def oSt (s : St) (n : Nat) (p w : AV) : Option (AV × St) :=
 bif za (wZ w.cells) n then
  match uQ s p w.cells with
  | some s' => some (qz, s')
  | none => none
 else none
def zsL (x : AV) : Option AV :=
 match x with
 | .ptr i o => some (.ptr i o)
 | .gptr g o => some (.gptr g o)
 | .fn f a c => some (.fn f a c)
 | .yld l => some (.yld l)
 | .map m => some (.map m)
 | .vp cs => some (.vp cs)
 | _ => none
def zw7 (op : BinOp) (x y : AV) : Option AV :=
 match x with
 | .int k a => match y with
  | .int k' b => ji op k a k' b
  | _ => none
 | .str a => match y with
  | .str b => zyM op a b
  | _ => none
 | _ => none
def zzm (k : EqK) (neg : Bool) (a b : AV) : Option AV :=
 match eqV k a b with
 | some r => some (.bool (bif neg then !r else r))
 | none => none
def vUn (op : UnOp) (x : AV) : Option AV :=
 match op with
 | .neg => match x with
  | .int k n => some (.int k (qV k (Int.sub 0 n)))
  | _ => none
 | .not => match x with
  | .bool b => some (.bool (!b))
  | _ => none
 | .xor => match x with
  | .int k n => match bits .xor k (bif k.signed then -1 else k.max) n with
   | some r => some (.int k r)
   | none => none
  | _ => none
 | .plus => none
def vCi (k : IntKind) (x : AV) : Option AV :=
 match x with
 | .int _ n => some (.int k (qV k n))
 | _ => none
def znW (x : AV) : Option AV :=
 match x with
 | .str t => some (.str t)
 | _ => none
def UC (s : St) (e : Nat) (x : AV) : Option (AV × St) :=
 match x with
 | .str t => bif zd (wZ t) 9223372036854775808 then
   bif s.md then some (.lst (wZ t) false (x6 t), s) else some (.sl s.next 0 (wZ t) (.opn 1), s.alloc (.row e (x6 t) true false))
  else none
 | _ => none
def ur : List AV → Option (List Nat)
 | [] => some []
 | v :: r => match v with
  | .int .u8 (.ofNat n) => bif zd n 256 then
    match ur r with
    | some l => some (n :: l)
    | none => none
   else none
  | _ => none
def Xx : Option (List Nat) → Option AV
 | some b => some (.str b)
 | none => none
def vF : Option (List AV) → Option (List Nat)
 | some l => ur l
 | none => none
def zw8 (s : St) (x : AV) : Option AV :=
 match x with
 | .nils => some (.str [])
 | .sl0 => some (.str [])
 | .sl id off n _ => match s.get id with
  | some (.row _ cs _ _) => Xx (vF (cut cs off n))
  | some (.giv cs) => Xx (vF (cut cs off n))
  | _ => none
 | .lst n _ cs => Xx (vF (wC n cs))
 | .gr _ _ n cs => Xx (vF (wC n cs))
 | _ => none
def wH (c : Nat) : Bool := bif zd c 55296 then true else (ze 57344 c && ze c 1114111)
def pA (c : Nat) : List Nat :=
 bif zd c 128 then [c] else bif zd c 2048 then [zc 192 (zg c 64), zc 128 (zf c 64)]
 else bif zd c 65536 then [zc 224 (zg c 4096), zc 128 (zf (zg c 64) 64), zc 128 (zf c 64)]
 else [zc 240 (zg c 262144), zc 128 (zf (zg c 4096) 64), zc 128 (zf (zg c 64) 64), zc 128 (zf c 64)]
def zrc (n : Int) : List Nat :=
 match n with
 | .ofNat c => pA (bif wH c then c else 65533)
 | .negSucc _ => [239, 191, 189]
def Us (b : Nat) : Bool := za (zg b 64) 2
def gP (b0 b1 : Nat) : Nat := zc (zb (zf b0 32) 64) (zf b1 64)
def j5 (b0 b1 b2 : Nat) : Nat := zc (zc (zb (zf b0 16) 4096) (zb (zf b1 64) 64)) (zf b2 64)
def pv (b0 b1 b2 b3 : Nat) : Nat := zc (zc (zc (zb (zf b0 8) 262144) (zb (zf b1 64) 4096)) (zb (zf b2 64) 64)) (zf b3 64)
def ki (l : List Nat) : Nat × Nat :=
 match l with
 | [] => (65533, 1)
 | b0 :: r => bif zd b0 128 then (b0, 1) else
  match r with
  | [] => (65533, 1)
  | b1 :: r1 => bif za (zg b0 32) 6 && Us b1 then (bif ze 128 (gP b0 b1) then (gP b0 b1, 2) else (65533, 1)) else
   match r1 with
   | [] => (65533, 1)
   | b2 :: r2 => bif za (zg b0 16) 14 && Us b1 && Us b2 then (bif ze 2048 (j5 b0 b1 b2) && wH (j5 b0 b1 b2) then (j5 b0 b1 b2, 3) else (65533, 1)) else
    match r2 with
    | [] => (65533, 1)
    | b3 :: _ => bif za (zg b0 8) 30 && Us b1 && Us b2 && Us b3 then (bif ze 65536 (pv b0 b1 b2 b3) && wH (pv b0 b1 b2 b3) then (pv b0 b1 b2 b3, 4) else (65533, 1)) else (65533, 1)
def zoX (x : AV) : Option AV :=
 match x with
 | .int _ n => some (.str (zrc n))
 | _ => none
def UD (s : St) (e bytes : Nat) (zs : List AV) (l c : AV) : Option (AV × St) :=
 match l with
 | .int .i64 (.ofNat l) => match c with
  | .int .i64 (.ofNat c) =>
   bif ze l c && ze (zb c bytes) 281474976710656 && zd c 9223372036854775808 then
    some (.sl s.next 0 l (.fix c), s.alloc (.row e (reps c zs) false false))
   else none
  | _ => none
 | _ => none
def zva (x : AV) (lo hi : Option AV) : Option AV :=
 match x with
 | .str t => match bnd (wZ t) hi (wZ t) with
  | some h => match bnd 0 lo h with
   | some l => some (.str (Ug (zh h l) (U0 l t)))
   | none => none
  | none => none
 | _ => none
def zzo (esz n : Nat) (ex : Bool) (cs : List AV) (lo hi mx : Option AV) : Option AV :=
 match mx with
 | none => match bnd n hi n with
  | some h => match bnd 0 lo h with
   | some l => some (.lst (zh h l) (ex && za h n) (tkN (zb (zh h l) esz) (wP (zb l esz) cs)))
   | none => none
  | none => none
 | some m => match bnd n (some m) n with
  | some m => match bnd n hi m with
   | some h => match bnd 0 lo h with
    | some l => some (.lst (zh h l) (za h m) (tkN (zb (zh h l) esz) (wP (zb l esz) cs)))
    | none => none
   | none => none
  | none => none
def zzl (id off esz m len : Nat) (lo hi : Option AV) : Option AV :=
 match bnd len hi m with
 | some h => match bnd 0 lo h with
  | some l => some (.sl id (bif za m l then off else zc off (zb l esz)) (zh h l) (.fix (zh m l)))
  | none => none
 | none => none
def UK (esz : Nat) (x : AV) (lo hi mx : Option AV) : Option AV :=
 match x with
 | .nils => match bnd 0 mx 0 with
  | some _ => match bnd 0 hi 0 with
   | some _ => match bnd 0 lo 0 with
    | some _ => some .nils
    | none => none
   | none => none
  | none => none
 | .sl0 => match mx with
  | none => match bnd 0 hi 0 with
   | some _ => match bnd 0 lo 0 with
    | some _ => some .sl0
    | none => none
   | none => none
  | some _ => none
 | .sl id off len c => match c with
  | .fix c => match bnd c mx c with
   | some m => zzl id off esz m len lo hi
   | none => none
  | .opn e => bif za e esz then
    match mx with
    | none => match bnd len hi len with
     | some h => match bnd 0 lo h with
      | some l => bif za l 0 then some (.sl id off h (.opn e))
       else bif zd l len then some (.sl id (zc off (zb l esz)) (zh h l) (.opn e))
       else bif za h l then some .sl0 else none
      | none => none
     | none => none
    | some mx => match bnd len (some mx) len with
     | some m => zzl id off esz m len lo hi
     | none => none
   else none
 | .lst n ex cs => zzo esz n ex cs lo hi mx
 | .gr _ e n cs => bif za e esz then zzo esz n false cs lo hi mx else none
 | _ => none
def zo3 (n esz : Nat) (x : AV) (lo hi mx : Option AV) : Option AV :=
 match x with
 | .ptr id off => match bnd n mx n with
  | some m => zzl id off esz m n lo hi
  | none => none
 | _ => none
def vFa (off : Nat) (x : AV) : Option AV :=
 match x with
 | .ptr id o => some (.ptr id (zc o off))
 | .gptr g o => some (.gptr g (zc o off))
 | .vp cs => some (.vp (wP off cs))
 | _ => none
def ZB : Option (List AV) → Option AV
 | some l => some (.agg l)
 | none => none
def vFd (off : Nat) (n : Option Nat) (x : AV) : Option AV :=
 match x with
 | .agg cs => match n with
  | none => hY (wP off cs)
  | some n => ZB (cut cs off n)
 | _ => none
def vIa (esz : Nat) (x i : AV) : Option AV :=
 match x with
 | .sl id off len _ => match idx i len with
  | some k => some (.ptr id (zc off (zb k esz)))
  | none => none
 | .lst n _ cs => match idx i n with
  | some k => some (.vp (wP (zb k esz) cs))
  | none => none
 | .gr _ e n cs => bif za e esz then match idx i n with
   | some k => some (.vp (wP (zb k esz) cs))
   | none => none
  else none
 | _ => none
def zpb (n esz : Nat) (x i : AV) : Option AV :=
 match x with
 | .ptr id off => match idx i n with
  | some k => some (.ptr id (zc off (zb k esz)))
  | none => none
 | .gptr g off => match idx i n with
  | some k => some (.gptr g (zc off (zb k esz)))
  | none => none
 | .vp cs => match idx i n with
  | some k => some (.vp (wP (zb k esz) cs))
  | none => none
 | _ => none
def Gv : Option Nat → Option AV
 | some b => some (.int .u8 (.ofNat b))
 | none => none
def zsG (x i : AV) : Option AV :=
 match x with
 | .str t => match i with
  | .int _ (.ofNat i) => Gv (Pt t i)
  | _ => none
 | _ => none
def znX (n esz : Nat) (ag : Bool) (x i : AV) : Option AV :=
 match x with
 | .agg cs => match idx i n with
  | some k => bif ag then ZB (cut cs (zb k esz) esz) else hY (wP (zb k esz) cs)
  | none => none
 | _ => none
def Js (z : AV) (ok : Bool) : Option (Option (Nat × AV)) → Option AV
 | some (some p) => some (bif ok then .tup [p.2, .bool true] else p.2)
 | some none => some (bif ok then .tup [z, .bool false] else z)
 | none => none
def vLk (s : St) (f : FK) (z : AV) (ok : Bool) (m k : AV) : Option AV :=
 match m with
 | .nilm => Js z ok (some none)
 | .map id => match s.get id with
  | some (.map es _) => Js z ok (hH f k es 0)
  | _ => none
 | _ => none
def oMu (s : St) (f : FK) (m k v : AV) : Option (AV × St) :=
 match m with
 | .map id => match s.get id with
  | some (.map es clock) => match hH f k es 0 with
   | some (some p) => some (qz, s.put id (.map (UI v k es p.1) clock))
   | some none => some (qz, s.put id (.map (es ++ [(k, v, clock)]) (Nat.succ clock)))
   | none => none
  | _ => none
 | _ => none
def oMd (s : St) (f : FK) (m k : AV) : Option (AV × St) :=
 match m with
 | .nilm => some (qz, s)
 | .map id => match s.get id with
  | some (.map es clock) => match hH f k es 0 with
   | some (some p) => some (qz, s.put id (.map (zxc es p.1) clock))
   | some none => some (qz, s.put id (.map es clock))
   | none => none
  | _ => none
 | _ => none
def oRs (s : St) (x : AV) : Option (AV × St) :=
 match x with
 | .str t => some (.ptr s.next 0, s.alloc (.siter t 0))
 | _ => none
def oNs (s : St) (it : AV) : Option (AV × St) :=
 match it with
 | .ptr id 0 => match s.get id with
  | some (.siter t pos) => match U0 pos t with
   | b :: r => some (.tup [.bool true, .int .i64 (.ofNat pos), .int .i32 (.ofNat (ki (b :: r)).1)], s.put id (.siter t (zc pos (ki (b :: r)).2)))
   | [] => some (.tup [.bool false], s)
  | _ => none
 | _ => none
def oRm (s : St) (x : AV) : Option (AV × St) :=
 match x with
 | .nilm => some (.ptr s.next 0, s.alloc (.miter none 0 [] 0))
 | .map id => match s.get id with
  | some (.map _ clock) => some (.ptr s.next 0, s.alloc (.miter (some id) clock [] clock))
  | _ => none
 | _ => none
def pa (s : St) (id m since : Nat) (seen : List Nat) (clock : Nat) : List (AV × AV × Nat) → Option (AV × St)
 | [] => some (.tup [.bool false], s)
 | e :: r => match r with
  | [] => bif zd e.2.2 since then some (.tup [.bool true, e.1, e.2.1], s.put id (.miter (some m) since (seen ++ [e.2.2]) clock)) else none
  | _ :: _ => none
def Hc (seen : List Nat) (last : Nat) (es : List (AV × AV × Nat)) : Bool :=
 match seen with
 | [] => false
 | _ :: _ => match es with
  | [] => false
  | _ :: _ => QD last es
def oNm (s : St) (it : AV) : Option (AV × St) :=
 match it with
 | .ptr id 0 => match s.get id with
  | some (.miter none _ _ _) => some (.tup [.bool false], s)
  | some (.miter (some m) since seen last) => match s.get m with
   | some (.map es clock) => bif Hc seen last es then none else pa s id m since seen clock (VG seen es)
   | _ => none
  | _ => none
 | _ => none
def VE : List Nat → Option Nat
 | [] => none
 | n :: r => match r with
  | [] => some n
  | _ :: _ => VE r
def ztV : Option (AV × AV) → Option AV
 | some p => some (.tup [p.1, p.2])
 | none => none
def vEn (s : St) (it : AV) : Option AV :=
 match it with
 | .ptr id 0 => match s.get id with
  | some (.miter (some m) _ seen stepped) => match VE seen with
   | some b => match s.get m with
    | some (.map es clock) => bif za clock stepped then ztV (Jg b es) else none
    | _ => none
   | none => none
  | _ => none
 | _ => none
def vEx (x : AV) (i : Nat) : Option AV :=
 match x with
 | .tup vs => hY (wP i vs)
 | _ => none
def Qh (s : St) (k : LK) (x : AV) : Option AV :=
 match k with
 | .s => match x with
  | .str t => some (.int .i64 (.ofNat (wZ t)))
  | _ => none
 | .v => match x with
  | .nils => some (.int .i64 (.ofNat 0))
  | .sl0 => some (.int .i64 (.ofNat 0))
  | .sl _ _ n _ => some (.int .i64 (.ofNat n))
  | .lst n _ _ => some (.int .i64 (.ofNat n))
  | .gr _ _ n _ => some (.int .i64 (.ofNat n))
  | _ => none
 | .m => match x with
  | .nilm => some (.int .i64 (.ofNat 0))
  | .map id => match s.get id with
   | some (.map es _) => some (.int .i64 (.ofNat (wZ es)))
   | _ => none
  | _ => none
def znV (x : AV) : Option AV :=
 match x with
 | .nils => some (.int .i64 (.ofNat 0))
 | .sl _ _ _ (.fix n) => some (.int .i64 (.ofNat n))
 | _ => none
def vMn (mx : Bool) : List AV → Option AV
 | v :: r => VM mx v r
 | [] => none
def PM (s : St) (x : AV) : Option (AV × St) :=
 match x with
 | .sl id off len c => match s.get id with
  | some (.row e cs ext fz) => some (.sl id off len c, s.put id (.row e cs ext fz))
  | _ => none
 | _ => none
def zoZ (s : St) (x : AV) : Option AV :=
 match x with
 | .nilp => some .nilp
 | .ptr id off => match s.get id with
  | some (.row _ cs _ _) => bif zd off (wZ cs) then some (.ptr id off) else none
  | _ => none
 | _ => none
def zts (e n : Nat) : List (Nat × Nat) → Bool
 | [] => false
 | p :: r => bif za p.1 e && za p.2 n then true else zts e n r
def zoY (s : St) (L : List (Nat × Nat)) (x : AV) : Option AV :=
 match x with
 | .nilp => some .nilp
 | .ptr id 0 => match s.get id with
  | some (.row e cs false _) => bif zts e (wZ cs) L then some (.ptr id 0) else none
  | _ => none
 | _ => none
def zvL : List (AV × AV × Nat) → Nat → Nat
 | [], _ => 0
 | e :: _, 0 => e.2.2
 | _ :: es, i + 1 => zvL es i
def oMe (s : St) (f : FK) (z : AV) (m k : AV) : Option (AV × St) :=
 match m with
 | .map id => match s.get id with
  | some (.map es clock) => match hH f k es 0 with
   | some (some p) => some (.tup [p.2, .int .i64 (.ofNat (zvL es p.1))], s.put id (.map (UI p.2 k es p.1) clock))
   | some none => some (.tup [z, .int .i64 (.ofNat clock)], s.put id (.map (es ++ [(k, z, clock)]) (Nat.succ clock)))
   | none => none
  | _ => none
 | _ => none
def P9 (b : Nat) (v : AV) : List (AV × AV × Nat) → Option (List (AV × AV × Nat))
 | [] => none
 | e :: es => bif za e.2.2 b then some ((e.1, v, e.2.2) :: es) else match P9 b v es with
  | some r => some (e :: r)
  | none => none
def oEs (s : St) (m t v : AV) : Option (AV × St) :=
 match m with
 | .map id => match t with
  | .int _ (.ofNat b) => match s.get id with
   | some (.map es clock) => match P9 b v es with
    | some es' => some (qz, s.put id (.map es' clock))
    | none => none
   | _ => none
  | _ => none
 | _ => none
def zo4 (x : AV) : Option AV :=
 match x with
 | .nils => some .nilp
 | .sl id off len c => match c with
  | .fix c => bif za c 0 then none else some (.ptr id off)
  | .opn _ => bif za len 0 then none else some (.ptr id off)
 | _ => none
def PN (s : St) (e : Nat) (x n : AV) : Option (AV × St) :=
 match n with
 | .int _ (.ofNat n) => match n with
  | 0 => match x with
   | .nilp => some (.str [], s)
   | .ptr _ _ => some (.str [], s)
   | _ => none
  | Nat.succ m => match x with
   | .ptr id off => match s.get id with
    | some (.row t cs ext _) => bif za t e && zd m 9223372036854775807 then
      match vF (cut cs off (Nat.succ m)) with
      | some b => some (.str b, s.put id (.row t cs ext true))
      | none => none
     else none
    | _ => none
   | _ => none
 | _ => none
def G2 (c : Nat) : List Nat → Nat → Option Nat
 | [], _ => none
 | b :: r, i => bif za b c then some i else G2 c r (Nat.succ i)
def zo2 (x c : AV) : Option AV :=
 match x with
 | .str t => match c with
  | .int .u8 (.ofNat c) => bif zd c 256 then match G2 c t 0 with
   | some i => some (.int .i64 (.ofNat i))
   | none => some (.int .i64 (.negSucc 0)) else none
  | _ => none
 | _ => none
def v1 (tm : Trie AV) (s : St) (x : Opd) (f : AV → Option AV) : Option (AV × St) :=
 match x.ev tm with
 | some v => ko s (f v)
 | none => none
def v2 (tm : Trie AV) (s : St) (x y : Opd) (f : AV → AV → Option AV) : Option (AV × St) :=
 match x.ev tm with
 | some v => match y.ev tm with
  | some w => ko s (f v w)
  | none => none
 | none => none
def o1 (tm : Trie AV) (x : Opd) (f : AV → Option (AV × St)) : Option (AV × St) :=
 match x.ev tm with
 | some v => f v
 | none => none
def o2 (tm : Trie AV) (x y : Opd) (f : AV → AV → Option (AV × St)) : Option (AV × St) :=
 match x.ev tm with
 | some v => match y.ev tm with
  | some w => f v w
  | none => none
 | none => none
def o3 (tm : Trie AV) (x y z : Opd) (f : AV → AV → AV → Option (AV × St)) : Option (AV × St) :=
 match x.ev tm with
 | some v => match y.ev tm with
  | some w => match z.ev tm with
   | some u => f v w u
   | none => none
  | none => none
 | none => none
def vs3 (tm : Trie AV) (s : St) (x : Opd) (lo hi : Option Opd) (f : AV → Option AV → Option AV → Option AV) : Option (AV × St) :=
 match x.ev tm with
 | some v => match evO tm lo with
  | some l => match evO tm hi with
   | some h => ko s (f v l h)
   | none => none
  | none => none
 | none => none
def vs4 (tm : Trie AV) (s : St) (x : Opd) (lo hi mx : Option Opd) (f : AV → Option AV → Option AV → Option AV → Option AV) : Option (AV × St) :=
 match evO tm mx with
 | some m => vs3 tm s x lo hi (fun v l h => f v l h m)
 | none => none
def vL (tm : Trie AV) (s : St) (l : List Opd) (f : List AV → Option AV) : Option (AV × St) :=
 match evL tm l with
 | some vs => ko s (f vs)
 | none => none
def vLL (tm : Trie AV) (s : St) (l m : List Opd) (f : List AV → List AV → Option AV) : Option (AV × St) :=
 match evL tm l with
 | some us => match evL tm m with
  | some vs => ko s (f us vs)
  | none => none
 | none => none
def pS (s : St) (e : Nat) (zs : List AV) : Option (AV × St) := some (.ptr s.next 0, s.alloc (.row e zs false false))
def HE (s : St) (e : Nat) (v : AV) : Option (AV × St) := some (.ptr s.next 0, s.alloc (.row e v.cells false false))
def Xg (s : St) (e len : Nat) : Option (List AV) → Option (AV × St)
 | some cs => bif s.md && xK cs then some (.lst len true cs, s) else some (.sl s.next 0 len (.fix len), s.alloc (.row e cs false false))
 | none => none
def zpC (s : St) : Option (AV × St) := some (.map s.next, s.alloc (.map [] 0))
abbrev ztN (x : Opd) (_G : Env) (tm : Trie AV) (s : St) : Option (AV × St) := v1 tm s x some
abbrev HI (c : Opd) (a : Opd) (b : Opd) (_G : Env) (tm : Trie AV) (s : St) : Option (AV × St) := ko s (JU (c.ev tm) (a.ev tm) (b.ev tm))
abbrev X6 (e : Nat) (zs : List AV) (_G : Env) (_tm : Trie AV) (s : St) : Option (AV × St) := pS s e zs
abbrev zz3 (e : Nat) (x : Opd) (_G : Env) (tm : Trie AV) (s : St) : Option (AV × St) := o1 tm x (HE s e)
abbrev JC (zs : List AV) (ps : List (Nat × Nat × Opd)) (_G : Env) (tm : Trie AV) (s : St) : Option (AV × St) := ko s (ZB (jo zs tm ps))
abbrev zz4 (e : Nat) (zs : List AV) (len : Nat) (ps : List (Nat × Nat × Opd)) (_G : Env) (tm : Trie AV) (s : St) : Option (AV × St) := Xg s e len (jo zs tm ps)
abbrev PS (x : Opd) (G : Env) (tm : Trie AV) (s : St) : Option (AV × St) := v1 tm s x (vLd G.globs s)
abbrev zyf (n : Nat) (x : Opd) (G : Env) (tm : Trie AV) (s : St) : Option (AV × St) := v1 tm s x (Ys G.globs s n)
abbrev K5 (n : Nat) (x : Opd) (v : Opd) (_G : Env) (tm : Trie AV) (s : St) : Option (AV × St) := o2 tm x v (oSt s n)
abbrev zyk (x : Opd) (_G : Env) (tm : Trie AV) (s : St) : Option (AV × St) := v1 tm s x zsL
abbrev zz2 (op : BinOp) (x : Opd) (y : Opd) (_G : Env) (tm : Trie AV) (s : St) : Option (AV × St) := v2 tm s x y (zw7 op)
abbrev zyb (k : EqK) (neg : Bool) (x : Opd) (y : Opd) (_G : Env) (tm : Trie AV) (s : St) : Option (AV × St) := v2 tm s x y (zzm k neg)
abbrev ztR (op : UnOp) (x : Opd) (_G : Env) (tm : Trie AV) (s : St) : Option (AV × St) := v1 tm s x (vUn op)
abbrev ztI (k : IntKind) (x : Opd) (_G : Env) (tm : Trie AV) (s : St) : Option (AV × St) := v1 tm s x (vCi k)
abbrev zz9 (e : Nat) (x : Opd) (_G : Env) (tm : Trie AV) (s : St) : Option (AV × St) := o1 tm x (UC s e)
abbrev zz5 (x : Opd) (_G : Env) (tm : Trie AV) (s : St) : Option (AV × St) := o1 tm x (PM s)
abbrev zya (x : Opd) (_G : Env) (tm : Trie AV) (s : St) : Option (AV × St) := v1 tm s x (zoZ s)
abbrev zz8 (L : List (Nat × Nat)) (x : Opd) (_G : Env) (tm : Trie AV) (s : St) : Option (AV × St) := v1 tm s x (zoY s L)
abbrev zz6 (x : Opd) (_G : Env) (tm : Trie AV) (s : St) : Option (AV × St) := v1 tm s x (zw8 s)
abbrev zz7 (x : Opd) (_G : Env) (tm : Trie AV) (s : St) : Option (AV × St) := v1 tm s x zoX
abbrev zyi (t : Nat) (x : Opd) (_G : Env) (tm : Trie AV) (s : St) : Option (AV × St) := v1 tm s x (fun v => some (.ifc t v))
abbrev zyh (f : Nat) (fst : List Opd) (cap : List Opd) (_G : Env) (tm : Trie AV) (s : St) : Option (AV × St) := vLL tm s fst cap (fun us vs => some (.fn f us vs))
abbrev zyj (e : Nat) (_x1 : Nat) (bytes : Nat) (zs : List AV) (l : Opd) (c : Opd) (_G : Env) (tm : Trie AV) (s : St) : Option (AV × St) := o2 tm l c (UD s e bytes zs)
abbrev zyn (x : Opd) (lo : Option Opd) (hi : Option Opd) (_G : Env) (tm : Trie AV) (s : St) : Option (AV × St) := vs3 tm s x lo hi zva
abbrev zyo (esz : Nat) (x : Opd) (lo : Option Opd) (hi : Option Opd) (mx : Option Opd) (_G : Env) (tm : Trie AV) (s : St) : Option (AV × St) := vs4 tm s x lo hi mx (UK esz)
abbrev zym (n : Nat) (esz : Nat) (x : Opd) (lo : Option Opd) (hi : Option Opd) (mx : Option Opd) (_G : Env) (tm : Trie AV) (s : St) : Option (AV × St) := vs4 tm s x lo hi mx (zo3 n esz)
abbrev ztK (off : Nat) (x : Opd) (_G : Env) (tm : Trie AV) (s : St) : Option (AV × St) := v1 tm s x (vFa off)
abbrev ztL (esz : Nat) (x : Opd) (i : Opd) (_G : Env) (tm : Trie AV) (s : St) : Option (AV × St) := v2 tm s x i (vIa esz)
abbrev zyc (n : Nat) (esz : Nat) (x : Opd) (i : Opd) (_G : Env) (tm : Trie AV) (s : St) : Option (AV × St) := v2 tm s x i (zpb n esz)
abbrev zye (x : Opd) (i : Opd) (_G : Env) (tm : Trie AV) (s : St) : Option (AV × St) := v2 tm s x i zsG
abbrev ztQ (x : Opd) (_G : Env) (tm : Trie AV) (s : St) : Option (AV × St) := o1 tm x (oRs s)
abbrev ztP (it : Opd) (_G : Env) (tm : Trie AV) (s : St) : Option (AV × St) := o1 tm it (oNs s)
abbrev ztJ (x : Opd) (i : Nat) (_G : Env) (tm : Trie AV) (s : St) : Option (AV × St) := v1 tm s x (fun v => vEx v i)
abbrev ztH (_ : Nat) (_ : List Opd) (_G : Env) (_tm : Trie AV) (_s : St) : Option (AV × St) := none
abbrev zoD (_ : Opd) (_ : List Opd) (_G : Env) (_tm : Trie AV) (_s : St) : Option (AV × St) := none
abbrev zyg (k : LK) (x : Opd) (_G : Env) (tm : Trie AV) (s : St) : Option (AV × St) := v1 tm s x (Qh s k)
abbrev zz1 (e : Nat) (esz : Nat) (bytes : Nat) (x : Opd) (y : Opd) (_G : Env) (tm : Trie AV) (s : St) : Option (AV × St) := o2 tm x y (jg s e esz bytes)
abbrev ztM (xs : List Opd) (_G : Env) (tm : Trie AV) (s : St) : Option (AV × St) := vL tm s xs (vMn false)
abbrev zyq (x : Opd) (_G : Env) (tm : Trie AV) (s : St) : Option (AV × St) := v1 tm s x zo4
abbrev zyr (e : Nat) (x : Opd) (n : Opd) (_G : Env) (tm : Trie AV) (s : St) : Option (AV × St) := o2 tm x n (PN s e)
abbrev zyd (x : Opd) (c : Opd) (_G : Env) (tm : Trie AV) (s : St) : Option (AV × St) := v2 tm s x c zo2
abbrev zyl (x : Opd) (_G : Env) (tm : Trie AV) (s : St) : Option (AV × St) := v1 tm s x some
abbrev zyp  (_G : Env) (_tm : Trie AV) (_s : St) : Option (AV × St) := none
noncomputable def opv (G : Env) (op : IOp) (tm : Trie AV) (s : St) : Option (AV × St) :=
 IOp.rec (motive := fun _ => Env → Trie AV → St → Option (AV × St)) ztN HI X6 zz3 JC zz4 PS zyf K5 zyk zz2 zyb ztR ztI zz9 zz5 zya zz8 zz6 zz7 zyi zyh zyj zyn zyo zym ztK ztL zyc zye ztQ ztP ztJ ztH zoD zyg zz1 ztM zyq zyr zyd zyl zyp op G tm s
def qH (tm : Trie AV) (d : Option Nat) (v : AV) : Trie AV :=
 match d with
 | some i => tm.set i v
 | none => tm
def wN : Trie AV → Nat → List AV → Trie AV
 | tm, _, [] => tm
 | tm, i, v :: r => wN (tm.set i v) (Nat.succ i) r
def lj : Trie AV → List Nat → List AV → Option (Trie AV)
 | tm, [], [] => some tm
 | tm, p :: ps, v :: vs => lj (tm.set p v) ps vs
 | _, _, _ => none
def kg (g : Option (Nat × Bool)) (tm : Trie AV) : Option Bool :=
 match g with
 | none => some true
 | some (i, w) => match tm.get i with
  | some (.bool b) => some (b == w)
  | some _ => some false
  | none => none
def gb (G : List (List AV)) (tm : Trie AV) (s : St) : List RV → Option (List AV)
 | [] => some []
 | r :: rest => match (match r with
   | .t i => tm.get i
   | .c1 a => match tm.get a with
    | some p => match vH G s p 1 with
     | some (v :: _) => some v
     | _ => none
    | none => none
   | .cn a n => match tm.get a with
    | some p => match vH G s p n with
     | some cs => some (.agg cs)
     | none => none
    | none => none : Option AV), gb G tm s rest with
  | some v, some vs => some (v :: vs)
  | _, _ => none
def vQ : List AV → AV
 | [v] => v
 | vs => .tup vs
def w5 (s : St) : List Nat → Option St
 | [] => some s
 | d :: r => match s.get d with
  | some .dfd => w5 (s.put d .dfd0) r
  | _ => none
def X9 : Option AV → Option (List Nat)
 | some (.ptr id _) => some [id]
 | some (.sl id _ _ _) => some [id]
 | some (.map id) => some [id]
 | some _ => some []
 | none => none
def zyy : Option AV → Option (List Nat)
 | some (.ptr id _) => some [id]
 | some (.sl id _ _ _) => some [id]
 | some (.map id) => some [id]
 | some (.gr id _ _ _) => some [id]
 | some _ => some []
 | none => none
def zso (a b : Option (List Nat)) : Option (List Nat) :=
 match a, b with
 | some a, some b => some (a ++ b)
 | _, _ => none
def qg (op : IOp) (tm : Trie AV) : Option (List Nat) :=
 match op with
 | .ld x | .ldn _ x | .st _ x _ | .len _ x | .cbs x | .cbb x | .cup x | .cpu _ x | .ust _ x _ => X9 (x.ev tm)
 | .app _ _ _ x y => zso (zyy (x.ev tm)) (X9 (y.ev tm))
 | .call _ _ | .cv _ _ | .ns _ => none
 | _ => some []
structure LogE where
 idx : Nat
 lo : Nat
 hi : Nat
 tch : Option (List Nat)
 wm : Nat
def qv (deps : Nat) : List LogE → List (Nat × Nat) → List (Nat × Nat)
 | [], h => h
 | e :: r, h => bif za e.lo e.hi || deps.testBit e.idx then qv deps r h else (e.lo, e.hi) :: qv deps r h
def offMask (m : Nat) : Option (List Nat) → Bool
 | none => false
 | some l => go l
 where
 go : List Nat → Bool
 | [] => true
 | a :: r => bif m.testBit a then false else go r
def uj (deps : Nat) (tch : Option (List Nat)) (wm : Nat) : List LogE → Bool
 | [] => true
 | e :: r => bif deps.testBit e.idx then uj deps tch wm r
  else bif (za wm 0 || offMask wm e.tch) && (za e.wm 0 || offMask e.wm tch) then uj deps tch wm r else false
structure Self where
 call : Nat → List AV → St → Option (AV × St)
 loop : Option Nat → ICode → Fr → St → Option (Res × Fr × St)
 round : Nat → List AV → St → Option (AV × St)
def Uv (S : Self) (x : Option AV) (vs : Option (List AV)) (s : St) : Option (AV × St) :=
 match vs with
 | some vs => match x with
  | some (.fn f a c) => S.call f (a ++ vs ++ c) s
  | some (.yld l) => S.round l vs s
  | _ => none
 | none => none
def GX (S : Self) (f : Nat) (vs : Option (List AV)) (s : St) : Option (AV × St) :=
 match vs with
 | some vs => S.call f vs s
 | none => none
abbrev zun (f : Nat) (args : List Opd) (_G : Env) (S : Self) (tm : Trie AV) (s : St) : Option (AV × St) := GX S f (evL tm args) s
abbrev zod (x : Opd) (args : List Opd) (_G : Env) (S : Self) (tm : Trie AV) (s : St) : Option (AV × St) := Uv S (x.ev tm) (evL tm args) s
abbrev zoj (y0 : Opd) (G : Env) (_S : Self) (tm : Trie AV) (s : St) : Option (AV × St) := ztN y0 G tm s
abbrev zuo (y0 : Opd) (y1 : Opd) (y2 : Opd) (G : Env) (_S : Self) (tm : Trie AV) (s : St) : Option (AV × St) := HI y0 y1 y2 G tm s
abbrev zxA (y0 : Nat) (y1 : List AV) (G : Env) (_S : Self) (tm : Trie AV) (s : St) : Option (AV × St) := X6 y0 y1 G tm s
abbrev zrs (y0 : Nat) (y1 : Opd) (G : Env) (_S : Self) (tm : Trie AV) (s : St) : Option (AV × St) := zz3 y0 y1 G tm s
abbrev zxB (y0 : List AV) (y1 : List (Nat × Nat × Opd)) (G : Env) (_S : Self) (tm : Trie AV) (s : St) : Option (AV × St) := JC y0 y1 G tm s
abbrev zrt (y0 : Nat) (y1 : List AV) (y2 : Nat) (y3 : List (Nat × Nat × Opd)) (G : Env) (_S : Self) (tm : Trie AV) (s : St) : Option (AV × St) := zz4 y0 y1 y2 y3 G tm s
abbrev zoh (y0 : Opd) (G : Env) (_S : Self) (tm : Trie AV) (s : St) : Option (AV × St) := PS y0 G tm s
abbrev zrE (y0 : Nat) (y1 : Opd) (G : Env) (_S : Self) (tm : Trie AV) (s : St) : Option (AV × St) := zyf y0 y1 G tm s
abbrev zom (y0 : Nat) (y1 : Opd) (y2 : Opd) (G : Env) (_S : Self) (tm : Trie AV) (s : St) : Option (AV × St) := K5 y0 y1 y2 G tm s
abbrev zrJ (y0 : Opd) (G : Env) (_S : Self) (tm : Trie AV) (s : St) : Option (AV × St) := zyk y0 G tm s
abbrev zrr (y0 : BinOp) (y1 : Opd) (y2 : Opd) (G : Env) (_S : Self) (tm : Trie AV) (s : St) : Option (AV × St) := zz2 y0 y1 y2 G tm s
abbrev zrA (y0 : EqK) (y1 : Bool) (y2 : Opd) (y3 : Opd) (G : Env) (_S : Self) (tm : Trie AV) (s : St) : Option (AV × St) := zyb y0 y1 y2 y3 G tm s
abbrev zon (y0 : UnOp) (y1 : Opd) (G : Env) (_S : Self) (tm : Trie AV) (s : St) : Option (AV × St) := ztR y0 y1 G tm s
abbrev zoc (y0 : IntKind) (y1 : Opd) (G : Env) (_S : Self) (tm : Trie AV) (s : St) : Option (AV × St) := ztI y0 y1 G tm s
abbrev zry (y0 : Nat) (y1 : Opd) (G : Env) (_S : Self) (tm : Trie AV) (s : St) : Option (AV × St) := zz9 y0 y1 G tm s
abbrev zru (y0 : Opd) (G : Env) (_S : Self) (tm : Trie AV) (s : St) : Option (AV × St) := zz5 y0 G tm s
abbrev zrz (y0 : Opd) (G : Env) (_S : Self) (tm : Trie AV) (s : St) : Option (AV × St) := zya y0 G tm s
abbrev zrx (y0 : List (Nat × Nat)) (y1 : Opd) (G : Env) (_S : Self) (tm : Trie AV) (s : St) : Option (AV × St) := zz8 y0 y1 G tm s
abbrev zrv (y0 : Opd) (G : Env) (_S : Self) (tm : Trie AV) (s : St) : Option (AV × St) := zz6 y0 G tm s
abbrev zrw (y0 : Opd) (G : Env) (_S : Self) (tm : Trie AV) (s : St) : Option (AV × St) := zz7 y0 G tm s
abbrev zrH (y0 : Nat) (y1 : Opd) (G : Env) (_S : Self) (tm : Trie AV) (s : St) : Option (AV × St) := zyi y0 y1 G tm s
abbrev zrG (y0 : Nat) (y1 : List Opd) (y2 : List Opd) (G : Env) (_S : Self) (tm : Trie AV) (s : St) : Option (AV × St) := zyh y0 y1 y2 G tm s
abbrev zrI (y0 : Nat) (y1 : Nat) (y2 : Nat) (y3 : List AV) (y4 : Opd) (y5 : Opd) (G : Env) (_S : Self) (tm : Trie AV) (s : St) : Option (AV × St) := zyj y0 y1 y2 y3 y4 y5 G tm s
abbrev zrM (y0 : Opd) (y1 : Option Opd) (y2 : Option Opd) (G : Env) (_S : Self) (tm : Trie AV) (s : St) : Option (AV × St) := zyn y0 y1 y2 G tm s
abbrev zrN (y0 : Nat) (y1 : Opd) (y2 : Option Opd) (y3 : Option Opd) (y4 : Option Opd) (G : Env) (_S : Self) (tm : Trie AV) (s : St) : Option (AV × St) := zyo y0 y1 y2 y3 y4 G tm s
abbrev zrL (y0 : Nat) (y1 : Nat) (y2 : Opd) (y3 : Option Opd) (y4 : Option Opd) (y5 : Option Opd) (G : Env) (_S : Self) (tm : Trie AV) (s : St) : Option (AV × St) := zym y0 y1 y2 y3 y4 y5 G tm s
abbrev zof (y0 : Nat) (y1 : Opd) (G : Env) (_S : Self) (tm : Trie AV) (s : St) : Option (AV × St) := ztK y0 y1 G tm s
abbrev zog (y0 : Nat) (y1 : Opd) (y2 : Opd) (G : Env) (_S : Self) (tm : Trie AV) (s : St) : Option (AV × St) := ztL y0 y1 y2 G tm s
abbrev zrB (y0 : Nat) (y1 : Nat) (y2 : Opd) (y3 : Opd) (G : Env) (_S : Self) (tm : Trie AV) (s : St) : Option (AV × St) := zyc y0 y1 y2 y3 G tm s
abbrev zrD (y0 : Opd) (y1 : Opd) (G : Env) (_S : Self) (tm : Trie AV) (s : St) : Option (AV × St) := zye y0 y1 G tm s
abbrev zol (y0 : Opd) (G : Env) (_S : Self) (tm : Trie AV) (s : St) : Option (AV × St) := ztQ y0 G tm s
abbrev zok (y0 : Opd) (G : Env) (_S : Self) (tm : Trie AV) (s : St) : Option (AV × St) := ztP y0 G tm s
abbrev zoe (y0 : Opd) (y1 : Nat) (G : Env) (_S : Self) (tm : Trie AV) (s : St) : Option (AV × St) := ztJ y0 y1 G tm s
abbrev zrF (y0 : LK) (y1 : Opd) (G : Env) (_S : Self) (tm : Trie AV) (s : St) : Option (AV × St) := zyg y0 y1 G tm s
abbrev zrq (y0 : Nat) (y1 : Nat) (y2 : Nat) (y3 : Opd) (y4 : Opd) (G : Env) (_S : Self) (tm : Trie AV) (s : St) : Option (AV × St) := zz1 y0 y1 y2 y3 y4 G tm s
abbrev zoi (y0 : List Opd) (G : Env) (_S : Self) (tm : Trie AV) (s : St) : Option (AV × St) := ztM y0 G tm s
abbrev zrP (y0 : Opd) (G : Env) (_S : Self) (tm : Trie AV) (s : St) : Option (AV × St) := zyq y0 G tm s
abbrev zrQ (y0 : Nat) (y1 : Opd) (y2 : Opd) (G : Env) (_S : Self) (tm : Trie AV) (s : St) : Option (AV × St) := zyr y0 y1 y2 G tm s
abbrev zrC (y0 : Opd) (y1 : Opd) (G : Env) (_S : Self) (tm : Trie AV) (s : St) : Option (AV × St) := zyd y0 y1 G tm s
abbrev zrK (y0 : Opd) (G : Env) (_S : Self) (tm : Trie AV) (s : St) : Option (AV × St) := zyl y0 G tm s
abbrev zrO  (G : Env) (_S : Self) (tm : Trie AV) (s : St) : Option (AV × St) := zyp  G tm s
noncomputable def ql (G : Env) (S : Self) (op : IOp) (tm : Trie AV) (s : St) : Option (AV × St) :=
 IOp.rec (motive := fun _ => Env → Self → Trie AV → St → Option (AV × St)) zoj zuo zxA zrs zxB zrt zoh zrE zom zrJ zrr zrA zon zoc zry zru zrz zrx zrv zrw zrH zrG zrI zrM zrN zrL zof zog zrB zrD zol zok zoe zun zod zrF zrq zoi zrP zrQ zrC zrK zrO op G S tm s
def stS (tm : Trie AV) (d : Option Nat) : Option (AV × St) → Option (Trie AV × St)
 | some p => some (qH tm d p.1, p.2)
 | none => none
def Ko (n : Nat) (p : IOp) : SOper := ⟨some n, p, none⟩
def Kg (n : Nat) (p : IOp) (c : Nat) (b : Bool) : SOper := ⟨some n, p, some (c, b)⟩
def Kn (p : IOp) : SOper := ⟨none, p, none⟩
def Kh (p : IOp) (c : Nat) (b : Bool) : SOper := ⟨none, p, some (c, b)⟩
def Kd (n : Nat) (p : IOp) (m : Nat) : DOper := ⟨⟨some n, p, none⟩, m⟩
def Ke (n : Nat) (p : IOp) (c : Nat) (b : Bool) (m : Nat) : DOper := ⟨⟨some n, p, some (c, b)⟩, m⟩
def Kf (p : IOp) (m : Nat) : DOper := ⟨⟨none, p, none⟩, m⟩
def Kk (p : IOp) (c : Nat) (b : Bool) (m : Nat) : DOper := ⟨⟨none, p, some (c, b)⟩, m⟩
def Ki (n : Nat) : Opd := .c (.int .i64 (.ofNat n))
def Kj (n : Nat) : Opd := .c (.int .u8 (.ofNat n))
def Ku (n : Nat) : Opd := .c (.int .u32 (.ofNat n))
def Kq (n : Nat) : Opd := .c (.int .u64 (.ofNat n))
def Kc (n : Nat) : Opd := .c (.int .i32 (.ofNat n))
def Kv (n : Nat) : AV := .int .i64 (.ofNat n)
def Kw (n : Nat) : AV := .int .u8 (.ofNat n)
def KF : Opd := .c (.bool false)
def KT : Opd := .c (.bool true)
def Km (n : Nat) (x : Opd) : SOper := ⟨some n, .mv x, none⟩
def Kr (l : List SOper) (b : ICode) : ICode := .seq (.reg l) b
def kb (t : IntKind) (l : List Nat) : List AV := l.map fun n => .int t (.ofNat n)
instance opI {n : Nat} : OfNat Opd n := ⟨.t n⟩
theorem opN (n : Nat) : (no_index (OfNat.ofNat n) : Opd) = .t n := rfl
def gg (G : Env) (S : Self) (o : SOper) (tm : Trie AV) (s : St) : Option (Trie AV × St) :=
 match kg o.guard tm with
 | some true => stS tm o.dst (ql G S o.op tm s)
 | some false => some (qH tm o.dst qz, s)
 | none => none
def evS (G : Env) (S : Self) : List SOper → Trie AV → St → Option (Trie AV × St)
 | [], tm, s => some (tm, s)
 | o :: r, tm, s => match gg G S o tm s with
  | some p => evS G S r p.1 p.2
  | none => none
def vh (o : DOper) (log : List LogE) (tm : Trie AV) (s : St) : St :=
 { s with hide := qv o.deps log s.hide, only := (qg o.o.op tm).map fun l => (s.next, l), wm := 0 }
def wq (m n : Nat) : Nat := zf m (Nat.pow 2 n)
def WZ (o : DOper) (i : Nat) (log : List LogE) (tm : Trie AV) (s : St) : Option (AV × St) → Option (List LogE × Trie AV × St)
 | some p => bif uj o.deps (qg o.o.op tm) (wq p.2.wm s.next) log then
   some ({ idx := i, lo := s.next, hi := p.2.next, tch := qg o.o.op tm, wm := wq p.2.wm s.next } :: log, qH tm o.o.dst p.1, { p.2 with hide := s.hide, only := s.only, wm := zi s.wm p.2.wm })
  else none
 | none => none
def ge (G : Env) (S : Self) (o : DOper) (i : Nat) (log : List LogE) (tm : Trie AV) (s : St) : Option (List LogE × Trie AV × St) :=
 match kg o.o.guard tm with
 | some true => WZ o i log tm s (ql G S o.o.op tm (vh o log tm s))
 | some false => some (log, qH tm o.o.dst qz, s)
 | none => none
def evD (G : Env) (S : Self) : List DOper → Nat → List LogE → Trie AV → St → Option (Trie AV × St)
 | [], _, _, tm, s => some (tm, s)
 | o :: r, i, log, tm, s => match ge G S o i log tm s with
  | some p => evD G S r (Nat.succ i) p.1 p.2.1 p.2.2
  | none => none
def vP (df : List Nat) : Option (Trie AV × St) → Option (Res × Fr × St)
 | some p => some (.norm, { tm := p.1, df := df }, p.2)
 | none => none
def vS (k : Fr → St → Option (Res × Fr × St)) : Option (Res × Fr × St) → Option (Res × Fr × St)
 | some p => match p.1 with
  | .norm => k p.2.1 p.2.2
  | _ => some p
 | none => none
def ZH (c : Option AV) (a b : Fr → St → Option (Res × Fr × St)) (fr : Fr) (s : St) : Option (Res × Fr × St) :=
 match c with
 | some (.bool true) => a fr s
 | some (.bool false) => b fr s
 | _ => none
def jt (id : Nat) : Option (Res × Fr × St) → Option (Res × Fr × St)
 | some p => match p.1 with
  | .exit i => bif za i id then some (.norm, p.2) else some p
  | _ => some p
 | none => none
def HN : Option Res → Res
 | none => .norm
 | some r => r
def gI (fr : Fr) (l d : Nat) : Option (AV × St) → Option (Res × Fr × St)
 | some p => match p.2.get l with
  | some (.loop st pend tm ps asg body dd) => match st with
   | .busy => none
   | _ => some (HN pend, { fr with df := d :: fr.df }, p.2.put l (.loop .exhausted pend tm ps asg body dd))
  | _ => none
 | none => none
def rfR (S : Self) (rd : Option Nat) (g : Option AV) (ps : List Nat) (asg body : ICode) (fr : Fr) (s : St) : Option (Res × Fr × St) :=
 match rd with
 | none => match g with
  | some (.fn f a c) => gI fr (Nat.succ s.next) s.next (S.call f (a ++ .yld (Nat.succ s.next) :: c) ((s.alloc .dfd).alloc (.loop .ready none fr.tm ps asg body s.next)))
  | _ => none
 | some _ => none
def Xl (G : Env) (S : Self) (ops : List DOper) (fr : Fr) (s : St) : Option (Res × Fr × St) :=
 match s.only with
 | none => vP fr.df (evD G S ops 0 [] fr.tm s)
 | some _ => none
def LO : List Nat → Trie AV → Trie AV
 | [], tm => tm
 | i :: r, tm => (LO r tm).del i
def U2 : List SOper → List Nat
 | [] => []
 | o :: r => match o.dst with
  | some i => i :: U2 r
  | none => U2 r
def U1 : List DOper → List Nat
 | [] => []
 | o :: r => match o.o.dst with
  | some i => i :: U1 r
  | none => U1 r
def uo : ICode → List Nat
 | .reg l => U2 l
 | .regd l => U1 l
 | .seq a b => uo a ++ uo b
 | _ => []
mutual
def eqW : AV → AV → Bool
 | .bool a, .bool b => a == b
 | .int k n, .int k' m => vX k k' && eqI n m
 | .str a, .str b => eqS a b
 | .nils, .nils => true
 | .nilp, .nilp => true
 | .sl0, .sl0 => true
 | .nilm, .nilm => true
 | .nili, .nili => true
 | .nilf, .nilf => true
 | .ptr i o, .ptr j p => za i j && za o p
 | .gptr i o, .gptr j p => za i j && za o p
 | .map i, .map j => za i j
 | .sl i o n c, .sl j p m d => za i j && za o p && za n m && (match c, d with
  | .fix x, .fix y => za x y
  | .opn x, .opn y => za x y
  | _, _ => false)
 | .agg a, .agg b => kN a b
 | .lst n e a, .lst m f b => za n m && (e == f) && kN a b
 | _, _ => false
def kN : List AV → List AV → Bool
 | [], [] => true
 | a :: x, b :: y => eqW a b && kN x y
 | _, _ => false
end
def eqO : Option AObj → Option AObj → Bool
 | some (.row e cs x f), some (.row e' cs' x' f') => za e e' && (x == x') && (f == f') && kN cs cs'
 | some (.app e cs), some (.app e' cs') => za e e' && kN cs cs'
 | none, none => true
 | _, _ => false
def YO (sA sB : St) (i : Nat) (J : Trie AObj) : Trie AObj := bif eqO (sA.objs.get i) (sB.objs.get i) then J else J.del i
def Zj (sA sB : St) : Nat → Nat → Trie AObj → Trie AObj
 | 0, _, J => J
 | k + 1, i, J => Zj sA sB k (Nat.succ i) (YO sA sB i J)
def lA (sA sB : St) : Nat → Nat → Trie AObj → Option (Trie AObj)
 | 0, m, J => bif za m 0 then some J else none
 | k + 1, m, J => bif za m 0 then some J else lA sA sB k (Nat.xor m (Nat.shiftLeft 1 (Nat.log2 m))) (YO sA sB (Nat.log2 m) J)
def Xc (s sA sB : St) : Option St :=
 bif za sA.next sB.next then
  match lA sA sB 64 (wq (zi sA.wm sB.wm) s.next) (Zj sA sB (zh sA.next s.next) s.next sA.objs) with
  | some J => some { objs := J, next := sA.next, wm := zi s.wm (zi sA.wm sB.wm), hide := s.hide, only := s.only, md := s.md }
  | none => none
 else none
def ZE (L : List Nat) (fr : Fr) (s : St) (x y : Option (Res × Fr × St)) : Option (Res × Fr × St) :=
 match s.only with
 | some _ => none
 | none => match x with
  | some p => match p.1 with
   | .norm => match y with
    | some q => match q.1 with
     | .norm => match Xc s p.2.2 q.2.2 with
      | some s' => some (.norm, { tm := LO L fr.tm, df := fr.df }, s')
      | none => none
     | _ => none
    | none => none
   | _ => none
  | none => none
def evC (G : Env) (S : Self) (rd : Option Nat) : ICode → Fr → St → Option (Res × Fr × St)
 | .skip, fr, s => some (.norm, fr, s)
 | .reg ops, fr, s => vP fr.df (evS G S ops fr.tm s)
 | .regd ops, fr, s => Xl G S ops fr s
 | .seq a b, fr, s => vS (evC G S rd b) (evC G S rd a fr s)
 | .cond c a b, fr, s => ZH (c.ev fr.tm) (evC G S rd a) (evC G S rd b) fr s
 | .block id b, fr, s => jt id (evC G S rd b fr s)
 | .loop b, fr, s => vS (S.loop rd b) (evC G S rd b fr s)
 | .exit id, fr, s => some (.exit id, fr, s)
 | .ret, fr, s => some (.ret, fr, s)
 | .rf g ps asg body, fr, s => rfR S rd (g.ev fr.tm) ps asg body fr s
 | .stk, _, _ => none
 | .both t d a b, fr, s => ZE (t :: d :: (uo a ++ uo b)) fr s (evC G S rd a { tm := (fr.tm.del t).set d (.bool true), df := fr.df } { s with wm := 0 }) (evC G S rd b { tm := (fr.tm.del t).set d (.bool false), df := fr.df } { s with wm := 0 })
def Xm (G : List (List AV)) (tm : Trie AV) (s : St) (res : List RV) : Option (AV × St) :=
 match gb G tm s res with
 | some vs => some (vQ vs, s)
 | none => none
def wR (G : List (List AV)) (res : List RV) : Option (Res × Fr × St) → Option (AV × St)
 | some p => match p.1 with
  | .exit _ => none
  | _ => match w5 p.2.2 p.2.1.df with
   | some s => Xm G p.2.1.tm s res
   | none => none
 | none => none
def lG (n0 : Nat) : AV → Option AV
 | .gr id esz n cs => bif ze n0 id then some (.lst n false cs) else some (.gr id esz n cs)
 | .ptr id off => bif zd id n0 then some (.ptr id off) else none
 | .sl id off len c => bif zd id n0 then some (.sl id off len c) else none
 | .map id => bif zd id n0 then some (.map id) else none
 | v => bif x0 v then some v else none
def XU (n0 : Nat) : List AV → Option (List AV)
 | [] => some []
 | v :: r => match lG n0 v with
  | some v => match XU n0 r with
   | some r => some (v :: r)
   | none => none
  | none => none
def Y4 (n0 : Nat) : AV → Option AV
 | .agg cs => match XU n0 cs with
  | some l => some (.agg l)
  | none => none
 | v => lG n0 v
def pg (n0 : Nat) : List AV → Option (List AV)
 | [] => some []
 | v :: r => match Y4 n0 v with
  | some v => match pg n0 r with
   | some r => some (v :: r)
   | none => none
  | none => none
def lH (n0 : Nat) : AV → Option AV
 | .tup vs => match pg n0 vs with
  | some l => some (.tup l)
  | none => none
 | v => Y4 n0 v
def grW : AV → AV
 | .gr _ _ n cs => .lst n false cs
 | v => v
def zqf : List AV → List AV
 | [] => []
 | v :: r => grW v :: zqf r
def zpL : AV → AV
 | .agg cs => .agg (zqf cs)
 | v => v
def zpM : List AV → List AV
 | [] => []
 | v :: r => zpL v :: zpM r
def agW : AV → AV
 | .agg cs => .agg (zqf cs)
 | .tup vs => .tup (zpM vs)
 | v => v
def lQ (s : St) : Option (AV × St) → Option (AV × St)
 | some p => match (bif za (wq p.2.wm s.next) 0 then lH s.next p.1 else none) with
  | some v => some (v, s)
  | none => some (agW p.1, { p.2 with wm := zi s.wm p.2.wm, md := s.md })
 | none => none
def mdR (b : Bool) : Option (AV × St) → Option (AV × St)
 | some p => some (p.1, { p.2 with md := b })
 | none => none
def pl (E : Env) (S : Self) (F : IFunc) (args : List AV) (s : St) : Option (AV × St) :=
 wR E.globs F.res (evC E S none F.body { tm := wN .leaf 0 args, df := [] } s)
def jj (E : Env) (S : Self) (f : Nat) (args : List AV) (s : St) : Option (AV × St) :=
 match E.funs.get f with
 | some F => bif ze (wZ args) F.ntmps then
   bif E.pure f then lQ s (pl E S F args { s with wm := 0, md := true }) else mdR s.md (pl E S F args { s with md := false })
  else none
 | none => none
def uc (l : Nat) : Option (Res × Fr × St) → Option (AV × St)
 | some p => match p.2.2.get l with
  | some (.loop _ _ tm ps asg body d) => match p.1 with
   | .norm => some (.bool true, p.2.2.put l (.loop .ready none tm ps asg body d))
   | r => some (.bool false, p.2.2.put l (.loop .done (some r) tm ps asg body d))
  | _ => none
 | none => none
def vg (E : Env) (S : Self) (l : Nat) (bd : ICode) : Option (Res × Fr × St) → Option (AV × St)
 | some p => match p.1 with
  | .norm => match p.2.2.get l with
   | some (.loop .ready pend tm ps asg body d) => uc l (evC E S (some l) bd p.2.1 (p.2.2.put l (.loop .busy pend tm ps asg body d)))
   | _ => none
  | _ => none
 | none => none
def uN (E : Env) (S : Self) (l : Nat) (args : List AV) (s : St) : Option (AV × St) :=
 match s.get l with
 | some (.loop _ _ tm ps asg body _) => match lj tm ps args with
  | some tm1 => vg E S l body (evC E S (some l) asg { tm := tm1, df := [] } s)
  | none => none
 | _ => none
def ev (E : Env) : Nat → Self
 | 0 => ⟨fun _ _ _ => none, fun _ _ _ _ => none, fun _ _ _ => none⟩
 | n + 1 => ⟨fun f args s => jj E (ev E n) f args s, fun rd b fr s => evC E (ev E n) rd (.loop b) fr s, fun l args s => uN E (ev E n) l args s⟩
def s0 : St := ⟨.leaf, 0, 0, [], none, false⟩
end
end Go.Proofs.YtionbncghjdeoaaGreatDoor.Ev

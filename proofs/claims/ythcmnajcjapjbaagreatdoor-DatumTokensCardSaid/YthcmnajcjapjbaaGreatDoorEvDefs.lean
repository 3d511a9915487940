/- Part of a verified evaluator of the model's code, generic over the program: a run of the evaluator that answers shows what the model's run answers. No conditions of its own. -/
import GoSem.Dispatch
import GoSem.Machine.Frame
set_option linter.unusedSimpArgs false
set_option linter.unusedVariables false
set_option linter.defProp false
namespace Go.Proofs.YthcmnajcjapjbaaGreatDoor.Ev
noncomputable section
inductive Trie (α : Type) where
 | leaf
 | node (v : Option α) (l r : Trie α)
noncomputable def Trie.get {α : Type} (t : Trie α) : Nat → Option α :=
 Trie.rec (motive := fun _ => Nat → Option α) (fun _ => none) (fun v _ _ l r n => Nat.casesOn (motive := fun _ => Option α) n v fun _ => cond (Nat.beq (Nat.mod n 2) 1) (l (Nat.div n 2)) (r (Nat.pred (Nat.div n 2)))) t
noncomputable def Trie.setF {α : Type} (f : Nat) : Trie α → Nat → Option α → Trie α :=
 Nat.rec (motive := fun _ => Trie α → Nat → Option α → Trie α) (fun t _ _ => t)
  (fun _ ih t n v => Trie.casesOn (motive := fun _ => Trie α) t
   (Nat.casesOn (motive := fun _ => Trie α) n (.node v .leaf .leaf) fun _ => cond (Nat.beq (Nat.mod n 2) 1) (.node none (ih .leaf (Nat.div n 2) v) .leaf) (.node none .leaf (ih .leaf (Nat.pred (Nat.div n 2)) v)))
   fun w l r => Nat.casesOn (motive := fun _ => Trie α) n (.node v l r) fun _ => cond (Nat.beq (Nat.mod n 2) 1) (.node w (ih l (Nat.div n 2) v) r) (.node w l (ih r (Nat.pred (Nat.div n 2)) v))) f
def Trie.set {α : Type} (t : Trie α) (n : Nat) (v : α) : Trie α := t.setF (Nat.succ n) n (some v)
def Trie.del {α : Type} (t : Trie α) (n : Nat) : Trie α := t.setF (Nat.succ n) n none
inductive Cap where
 | fix (n : Nat)
 | opn (esz : Nat)
inductive AV where
 | bool (b : Bool)
 | int (k : IntKind) (n : Int)
 | str (s : List Nat)
 | ptr (id off : Nat)
 | nilp
 | gptr (g off : Nat)
 | sl (id off len : Nat) (c : Cap)
 | sl0
 | nils
 | map (id : Nat)
 | nilm
 | fn (f : Nat) (fst cap : List AV)
 | nilf
 | yld (l : Nat)
 | ifc (t : Nat) (v : AV)
 | nili
 | agg (cs : List AV)
 | tup (vs : List AV)
 /-- a slice whose cells are never written again; ex: its capacity is its length -/
 | lst (n : Nat) (ex : Bool) (cs : List AV)
 /-- such a slice that may grow: id says whether it may still -/
 | gr (id esz n : Nat) (cs : List AV)
 /-- a pointer to cells that are never written again -/
 | vp (cs : List AV)
 deriving Inhabited
inductive Opd where
 | t (i : Nat)
 | c (v : AV)
 deriving Inhabited
inductive FK where
 | i | s | b
 deriving DecidableEq
inductive EqK where
 | basic | bool | ptr | slice | map | func | iface | ifacec
 | flat (ks : List FK)
 deriving DecidableEq
inductive LK where
 | s | v | m
 deriving DecidableEq
inductive IOp where
 | mv (x : Opd)
 | pick (c a b : Opd)
 | alloc (e : Nat) (zs : List AV)
 | box (e : Nat) (x : Opd)
 | build (zs : List AV) (ps : List (Nat × Nat × Opd))
 | bsl (e : Nat) (zs : List AV) (len : Nat) (ps : List (Nat × Nat × Opd))
 | ld (x : Opd)
 | ldn (n : Nat) (x : Opd)
 | st (n : Nat) (x v : Opd)
 | nck (x : Opd)
 | bin (op : BinOp) (x y : Opd)
 | eqk (k : EqK) (neg : Bool) (x y : Opd)
 | un (op : UnOp) (x : Opd)
 | ci (k : IntKind) (x : Opd)
 | csb (e : Nat) (x : Opd)
 | cbb (x : Opd)
 | cup (x : Opd)
 | cpu (u : List (Nat × Nat)) (x : Opd)
 | cbs (x : Opd)
 | cis (x : Opd)
 | mif (t : Nat) (x : Opd)
 | mfn (f : Nat) (fst cap : List Opd)
 | sls (x : Opd) (lo hi : Option Opd)
 | slv (esz : Nat) (x : Opd) (lo hi mx : Option Opd)
 | sla (n esz : Nat) (x : Opd) (lo hi mx : Option Opd)
 | fa (off : Nat) (x : Opd)
 | ia (esz : Nat) (x i : Opd)
 | iaa (n esz : Nat) (x i : Opd)
 | ixs (x i : Opd)
 | rs (x : Opd)
 | ns (it : Opd)
 | ex (x : Opd) (i : Nat)
 | call (f : Nat) (args : List Opd)
 | cv (x : Opd) (args : List Opd)
 | len (k : LK) (x : Opd)
 | app (e esz bytes : Nat) (x y : Opd)
 | mn (xs : List Opd)
 | usd (x : Opd)
 | ust (e : Nat) (x n : Opd)
 | ibs (x c : Opd)
 | nes (x : Opd)
 | stk
 deriving Inhabited
structure SOper where
 dst : Option Nat
 op : IOp
 guard : Option (Nat × Bool)
 deriving Inhabited
structure DOper where
 o : SOper
 deps : Nat
 deriving Inhabited
inductive ICode where
 | skip
 | reg (ops : List SOper)
 | regd (ops : List DOper)
 | seq (a b : ICode)
 | cond (c : Opd) (a b : ICode)
 | block (id : Nat) (b : ICode)
 | loop (b : ICode)
 | exit (id : Nat)
 | ret
 | rf (g : Opd) (ps : List Nat) (assign body : ICode)
 | stk
 /-- a drawn bool (in the temporary d), and what is done by it: the same, but for the temporaries -/
 | both (t d : Nat) (a b : ICode)
 deriving Inhabited
inductive RV where
 | t (i : Nat)
 | c1 (a : Nat)
 | cn (a n : Nat)
 deriving Inhabited
structure IFunc where
 ntmps : Nat
 res : List RV
 body : ICode
 deriving Inhabited
inductive Res where
 | norm
 | exit (id : Nat)
 | ret
 deriving DecidableEq
inductive LSt where
 | ready | busy | done | exhausted
 deriving DecidableEq
inductive AObj where
 | row (e : Nat) (cells : List AV) (ext fz : Bool)
 | map (es : List (AV × AV × Nat)) (clock : Nat)
 | siter (s : List Nat) (pos : Nat)
 | miter (m : Option Nat) (since : Nat) (seen : List Nat) (stepped : Nat)
 | loop (st : LSt) (pend : Option Res) (tm : Trie AV) (ps : List Nat) (assign body : ICode) (defers : Nat)
 | dfd
 | dfd0
 /-- a row that was there before: looked at alone -/
 | giv (cells : List AV)
 /-- a row that may grow behind its first cells, which are never written again -/
 | app (e : Nat) (cells : List AV)
def y7 : AObj → Bool
 | .giv _ => true
 | _ => false
def ZT : AObj → Bool
 | .app _ _ => true
 | _ => false
structure St where
 objs : Trie AObj
 next : Nat
 wm : Nat
 hide : List (Nat × Nat)
 only : Option (Nat × List Nat)
 /-- is the function one whose rows are frozen where they are made? -/
 md : Bool
structure Fr where
 tm : Trie AV
 df : List Nat
structure Env where
 funs : Trie IFunc
 globs : List (List AV)
 lies : List (Nat × Nat × Nat)
 /-- which functions freeze their rows, and leave none of their own behind -/
 pure : Nat → Bool
mutual
def zD : AV → Bool
 | .bool _ => true
 | .int _ _ => true
 | .str _ => true
 | .nilp => true
 | .gptr _ _ => true
 | .sl0 => true
 | .nils => true
 | .nilm => true
 | .nilf => true
 | .nili => true
 | .lst _ _ _ => true
 | .vp _ => true
 | .ifc _ v => zD v
 | .fn _ a c => zu a && zu c
 | .agg cs => zu cs
 | .tup vs => zu vs
 | .ptr _ _ => false
 | .sl _ _ _ _ => false
 | .map _ => false
 | .yld _ => false
 | .gr _ _ _ _ => false
def zu : List AV → Bool
 | [] => true
 | v :: r => zD v && zu r
end
def hid : List (Nat × Nat) → Nat → Bool
 | [], _ => false
 | p :: r, n => bif Nat.ble p.1 n then (bif Nat.blt n p.2 then true else hid r n) else hid r n
def memN : Nat → List Nat → Bool
 | _, [] => false
 | n, m :: r => bif Nat.beq n m then true else memN n r
def St.get (s : St) (id : Nat) : Option AObj :=
 match s.only with
 | none => bif hid s.hide id then none else s.objs.get id
 | some p => bif hid s.hide id then none else bif Nat.ble p.1 id then s.objs.get id else bif memN id p.2 then s.objs.get id else none
def St.alloc (s : St) (o : AObj) : St := { s with objs := s.objs.set s.next o, next := Nat.succ s.next }
def minN (a b : Nat) : Nat := bif Nat.ble a b then a else b
def mark (m id : Nat) : Nat := Nat.lor m (Nat.shiftLeft 1 id)
def St.put (s : St) (id : Nat) (o : AObj) : St := { s with objs := s.objs.set id o, wm := mark s.wm id }
def St.del (s : St) (id : Nat) : St := { s with objs := s.objs.del id, wm := mark s.wm id }
def yz : Nat → List AV → Option (List AV)
 | 0, _ => some []
 | _ + 1, [] => none
 | n + 1, v :: r => match yz n r with
  | some l => some (v :: l)
  | none => none
def yw : Nat → List AV → List AV
 | 0, l => l
 | _ + 1, [] => []
 | n + 1, _ :: r => yw n r
def tkN : Nat → List AV → List AV
 | 0, _ => []
 | _ + 1, [] => []
 | n + 1, v :: r => v :: tkN n r
def cut (l : List AV) (off n : Nat) : Option (List AV) := yz n (yw off l)
def over : List AV → List AV → Option (List AV)
 | l, [] => some l
 | [], _ :: _ => none
 | _ :: l, v :: vs => match over l vs with
  | some r => some (v :: r)
  | none => none
def wz : List AV → Nat → List AV → Option (List AV)
 | l, 0, vs => over l vs
 | [], _ + 1, vs => match vs with
  | [] => some []
  | _ :: _ => none
 | v :: l, n + 1, vs => match wz l n vs with
  | some r => some (v :: r)
  | none => none
def reps : Nat → List AV → List AV
 | 0, _ => []
 | n + 1, z => z ++ reps n z
def lenN {α : Type} : List α → Nat
 | [] => 0
 | _ :: r => Nat.succ (lenN r)
def AV.cells : AV → List AV
 | .agg cs => cs
 | v => [v]
def Opd.ev (tm : Trie AV) : Opd → Option AV
 | .t i => tm.get i
 | .c v => some v
def evL (tm : Trie AV) : List Opd → Option (List AV)
 | [] => some []
 | x :: r => match x.ev tm, evL tm r with
  | some v, some vs => some (v :: vs)
  | _, _ => none
def evO (tm : Trie AV) : Option Opd → Option (Option AV)
 | none => some none
 | some x => match x.ev tm with
  | some v => some (some v)
  | none => none
def ltI : Int → Int → Bool
 | .ofNat a, .ofNat b => Nat.blt a b
 | .ofNat _, .negSucc _ => false
 | .negSucc _, .ofNat _ => true
 | .negSucc a, .negSucc b => Nat.blt b a
def eqI : Int → Int → Bool
 | .ofNat a, .ofNat b => Nat.beq a b
 | .ofNat _, .negSucc _ => false
 | .negSucc _, .ofNat _ => false
 | .negSucc a, .negSucc b => Nat.beq a b
def topN : IntKind → Nat
 | .i8 => 128 | .i16 => 32768 | .i32 => 2147483648 | .i64 => 9223372036854775808
 | .u8 => 256 | .u16 => 65536 | .u32 => 4294967296 | .u64 => 18446744073709551616
def xG (k : IntKind) (n : Int) : Int :=
 match n with
 | .ofNat a => bif Nat.blt a (topN k) then .ofNat a else k.wrap n
 | .negSucc _ => k.wrap n
def xW : IntKind → IntKind → Bool
 | .i8, .i8 | .i16, .i16 | .i32, .i32 | .i64, .i64 | .u8, .u8 | .u16, .u16 | .u32, .u32 | .u64, .u64 => true
 | _, _ => false
def bits (op : BinOp) (k : IntKind) (x y : Int) : Option Int :=
 match op with
 | .and => some (k.wrap ((BitVec.ofInt k.bits x) &&& (BitVec.ofInt k.bits y)).toNat)
 | .or => some (k.wrap ((BitVec.ofInt k.bits x) ||| (BitVec.ofInt k.bits y)).toNat)
 | .xor => some (k.wrap ((BitVec.ofInt k.bits x) ^^^ (BitVec.ofInt k.bits y)).toNat)
 | .andNot => some (k.wrap ((BitVec.ofInt k.bits x) &&& ~~~(BitVec.ofInt k.bits y)).toNat)
 | _ => none
def binI (op : BinOp) (k : IntKind) (x : Int) (k' : IntKind) (y : Int) : Option AV :=
 match op with
 | .shl => bif ltI y 0 then none else some (.int k (xG k (x * 2 ^ (min y.toNat k.bits))))
 | .shr => bif ltI y 0 then none else some (.int k (x.fdiv (2 ^ (min y.toNat k.bits))))
 | _ => bif xW k k' then
  match op with
  | .add => some (.int k (xG k (Int.add x y)))
  | .sub => some (.int k (xG k (Int.sub x y)))
  | .mul => some (.int k (xG k (Int.mul x y)))
  | .quo => bif eqI y 0 then none else some (.int k (xG k (x.tdiv y)))
  | .rem => bif eqI y 0 then none else some (.int k (x.tmod y))
  | .eql => some (.bool (eqI x y))
  | .neq => some (.bool (!eqI x y))
  | .lss => some (.bool (ltI x y))
  | .leq => some (.bool (!ltI y x))
  | .gtr => some (.bool (ltI y x))
  | .geq => some (.bool (!ltI x y))
  | op => match bits op k x y with
   | some r => some (.int k r)
   | none => none
  else none
def eqS : List Nat → List Nat → Bool
 | [], [] => true
 | a :: x, b :: y => bif Nat.beq a b then eqS x y else false
 | _, _ => false
def ltS : List Nat → List Nat → Bool
 | _, [] => false
 | [], _ :: _ => true
 | a :: x, b :: y => bif Nat.blt a b then true else bif Nat.beq a b then ltS x y else false
def pW : Nat → List Nat → List Nat
 | 0, _ => []
 | _ + 1, [] => []
 | n + 1, v :: r => v :: pW n r
def ZK : Nat → List Nat → List Nat
 | 0, l => l
 | _ + 1, [] => []
 | n + 1, _ :: r => ZK n r
def getS : List Nat → Nat → Option Nat
 | [], _ => none
 | v :: _, 0 => some v
 | _ :: r, n + 1 => getS r n
def binS (op : BinOp) (x y : List Nat) : Option AV :=
 match op with
 | .add => bif Nat.blt (Nat.add (lenN x) (lenN y)) 9223372036854775808 then some (.str (x ++ y)) else none
 | .eql => some (.bool (eqS x y))
 | .neq => some (.bool (!eqS x y))
 | .lss => some (.bool (ltS x y))
 | .leq => some (.bool (ltS x y || eqS x y))
 | .gtr => some (.bool (!(ltS x y || eqS x y)))
 | .geq => some (.bool (!ltS x y))
 | _ => none
def eq1 (f : FK) (a b : AV) : Option Bool :=
 match f with
 | .i => match a, b with
  | .int k m, .int k' n => bif xW k k' then some (eqI m n) else none
  | _, _ => none
 | .s => match a, b with
  | .str s, .str t => some (eqS s t)
  | _, _ => none
 | .b => match a, b with
  | .bool p, .bool q => some (p == q)
  | _, _ => none
def vH : List FK → List AV → List AV → Option Bool
 | [], [], [] => some true
 | f :: fs, a :: x, b :: y =>
  match eq1 f a b with
  | some true => vH fs x y
  | some false => match vH fs x y with
   | some _ => some false
   | none => none
  | none => none
 | _, _, _ => none
def eqV (k : EqK) (a b : AV) : Option Bool :=
 match k with
 | .bool => match a, b with
  | .bool p, .bool q => some (p == q)
  | _, _ => none
 | .ptr => match a, b with
  | .nilp, .nilp => some true
  | .nilp, .ptr _ _ => some false
  | .ptr _ _, .nilp => some false
  | .nilp, .vp _ => some false
  | .vp _, .nilp => some false
  | .ptr i o, .ptr i' o' => bif Nat.beq i i' then some (Nat.beq o o') else none
  | _, _ => none
 | .slice => match a, b with
  | .nils, .nils => some true
  | .nils, .sl _ _ _ _ => some false
  | .sl _ _ _ _, .nils => some false
  | .nils, .sl0 => some false
  | .sl0, .nils => some false
  | .nils, .lst n _ _ => bif Nat.beq n 0 then none else some false
  | .lst n _ _, .nils => bif Nat.beq n 0 then none else some false
  | .nils, .gr _ _ _ _ => some false
  | .gr _ _ _ _, .nils => some false
  | _, _ => none
 | .map => match a, b with
  | .nilm, .nilm => some true
  | .nilm, .map _ => some false
  | .map _, .nilm => some false
  | _, _ => none
 | .func => match a, b with
  | .nilf, .nilf => some true
  | .nilf, .fn _ _ _ => some false
  | .fn _ _ _, .nilf => some false
  | _, _ => none
 | .iface => match a, b with
  | .nili, .ifc _ _ => some false
  | .ifc _ _, .nili => some false
  | _, _ => none
 | .ifacec => match a, b with
  | .nili, .nili => some true
  | .nili, .ifc _ _ => some false
  | .ifc _ _, .nili => some false
  | _, _ => none
 | .flat ks => match a, b with
  | .agg x, .agg y => vH ks x y
  | _, _ => none
 | .basic => none
def idx (i : AV) (n : Nat) : Option Nat :=
 match i with
 | .int _ (.ofNat a) => bif Nat.blt a n then some a else none
 | _ => none
def bnd (d : Nat) (i : Option AV) (n : Nat) : Option Nat :=
 match i with
 | none => some d
 | some (.int _ (.ofNat a)) => bif Nat.ble a n then some a else none
 | _ => none
def xi (G : List (List AV)) (s : St) (p : AV) (n : Nat) : Option (List AV) :=
 match p with
 | .ptr id off => match s.get id with
  | some (.row _ cs _ _) => cut cs off n
  | some (.giv cs) => cut cs off n
  | _ => none
 | .gptr g off => match G[g]? with
  | some cs => cut cs off n
  | none => none
 | .vp cs => yz n cs
 | _ => none
def scal : AV → Bool
 | .agg _ => false
 | .tup _ => false
 | _ => true
def z5 : List AV → Bool
 | [] => true
 | v :: r => bif scal v then z5 r else false
def x9 (s : St) (p : AV) (vs : List AV) : Option St :=
 match p with
 | .ptr id off => match s.get id with
  | some (.row t cs e fz) => bif fz || !z5 vs then none else match wz cs off vs with
   | some cs' => some (s.put id (.row t cs' e fz))
   | none => none
  | _ => none
 | _ => none
def wD (zs : List AV) (tm : Trie AV) : List (Nat × Nat × Opd) → Option (List AV)
 | [] => some zs
 | p :: r => match p.2.2.ev tm with
  | some v => bif Nat.beq (lenN v.cells) p.2.1 && Nat.ble 1 p.2.1 then
    match wz zs p.1 v.cells with
    | some zs' => wD zs' tm r
    | none => none
   else none
  | none => none
def vD : AV → Option Nat
 | .nils => some 0
 | .sl0 => some 0
 | .sl _ _ n _ => some n
 | .str s => some (lenN s)
 | .lst n _ _ => some n
 | .gr _ _ n _ => some n
 | _ => none
def zh : List Nat → List AV
 | [] => []
 | b :: r => .int .u8 (.ofNat b) :: zh r
def xI (s : St) (esz n : Nat) : AV → Option (List AV)
 | .nils => some []
 | .sl0 => some []
 | .sl id off _ _ => match s.get id with
  | some (.row _ cs _ _) => cut cs off (Nat.mul n esz)
  | some (.giv cs) => cut cs off (Nat.mul n esz)
  | _ => none
 | .str t => bif Nat.beq esz 1 then some (zh (pW n t)) else none
 | .lst _ _ cs => yz (Nat.mul n esz) cs
 | .gr _ _ _ cs => yz (Nat.mul n esz) cs
 | _ => none
def grow (s : St) (t esz bytes : Nat) (cs : List AV) (need : Nat) : Option (AV × St) :=
 bif Nat.ble (Nat.mul (Nat.mul 2 need) bytes) 281474976710656 && Nat.ble 1 esz && Nat.blt need 9223372036854775808 then
  some (.sl s.next 0 need (.opn esz), s.alloc (.row t cs true false))
 else none
def uv (s : St) (t esz bytes : Nat) (cs : List AV) (need : Nat) : Option (AV × St) :=
 bif Nat.ble (Nat.mul (Nat.mul 2 need) bytes) 281474976710656 && Nat.ble 1 esz && Nat.blt need 9223372036854775808 && zu cs then
  some (.gr s.next esz need cs, s.alloc (.app t cs))
 else none
def appW (s : St) (t esz bytes : Nat) (x : AV) (n : Nat) (new : List AV) : Option (AV × St) :=
 match x with
 | .nils => bif s.md && zu new then uv s t esz bytes new n else grow s t esz bytes new n
 | .lst k ex cs => bif ex then match yz (Nat.mul k esz) cs with
   | some old => uv s t esz bytes (old ++ new) (Nat.add k n)
   | none => none
  else none
 | .gr id esz' k cs => match s.get id with
  | some (.app t0 cells) => bif Nat.beq esz esz' && Nat.beq t0 t && Nat.beq (lenN cells) (lenN cs) && z5 new then uv (s.del id) t esz bytes (cs ++ new) (Nat.add k n) else none
  | _ => none
 | .sl id off len c => match s.get id with
  | some (.row t0 cs e fz) =>
   match c with
   | .fix k => bif Nat.ble (Nat.add len n) k then
     match x9 s (.ptr id (Nat.add off (Nat.mul len esz))) new with
     | some s' => some (.sl id off (Nat.add len n) (.fix k), s')
     | none => none
    else match cut cs off (Nat.mul len esz) with
     | some old => grow s t esz bytes (old ++ new) (Nat.add len n)
     | none => none
   | .opn esz' => bif Nat.beq esz esz' && e && !fz then
     bif Nat.ble (Nat.add off (Nat.mul (Nat.add len n) esz)) (lenN cs) then
      match x9 s (.ptr id (Nat.add off (Nat.mul len esz))) new with
      | some s' => some (.sl id off (Nat.add len n) (.opn esz), s')
      | none => none
     else bif z5 new && Nat.beq t0 t then match cut cs off (Nat.mul len esz) with
       | some old => grow (s.del id) t esz bytes (old ++ new) (Nat.add len n)
       | none => none
      else none
    else none
  | _ => none
 | _ => none
def app0 (s : St) (x : AV) : Option (AV × St) :=
 match x with
 | .nils => some (.nils, s)
 | .sl0 => some (.sl0, s)
 | .sl id off len c => match c with
  | .fix k => bif Nat.ble len k then some (.sl id off len c, s) else none
  | .opn _ => some (.sl id off len c, s)
 | .lst n ex cs => some (.lst n ex cs, s)
 | .gr id esz n cs => some (.gr id esz n cs, s)
 | _ => none
def appV (s : St) (t esz bytes : Nat) (x y : AV) : Option (AV × St) :=
 match vD y with
 | none => none
 | some 0 => app0 s x
 | some (Nat.succ n) => match xI s esz (Nat.succ n) y with
  | none => none
  | some new => appW s t esz bytes x (Nat.succ n) new
def cpyV (s : St) (esz : Nat) (x y : AV) : Option (AV × St) :=
 match vD x, vD y with
 | some a, some b =>
  match minN b a with
  | 0 => some (.int .i64 0, s)
  | Nat.succ m => match x with
   | .sl id off _ _ => match xI s esz (Nat.succ m) y with
    | some cs => match x9 s (.ptr id off) cs with
     | some s' => some (.int .i64 (.ofNat (Nat.succ m)), s')
     | none => none
    | none => none
   | _ => none
 | _, _ => none
def zzn (f : FK) (k : AV) : List (AV × AV × Nat) → Nat → Option (Option (Nat × AV))
 | [], _ => some none
 | e :: es, i => match eq1 f k e.1 with
  | some true => some (some (i, e.2.1))
  | some false => zzn f k es (Nat.succ i)
  | none => none
def setK (v : AV) (k : AV) : List (AV × AV × Nat) → Nat → List (AV × AV × Nat)
 | [], _ => []
 | e :: es, 0 => (k, v, e.2.2) :: es
 | e :: es, i + 1 => e :: setK v k es i
def xe : AV := .tup []
def minV (mx : Bool) : AV → List AV → Option AV
 | a, [] => some a
 | .int k x, .int _ y :: r => bif (bif mx then ltI x y else ltI y x) then minV mx (.int k y) r else minV mx (.int k x) r
 | _, _ => none
def ret1 (s : St) : Option AV → Option (AV × St)
 | some v => some (v, s)
 | none => none
def ZM (c a b : Option AV) : Option AV :=
 match c with
 | some (.bool true) => a
 | some (.bool false) => b
 | _ => none
def ux : List AV → Option AV
 | v :: _ => some v
 | [] => none
def vLd (G : List (List AV)) (s : St) (p : AV) : Option AV :=
 match xi G s p 1 with
 | some l => ux l
 | none => none
def vLdn (G : List (List AV)) (s : St) (n : Nat) (p : AV) : Option AV :=
 match xi G s p n with
 | some cs => some (.agg cs)
 | none => none
def oSt (s : St) (n : Nat) (p w : AV) : Option (AV × St) :=
 bif Nat.beq (lenN w.cells) n then
  match x9 s p w.cells with
  | some s' => some (xe, s')
  | none => none
 else none
def vNck (x : AV) : Option AV :=
 match x with
 | .ptr i o => some (.ptr i o)
 | .gptr g o => some (.gptr g o)
 | .fn f a c => some (.fn f a c)
 | .yld l => some (.yld l)
 | .map m => some (.map m)
 | .vp cs => some (.vp cs)
 | _ => none
def vBin (op : BinOp) (x y : AV) : Option AV :=
 match x with
 | .int k a => match y with
  | .int k' b => binI op k a k' b
  | _ => none
 | .str a => match y with
  | .str b => binS op a b
  | _ => none
 | _ => none
def vEqk (k : EqK) (neg : Bool) (a b : AV) : Option AV :=
 match eqV k a b with
 | some r => some (.bool (bif neg then !r else r))
 | none => none
def vUn (op : UnOp) (x : AV) : Option AV :=
 match op with
 | .neg => match x with
  | .int k n => some (.int k (xG k (Int.sub 0 n)))
  | _ => none
 | .not => match x with
  | .bool b => some (.bool (!b))
  | _ => none
 | .xor => match x with
  | .int k n => match bits .xor k (bif k.signed then -1 else k.max) n with
   | some r => some (.int k r)
   | none => none
  | _ => none
 | .plus => none
def vCi (k : IntKind) (x : AV) : Option AV :=
 match x with
 | .int _ n => some (.int k (xG k n))
 | _ => none
def oCsb (s : St) (e : Nat) (x : AV) : Option (AV × St) :=
 match x with
 | .str t => bif Nat.blt (lenN t) 9223372036854775808 then
   bif s.md then some (.lst (lenN t) false (zh t), s) else some (.sl s.next 0 (lenN t) (.opn 1), s.alloc (.row e (zh t) true false))
  else none
 | _ => none
def xo : List AV → Option (List Nat)
 | [] => some []
 | v :: r => match v with
  | .int .u8 (.ofNat n) => bif Nat.blt n 256 then
    match xo r with
    | some l => some (n :: l)
    | none => none
   else none
  | _ => none
def vStr : Option (List Nat) → Option AV
 | some b => some (.str b)
 | none => none
def yJ : Option (List AV) → Option (List Nat)
 | some l => xo l
 | none => none
def vCbs (s : St) (x : AV) : Option AV :=
 match x with
 | .nils => some (.str [])
 | .sl0 => some (.str [])
 | .sl id off n _ => match s.get id with
  | some (.row _ cs _ _) => vStr (yJ (cut cs off n))
  | some (.giv cs) => vStr (yJ (cut cs off n))
  | _ => none
 | .lst n _ cs => vStr (yJ (yz n cs))
 | .gr _ _ n cs => vStr (yJ (yz n cs))
 | _ => none
def zX (c : Nat) : Bool := bif Nat.blt c 55296 then true else (Nat.ble 57344 c && Nat.ble c 1114111)
def encC (c : Nat) : List Nat :=
 bif Nat.blt c 128 then [c] else bif Nat.blt c 2048 then [Nat.add 192 (Nat.div c 64), Nat.add 128 (Nat.mod c 64)]
 else bif Nat.blt c 65536 then [Nat.add 224 (Nat.div c 4096), Nat.add 128 (Nat.mod (Nat.div c 64) 64), Nat.add 128 (Nat.mod c 64)]
 else [Nat.add 240 (Nat.div c 262144), Nat.add 128 (Nat.mod (Nat.div c 4096) 64), Nat.add 128 (Nat.mod (Nat.div c 64) 64), Nat.add 128 (Nat.mod c 64)]
def encL (n : Int) : List Nat :=
 match n with
 | .ofNat c => encC (bif zX c then c else 65533)
 | .negSucc _ => [239, 191, 189]
def decC (b : Nat) : Bool := Nat.beq (Nat.div b 64) 2
def dec2 (b0 b1 : Nat) : Nat := Nat.add (Nat.mul (Nat.mod b0 32) 64) (Nat.mod b1 64)
def dec3 (b0 b1 b2 : Nat) : Nat := Nat.add (Nat.add (Nat.mul (Nat.mod b0 16) 4096) (Nat.mul (Nat.mod b1 64) 64)) (Nat.mod b2 64)
def dec4 (b0 b1 b2 b3 : Nat) : Nat := Nat.add (Nat.add (Nat.add (Nat.mul (Nat.mod b0 8) 262144) (Nat.mul (Nat.mod b1 64) 4096)) (Nat.mul (Nat.mod b2 64) 64)) (Nat.mod b3 64)
def decL (l : List Nat) : Nat × Nat :=
 match l with
 | [] => (65533, 1)
 | b0 :: r => bif Nat.blt b0 128 then (b0, 1) else
  match r with
  | [] => (65533, 1)
  | b1 :: r1 => bif Nat.beq (Nat.div b0 32) 6 && decC b1 then (bif Nat.ble 128 (dec2 b0 b1) then (dec2 b0 b1, 2) else (65533, 1)) else
   match r1 with
   | [] => (65533, 1)
   | b2 :: r2 => bif Nat.beq (Nat.div b0 16) 14 && decC b1 && decC b2 then (bif Nat.ble 2048 (dec3 b0 b1 b2) && zX (dec3 b0 b1 b2) then (dec3 b0 b1 b2, 3) else (65533, 1)) else
    match r2 with
    | [] => (65533, 1)
    | b3 :: _ => bif Nat.beq (Nat.div b0 8) 30 && decC b1 && decC b2 && decC b3 then (bif Nat.ble 65536 (dec4 b0 b1 b2 b3) && zX (dec4 b0 b1 b2 b3) then (dec4 b0 b1 b2 b3, 4) else (65533, 1)) else (65533, 1)
def vCis (x : AV) : Option AV :=
 match x with
 | .int _ n => some (.str (encL n))
 | _ => none
def vSls (x : AV) (lo hi : Option AV) : Option AV :=
 match x with
 | .str t => match bnd (lenN t) hi (lenN t) with
  | some h => match bnd 0 lo h with
   | some l => some (.str (pW (Nat.sub h l) (ZK l t)))
   | none => none
  | none => none
 | _ => none
def vSlF (esz n : Nat) (ex : Bool) (cs : List AV) (lo hi mx : Option AV) : Option AV :=
 match mx with
 | none => match bnd n hi n with
  | some h => match bnd 0 lo h with
   | some l => some (.lst (Nat.sub h l) (ex && Nat.beq h n) (tkN (Nat.mul (Nat.sub h l) esz) (yw (Nat.mul l esz) cs)))
   | none => none
  | none => none
 | some m => match bnd n (some m) n with
  | some m => match bnd n hi m with
   | some h => match bnd 0 lo h with
    | some l => some (.lst (Nat.sub h l) (Nat.beq h m) (tkN (Nat.mul (Nat.sub h l) esz) (yw (Nat.mul l esz) cs)))
    | none => none
   | none => none
  | none => none
def vCut (id off esz m len : Nat) (lo hi : Option AV) : Option AV :=
 match bnd len hi m with
 | some h => match bnd 0 lo h with
  | some l => some (.sl id (bif Nat.beq m l then off else Nat.add off (Nat.mul l esz)) (Nat.sub h l) (.fix (Nat.sub m l)))
  | none => none
 | none => none
def vSlv (esz : Nat) (x : AV) (lo hi mx : Option AV) : Option AV :=
 match x with
 | .nils => match bnd 0 mx 0 with
  | some _ => match bnd 0 hi 0 with
   | some _ => match bnd 0 lo 0 with
    | some _ => some .nils
    | none => none
   | none => none
  | none => none
 | .sl0 => match mx with
  | none => match bnd 0 hi 0 with
   | some _ => match bnd 0 lo 0 with
    | some _ => some .sl0
    | none => none
   | none => none
  | some _ => none
 | .sl id off len c => match c with
  | .fix c => match bnd c mx c with
   | some m => vCut id off esz m len lo hi
   | none => none
  | .opn e => bif Nat.beq e esz then
    match mx with
    | none => match bnd len hi len with
     | some h => match bnd 0 lo h with
      | some l => bif Nat.beq l 0 then some (.sl id off h (.opn e))
       else bif Nat.blt l len then some (.sl id (Nat.add off (Nat.mul l esz)) (Nat.sub h l) (.opn e))
       else bif Nat.beq h l then some .sl0 else none
      | none => none
     | none => none
    | some mx => match bnd len (some mx) len with
     | some m => vCut id off esz m len lo hi
     | none => none
   else none
 | .lst n ex cs => vSlF esz n ex cs lo hi mx
 | .gr _ e n cs => bif Nat.beq e esz then vSlF esz n false cs lo hi mx else none
 | _ => none
def vSla (n esz : Nat) (x : AV) (lo hi mx : Option AV) : Option AV :=
 match x with
 | .ptr id off => match bnd n mx n with
  | some m => vCut id off esz m n lo hi
  | none => none
 | _ => none
def vFa (off : Nat) (x : AV) : Option AV :=
 match x with
 | .ptr id o => some (.ptr id (Nat.add o off))
 | .gptr g o => some (.gptr g (Nat.add o off))
 | .vp cs => some (.vp (yw off cs))
 | _ => none
def aggO : Option (List AV) → Option AV
 | some l => some (.agg l)
 | none => none
def vFd (off : Nat) (n : Option Nat) (x : AV) : Option AV :=
 match x with
 | .agg cs => match n with
  | none => ux (yw off cs)
  | some n => aggO (cut cs off n)
 | _ => none
def vIa (esz : Nat) (x i : AV) : Option AV :=
 match x with
 | .sl id off len _ => match idx i len with
  | some k => some (.ptr id (Nat.add off (Nat.mul k esz)))
  | none => none
 | .lst n _ cs => match idx i n with
  | some k => some (.vp (yw (Nat.mul k esz) cs))
  | none => none
 | .gr _ e n cs => bif Nat.beq e esz then match idx i n with
   | some k => some (.vp (yw (Nat.mul k esz) cs))
   | none => none
  else none
 | _ => none
def vIaa (n esz : Nat) (x i : AV) : Option AV :=
 match x with
 | .ptr id off => match idx i n with
  | some k => some (.ptr id (Nat.add off (Nat.mul k esz)))
  | none => none
 | .gptr g off => match idx i n with
  | some k => some (.gptr g (Nat.add off (Nat.mul k esz)))
  | none => none
 | .vp cs => match idx i n with
  | some k => some (.vp (yw (Nat.mul k esz) cs))
  | none => none
 | _ => none
def XP : Option Nat → Option AV
 | some b => some (.int .u8 (.ofNat b))
 | none => none
def vIxs (x i : AV) : Option AV :=
 match x with
 | .str t => match i with
  | .int _ (.ofNat i) => XP (getS t i)
  | _ => none
 | _ => none
def zwh (z : AV) (ok : Bool) : Option (Option (Nat × AV)) → Option AV
 | some (some p) => some (bif ok then .tup [p.2, .bool true] else p.2)
 | some none => some (bif ok then .tup [z, .bool false] else z)
 | none => none
def vLk (s : St) (f : FK) (z : AV) (ok : Bool) (m k : AV) : Option AV :=
 match m with
 | .nilm => zwh z ok (some none)
 | .map id => match s.get id with
  | some (.map es _) => zwh z ok (zzn f k es 0)
  | _ => none
 | _ => none
def oMu (s : St) (f : FK) (m k v : AV) : Option (AV × St) :=
 match m with
 | .map id => match s.get id with
  | some (.map es clock) => match zzn f k es 0 with
   | some (some p) => some (xe, s.put id (.map (setK v k es p.1) clock))
   | some none => some (xe, s.put id (.map (es ++ [(k, v, clock)]) (Nat.succ clock)))
   | none => none
  | _ => none
 | _ => none
def oRs (s : St) (x : AV) : Option (AV × St) :=
 match x with
 | .str t => some (.ptr s.next 0, s.alloc (.siter t 0))
 | _ => none
def oNs (s : St) (it : AV) : Option (AV × St) :=
 match it with
 | .ptr id 0 => match s.get id with
  | some (.siter t pos) => match ZK pos t with
   | b :: r => some (.tup [.bool true, .int .i64 (.ofNat pos), .int .i32 (.ofNat (decL (b :: r)).1)], s.put id (.siter t (Nat.add pos (decL (b :: r)).2)))
   | [] => some (.tup [.bool false], s)
  | _ => none
 | _ => none
def vEx (x : AV) (i : Nat) : Option AV :=
 match x with
 | .tup vs => ux (yw i vs)
 | _ => none
def vLen (s : St) (k : LK) (x : AV) : Option AV :=
 match k with
 | .s => match x with
  | .str t => some (.int .i64 (.ofNat (lenN t)))
  | _ => none
 | .v => match x with
  | .nils => some (.int .i64 (.ofNat 0))
  | .sl0 => some (.int .i64 (.ofNat 0))
  | .sl _ _ n _ => some (.int .i64 (.ofNat n))
  | .lst n _ _ => some (.int .i64 (.ofNat n))
  | .gr _ _ n _ => some (.int .i64 (.ofNat n))
  | _ => none
 | .m => match x with
  | .nilm => some (.int .i64 (.ofNat 0))
  | .map id => match s.get id with
   | some (.map es _) => some (.int .i64 (.ofNat (lenN es)))
   | _ => none
  | _ => none
def vCap (x : AV) : Option AV :=
 match x with
 | .nils => some (.int .i64 (.ofNat 0))
 | .sl _ _ _ (.fix n) => some (.int .i64 (.ofNat n))
 | _ => none
def vMn (mx : Bool) : List AV → Option AV
 | v :: r => minV mx v r
 | [] => none
def oCbb (s : St) (x : AV) : Option (AV × St) :=
 match x with
 | .sl id off len c => match s.get id with
  | some (.row e cs ext fz) => some (.sl id off len c, s.put id (.row e cs ext fz))
  | _ => none
 | _ => none
def vCup (s : St) (x : AV) : Option AV :=
 match x with
 | .nilp => some .nilp
 | .ptr id off => match s.get id with
  | some (.row _ cs _ _) => bif Nat.blt off (lenN cs) then some (.ptr id off) else none
  | _ => none
 | _ => none
def memL (e n : Nat) : List (Nat × Nat) → Bool
 | [] => false
 | p :: r => bif Nat.beq p.1 e && Nat.beq p.2 n then true else memL e n r
def vCpu (s : St) (L : List (Nat × Nat)) (x : AV) : Option AV :=
 match x with
 | .nilp => some .nilp
 | .ptr id 0 => match s.get id with
  | some (.row e cs false _) => bif memL e (lenN cs) L then some (.ptr id 0) else none
  | _ => none
 | _ => none
def vUsd (x : AV) : Option AV :=
 match x with
 | .nils => some .nilp
 | .sl id off len c => match c with
  | .fix c => bif Nat.beq c 0 then none else some (.ptr id off)
  | .opn _ => bif Nat.beq len 0 then none else some (.ptr id off)
 | _ => none
def oUst (s : St) (e : Nat) (x n : AV) : Option (AV × St) :=
 match n with
 | .int _ (.ofNat n) => match n with
  | 0 => match x with
   | .nilp => some (.str [], s)
   | .ptr _ _ => some (.str [], s)
   | _ => none
  | Nat.succ m => match x with
   | .ptr id off => match s.get id with
    | some (.row t cs ext _) => bif Nat.beq t e && Nat.blt m 9223372036854775807 then
      match yJ (cut cs off (Nat.succ m)) with
      | some b => some (.str b, s.put id (.row t cs ext true))
      | none => none
     else none
    | _ => none
   | _ => none
 | _ => none
def WP (c : Nat) : List Nat → Nat → Option Nat
 | [], _ => none
 | b :: r, i => bif Nat.beq b c then some i else WP c r (Nat.succ i)
def vIbs (x c : AV) : Option AV :=
 match x with
 | .str t => match c with
  | .int .u8 (.ofNat c) => bif Nat.blt c 256 then match WP c t 0 with
   | some i => some (.int .i64 (.ofNat i))
   | none => some (.int .i64 (.negSucc 0)) else none
  | _ => none
 | _ => none
def v1 (tm : Trie AV) (s : St) (x : Opd) (f : AV → Option AV) : Option (AV × St) :=
 match x.ev tm with
 | some v => ret1 s (f v)
 | none => none
def v2 (tm : Trie AV) (s : St) (x y : Opd) (f : AV → AV → Option AV) : Option (AV × St) :=
 match x.ev tm with
 | some v => match y.ev tm with
  | some w => ret1 s (f v w)
  | none => none
 | none => none
def o1 (tm : Trie AV) (x : Opd) (f : AV → Option (AV × St)) : Option (AV × St) :=
 match x.ev tm with
 | some v => f v
 | none => none
def o2 (tm : Trie AV) (x y : Opd) (f : AV → AV → Option (AV × St)) : Option (AV × St) :=
 match x.ev tm with
 | some v => match y.ev tm with
  | some w => f v w
  | none => none
 | none => none
def o3 (tm : Trie AV) (x y z : Opd) (f : AV → AV → AV → Option (AV × St)) : Option (AV × St) :=
 match x.ev tm with
 | some v => match y.ev tm with
  | some w => match z.ev tm with
   | some u => f v w u
   | none => none
  | none => none
 | none => none
def vs3 (tm : Trie AV) (s : St) (x : Opd) (lo hi : Option Opd) (f : AV → Option AV → Option AV → Option AV) : Option (AV × St) :=
 match x.ev tm with
 | some v => match evO tm lo with
  | some l => match evO tm hi with
   | some h => ret1 s (f v l h)
   | none => none
  | none => none
 | none => none
def vs4 (tm : Trie AV) (s : St) (x : Opd) (lo hi mx : Option Opd) (f : AV → Option AV → Option AV → Option AV → Option AV) : Option (AV × St) :=
 match evO tm mx with
 | some m => vs3 tm s x lo hi (fun v l h => f v l h m)
 | none => none
def vL (tm : Trie AV) (s : St) (l : List Opd) (f : List AV → Option AV) : Option (AV × St) :=
 match evL tm l with
 | some vs => ret1 s (f vs)
 | none => none
def vLL (tm : Trie AV) (s : St) (l m : List Opd) (f : List AV → List AV → Option AV) : Option (AV × St) :=
 match evL tm l with
 | some us => match evL tm m with
  | some vs => ret1 s (f us vs)
  | none => none
 | none => none
def uH (s : St) (e : Nat) (zs : List AV) : Option (AV × St) := some (.ptr s.next 0, s.alloc (.row e zs false false))
def oBox (s : St) (e : Nat) (v : AV) : Option (AV × St) := some (.ptr s.next 0, s.alloc (.row e v.cells false false))
def oBsl (s : St) (e len : Nat) : Option (List AV) → Option (AV × St)
 | some cs => bif s.md && zu cs then some (.lst len true cs, s) else some (.sl s.next 0 len (.fix len), s.alloc (.row e cs false false))
 | none => none
abbrev HF (x : Opd) (_G : Env) (tm : Trie AV) (s : St) : Option (AV × St) := v1 tm s x some
abbrev WG (c : Opd) (a : Opd) (b : Opd) (_G : Env) (tm : Trie AV) (s : St) : Option (AV × St) := ret1 s (ZM (c.ev tm) (a.ev tm) (b.ev tm))
abbrev kO (e : Nat) (zs : List AV) (_G : Env) (_tm : Trie AV) (s : St) : Option (AV × St) := uH s e zs
abbrev UT (e : Nat) (x : Opd) (_G : Env) (tm : Trie AV) (s : St) : Option (AV × St) := o1 tm x (oBox s e)
abbrev Zx (zs : List AV) (ps : List (Nat × Nat × Opd)) (_G : Env) (tm : Trie AV) (s : St) : Option (AV × St) := ret1 s (aggO (wD zs tm ps))
abbrev Up (e : Nat) (zs : List AV) (len : Nat) (ps : List (Nat × Nat × Opd)) (_G : Env) (tm : Trie AV) (s : St) : Option (AV × St) := oBsl s e len (wD zs tm ps)
abbrev QJ (x : Opd) (G : Env) (tm : Trie AV) (s : St) : Option (AV × St) := v1 tm s x (vLd G.globs s)
abbrev UX (n : Nat) (x : Opd) (G : Env) (tm : Trie AV) (s : St) : Option (AV × St) := v1 tm s x (vLdn G.globs s n)
abbrev YW (n : Nat) (x : Opd) (v : Opd) (_G : Env) (tm : Trie AV) (s : St) : Option (AV × St) := o2 tm x v (oSt s n)
abbrev VY (x : Opd) (_G : Env) (tm : Trie AV) (s : St) : Option (AV × St) := v1 tm s x vNck
abbrev V7 (op : BinOp) (x : Opd) (y : Opd) (_G : Env) (tm : Trie AV) (s : St) : Option (AV × St) := v2 tm s x y (vBin op)
abbrev V1 (k : EqK) (neg : Bool) (x : Opd) (y : Opd) (_G : Env) (tm : Trie AV) (s : St) : Option (AV × St) := v2 tm s x y (vEqk k neg)
abbrev HC (op : UnOp) (x : Opd) (_G : Env) (tm : Trie AV) (s : St) : Option (AV × St) := v1 tm s x (vUn op)
abbrev Pm (k : IntKind) (x : Opd) (_G : Env) (tm : Trie AV) (s : St) : Option (AV × St) := v1 tm s x (vCi k)
abbrev VX (e : Nat) (x : Opd) (_G : Env) (tm : Trie AV) (s : St) : Option (AV × St) := o1 tm x (oCsb s e)
abbrev VV (x : Opd) (_G : Env) (tm : Trie AV) (s : St) : Option (AV × St) := o1 tm x (oCbb s)
abbrev Uu (x : Opd) (_G : Env) (tm : Trie AV) (s : St) : Option (AV × St) := v1 tm s x (vCup s)
abbrev Uj (L : List (Nat × Nat)) (x : Opd) (_G : Env) (tm : Trie AV) (s : St) : Option (AV × St) := v1 tm s x (vCpu s L)
abbrev UP (x : Opd) (_G : Env) (tm : Trie AV) (s : St) : Option (AV × St) := v1 tm s x (vCbs s)
abbrev Uo (x : Opd) (_G : Env) (tm : Trie AV) (s : St) : Option (AV × St) := v1 tm s x vCis
abbrev Uk (t : Nat) (x : Opd) (_G : Env) (tm : Trie AV) (s : St) : Option (AV × St) := v1 tm s x (fun v => some (.ifc t v))
abbrev UW (f : Nat) (fst : List Opd) (cap : List Opd) (_G : Env) (tm : Trie AV) (s : St) : Option (AV × St) := vLL tm s fst cap (fun us vs => some (.fn f us vs))
abbrev UU (x : Opd) (lo : Option Opd) (hi : Option Opd) (_G : Env) (tm : Trie AV) (s : St) : Option (AV × St) := vs3 tm s x lo hi vSls
abbrev V5 (esz : Nat) (x : Opd) (lo : Option Opd) (hi : Option Opd) (mx : Option Opd) (_G : Env) (tm : Trie AV) (s : St) : Option (AV × St) := vs4 tm s x lo hi mx (vSlv esz)
abbrev UV (n : Nat) (esz : Nat) (x : Opd) (lo : Option Opd) (hi : Option Opd) (mx : Option Opd) (_G : Env) (tm : Trie AV) (s : St) : Option (AV × St) := vs4 tm s x lo hi mx (vSla n esz)
abbrev zzi (off : Nat) (x : Opd) (_G : Env) (tm : Trie AV) (s : St) : Option (AV × St) := v1 tm s x (vFa off)
abbrev G7 (esz : Nat) (x : Opd) (i : Opd) (_G : Env) (tm : Trie AV) (s : St) : Option (AV × St) := v2 tm s x i (vIa esz)
abbrev US (n : Nat) (esz : Nat) (x : Opd) (i : Opd) (_G : Env) (tm : Trie AV) (s : St) : Option (AV × St) := v2 tm s x i (vIaa n esz)
abbrev Us (x : Opd) (i : Opd) (_G : Env) (tm : Trie AV) (s : St) : Option (AV × St) := v2 tm s x i vIxs
abbrev HV (x : Opd) (_G : Env) (tm : Trie AV) (s : St) : Option (AV × St) := o1 tm x (oRs s)
abbrev GW (it : Opd) (_G : Env) (tm : Trie AV) (s : St) : Option (AV × St) := o1 tm it (oNs s)
abbrev PW (x : Opd) (i : Nat) (_G : Env) (tm : Trie AV) (s : St) : Option (AV × St) := v1 tm s x (fun v => vEx v i)
abbrev zzy (_ : Nat) (_ : List Opd) (_G : Env) (_tm : Trie AV) (_s : St) : Option (AV × St) := none
abbrev zvn (_ : Opd) (_ : List Opd) (_G : Env) (_tm : Trie AV) (_s : St) : Option (AV × St) := none
abbrev Ur (k : LK) (x : Opd) (_G : Env) (tm : Trie AV) (s : St) : Option (AV × St) := v1 tm s x (vLen s k)
abbrev UN (e : Nat) (esz : Nat) (bytes : Nat) (x : Opd) (y : Opd) (_G : Env) (tm : Trie AV) (s : St) : Option (AV × St) := o2 tm x y (appV s e esz bytes)
abbrev Lb (xs : List Opd) (_G : Env) (tm : Trie AV) (s : St) : Option (AV × St) := vL tm s xs (vMn false)
abbrev UF (x : Opd) (_G : Env) (tm : Trie AV) (s : St) : Option (AV × St) := v1 tm s x vUsd
abbrev Uh (e : Nat) (x : Opd) (n : Opd) (_G : Env) (tm : Trie AV) (s : St) : Option (AV × St) := o2 tm x n (oUst s e)
abbrev V6 (x : Opd) (c : Opd) (_G : Env) (tm : Trie AV) (s : St) : Option (AV × St) := v2 tm s x c vIbs
abbrev UG (x : Opd) (_G : Env) (tm : Trie AV) (s : St) : Option (AV × St) := v1 tm s x some
abbrev Uc  (_G : Env) (_tm : Trie AV) (_s : St) : Option (AV × St) := none
noncomputable def opv (G : Env) (op : IOp) (tm : Trie AV) (s : St) : Option (AV × St) :=
 IOp.rec (motive := fun _ => Env → Trie AV → St → Option (AV × St)) HF WG kO UT Zx Up QJ UX YW VY V7 V1 HC Pm VX VV Uu Uj UP Uo Uk UW UU V5 UV zzi G7 US Us HV GW PW zzy zvn Ur UN Lb UF Uh V6 UG Uc op G tm s
def yP (tm : Trie AV) (d : Option Nat) (v : AV) : Trie AV :=
 match d with
 | some i => tm.set i v
 | none => tm
def yN : Trie AV → Nat → List AV → Trie AV
 | tm, _, [] => tm
 | tm, i, v :: r => yN (tm.set i v) (Nat.succ i) r
def v5 : Trie AV → List Nat → List AV → Option (Trie AV)
 | tm, [], [] => some tm
 | tm, p :: ps, v :: vs => v5 (tm.set p v) ps vs
 | _, _, _ => none
def qq (g : Option (Nat × Bool)) (tm : Trie AV) : Option Bool :=
 match g with
 | none => some true
 | some (i, w) => match tm.get i with
  | some (.bool b) => some (b == w)
  | some _ => some false
  | none => none
def resV (G : List (List AV)) (tm : Trie AV) (s : St) : List RV → Option (List AV)
 | [] => some []
 | r :: rest => match (match r with
   | .t i => tm.get i
   | .c1 a => match tm.get a with
    | some p => match xi G s p 1 with
     | some (v :: _) => some v
     | _ => none
    | none => none
   | .cn a n => match tm.get a with
    | some p => match xi G s p n with
     | some cs => some (.agg cs)
     | none => none
    | none => none : Option AV), resV G tm s rest with
  | some v, some vs => some (v :: vs)
  | _, _ => none
def yQ : List AV → AV
 | [v] => v
 | vs => .tup vs
def z8 (s : St) : List Nat → Option St
 | [] => some s
 | d :: r => match s.get d with
  | some .dfd => z8 (s.put d .dfd0) r
  | _ => none
def tPtr : Option AV → Option (List Nat)
 | some (.ptr id _) => some [id]
 | some (.sl id _ _ _) => some [id]
 | some (.map id) => some [id]
 | some _ => some []
 | none => none
def zvR : Option AV → Option (List Nat)
 | some (.ptr id _) => some [id]
 | some (.sl id _ _ _) => some [id]
 | some (.map id) => some [id]
 | some (.gr id _ _ _) => some [id]
 | some _ => some []
 | none => none
def zvv (a b : Option (List Nat)) : Option (List Nat) :=
 match a, b with
 | some a, some b => some (a ++ b)
 | _, _ => none
def yA (op : IOp) (tm : Trie AV) : Option (List Nat) :=
 match op with
 | .ld x | .ldn _ x | .st _ x _ | .len _ x | .cbs x | .cbb x | .cup x | .cpu _ x | .ust _ x _ => tPtr (x.ev tm)
 | .app _ _ _ x y => zvv (zvR (x.ev tm)) (tPtr (y.ev tm))
 | .call _ _ | .cv _ _ | .ns _ => none
 | _ => some []
structure LogE where
 idx : Nat
 lo : Nat
 hi : Nat
 tch : Option (List Nat)
 wm : Nat
def yE (deps : Nat) : List LogE → List (Nat × Nat) → List (Nat × Nat)
 | [], h => h
 | e :: r, h => bif Nat.beq e.lo e.hi || deps.testBit e.idx then yE deps r h else (e.lo, e.hi) :: yE deps r h
def offMask (m : Nat) : Option (List Nat) → Bool
 | none => false
 | some l => go l
 where
 go : List Nat → Bool
 | [] => true
 | a :: r => bif m.testBit a then false else go r
def xK (deps : Nat) (tch : Option (List Nat)) (wm : Nat) : List LogE → Bool
 | [] => true
 | e :: r => bif deps.testBit e.idx then xK deps tch wm r
  else bif (Nat.beq wm 0 || offMask wm e.tch) && (Nat.beq e.wm 0 || offMask e.wm tch) then xK deps tch wm r else false
structure Self where
 call : Nat → List AV → St → Option (AV × St)
 loop : Option Nat → ICode → Fr → St → Option (Res × Fr × St)
 round : Nat → List AV → St → Option (AV × St)
def evCv (S : Self) (x : Option AV) (vs : Option (List AV)) (s : St) : Option (AV × St) :=
 match vs with
 | some vs => match x with
  | some (.fn f a c) => S.call f (a ++ vs ++ c) s
  | some (.yld l) => S.round l vs s
  | _ => none
 | none => none
def evCl (S : Self) (f : Nat) (vs : Option (List AV)) (s : St) : Option (AV × St) :=
 match vs with
 | some vs => S.call f vs s
 | none => none
abbrev Pu (f : Nat) (args : List Opd) (_G : Env) (S : Self) (tm : Trie AV) (s : St) : Option (AV × St) := evCl S f (evL tm args) s
abbrev zva (x : Opd) (args : List Opd) (_G : Env) (S : Self) (tm : Trie AV) (s : St) : Option (AV × St) := evCv S (x.ev tm) (evL tm args) s
abbrev zvi (y0 : Opd) (G : Env) (_S : Self) (tm : Trie AV) (s : St) : Option (AV × St) := HF y0 G tm s
abbrev Lv (y0 : Opd) (y1 : Opd) (y2 : Opd) (G : Env) (_S : Self) (tm : Trie AV) (s : St) : Option (AV × St) := WG y0 y1 y2 G tm s
abbrev Ks (y0 : Nat) (y1 : List AV) (G : Env) (_S : Self) (tm : Trie AV) (s : St) : Option (AV × St) := kO y0 y1 G tm s
abbrev zyj (y0 : Nat) (y1 : Opd) (G : Env) (_S : Self) (tm : Trie AV) (s : St) : Option (AV × St) := UT y0 y1 G tm s
abbrev K4 (y0 : List AV) (y1 : List (Nat × Nat × Opd)) (G : Env) (_S : Self) (tm : Trie AV) (s : St) : Option (AV × St) := Zx y0 y1 G tm s
abbrev zyh (y0 : Nat) (y1 : List AV) (y2 : Nat) (y3 : List (Nat × Nat × Opd)) (G : Env) (_S : Self) (tm : Trie AV) (s : St) : Option (AV × St) := Up y0 y1 y2 y3 G tm s
abbrev zwE (y0 : Opd) (G : Env) (_S : Self) (tm : Trie AV) (s : St) : Option (AV × St) := QJ y0 G tm s
abbrev zxF (y0 : Nat) (y1 : Opd) (G : Env) (_S : Self) (tm : Trie AV) (s : St) : Option (AV × St) := UX y0 y1 G tm s
abbrev zwJ (y0 : Nat) (y1 : Opd) (y2 : Opd) (G : Env) (_S : Self) (tm : Trie AV) (s : St) : Option (AV × St) := YW y0 y1 y2 G tm s
abbrev zxu (y0 : Opd) (G : Env) (_S : Self) (tm : Trie AV) (s : St) : Option (AV × St) := VY y0 G tm s
abbrev zyI (y0 : BinOp) (y1 : Opd) (y2 : Opd) (G : Env) (_S : Self) (tm : Trie AV) (s : St) : Option (AV × St) := V7 y0 y1 y2 G tm s
abbrev zxI (y0 : EqK) (y1 : Bool) (y2 : Opd) (y3 : Opd) (G : Env) (_S : Self) (tm : Trie AV) (s : St) : Option (AV × St) := V1 y0 y1 y2 y3 G tm s
abbrev zwH (y0 : UnOp) (y1 : Opd) (G : Env) (_S : Self) (tm : Trie AV) (s : St) : Option (AV × St) := HC y0 y1 G tm s
abbrev zwL (y0 : IntKind) (y1 : Opd) (G : Env) (_S : Self) (tm : Trie AV) (s : St) : Option (AV × St) := Pm y0 y1 G tm s
abbrev zx4 (y0 : Nat) (y1 : Opd) (G : Env) (_S : Self) (tm : Trie AV) (s : St) : Option (AV × St) := VX y0 y1 G tm s
abbrev zzM (y0 : Opd) (G : Env) (_S : Self) (tm : Trie AV) (s : St) : Option (AV × St) := VV y0 G tm s
abbrev zx3 (y0 : Opd) (G : Env) (_S : Self) (tm : Trie AV) (s : St) : Option (AV × St) := Uu y0 G tm s
abbrev zx7 (y0 : List (Nat × Nat)) (y1 : Opd) (G : Env) (_S : Self) (tm : Trie AV) (s : St) : Option (AV × St) := Uj y0 y1 G tm s
abbrev zy9 (y0 : Opd) (G : Env) (_S : Self) (tm : Trie AV) (s : St) : Option (AV × St) := UP y0 G tm s
abbrev zxB (y0 : Opd) (G : Env) (_S : Self) (tm : Trie AV) (s : St) : Option (AV × St) := Uo y0 G tm s
abbrev zxa (y0 : Nat) (y1 : Opd) (G : Env) (_S : Self) (tm : Trie AV) (s : St) : Option (AV × St) := Uk y0 y1 G tm s
abbrev zyw (y0 : Nat) (y1 : List Opd) (y2 : List Opd) (G : Env) (_S : Self) (tm : Trie AV) (s : St) : Option (AV × St) := UW y0 y1 y2 G tm s
abbrev zyp (y0 : Opd) (y1 : Option Opd) (y2 : Option Opd) (G : Env) (_S : Self) (tm : Trie AV) (s : St) : Option (AV × St) := UU y0 y1 y2 G tm s
abbrev zyz (y0 : Nat) (y1 : Opd) (y2 : Option Opd) (y3 : Option Opd) (y4 : Option Opd) (G : Env) (_S : Self) (tm : Trie AV) (s : St) : Option (AV × St) := V5 y0 y1 y2 y3 y4 G tm s
abbrev zxx (y0 : Nat) (y1 : Nat) (y2 : Opd) (y3 : Option Opd) (y4 : Option Opd) (y5 : Option Opd) (G : Env) (_S : Self) (tm : Trie AV) (s : St) : Option (AV × St) := UV y0 y1 y2 y3 y4 y5 G tm s
abbrev zw1 (y0 : Nat) (y1 : Opd) (G : Env) (_S : Self) (tm : Trie AV) (s : St) : Option (AV × St) := zzi y0 y1 G tm s
abbrev zww (y0 : Nat) (y1 : Opd) (y2 : Opd) (G : Env) (_S : Self) (tm : Trie AV) (s : St) : Option (AV × St) := G7 y0 y1 y2 G tm s
abbrev zyB (y0 : Nat) (y1 : Nat) (y2 : Opd) (y3 : Opd) (G : Env) (_S : Self) (tm : Trie AV) (s : St) : Option (AV × St) := US y0 y1 y2 y3 G tm s
abbrev zyD (y0 : Opd) (y1 : Opd) (G : Env) (_S : Self) (tm : Trie AV) (s : St) : Option (AV × St) := Us y0 y1 G tm s
abbrev zwT (y0 : Opd) (G : Env) (_S : Self) (tm : Trie AV) (s : St) : Option (AV × St) := HV y0 G tm s
abbrev zwz (y0 : Opd) (G : Env) (_S : Self) (tm : Trie AV) (s : St) : Option (AV × St) := GW y0 G tm s
abbrev zwY (y0 : Opd) (y1 : Nat) (G : Env) (_S : Self) (tm : Trie AV) (s : St) : Option (AV × St) := PW y0 y1 G tm s
abbrev zyX (y0 : LK) (y1 : Opd) (G : Env) (_S : Self) (tm : Trie AV) (s : St) : Option (AV × St) := Ur y0 y1 G tm s
abbrev zxq (y0 : Nat) (y1 : Nat) (y2 : Nat) (y3 : Opd) (y4 : Opd) (G : Env) (_S : Self) (tm : Trie AV) (s : St) : Option (AV × St) := UN y0 y1 y2 y3 y4 G tm s
abbrev zwZ (y0 : List Opd) (G : Env) (_S : Self) (tm : Trie AV) (s : St) : Option (AV × St) := Lb y0 G tm s
abbrev zzW (y0 : Opd) (G : Env) (_S : Self) (tm : Trie AV) (s : St) : Option (AV × St) := UF y0 G tm s
abbrev zxZ (y0 : Nat) (y1 : Opd) (y2 : Opd) (G : Env) (_S : Self) (tm : Trie AV) (s : St) : Option (AV × St) := Uh y0 y1 y2 G tm s
abbrev zzS (y0 : Opd) (y1 : Opd) (G : Env) (_S : Self) (tm : Trie AV) (s : St) : Option (AV × St) := V6 y0 y1 G tm s
abbrev zyr (y0 : Opd) (G : Env) (_S : Self) (tm : Trie AV) (s : St) : Option (AV × St) := UG y0 G tm s
abbrev zz4  (G : Env) (_S : Self) (tm : Trie AV) (s : St) : Option (AV × St) := Uc  G tm s
noncomputable def evOp (G : Env) (S : Self) (op : IOp) (tm : Trie AV) (s : St) : Option (AV × St) :=
 IOp.rec (motive := fun _ => Env → Self → Trie AV → St → Option (AV × St)) zvi Lv Ks zyj K4 zyh zwE zxF zwJ zxu zyI zxI zwH zwL zx4 zzM zx3 zx7 zy9 zxB zxa zyw zyp zyz zxx zw1 zww zyB zyD zwT zwz zwY Pu zva zyX zxq zwZ zzW zxZ zzS zyr zz4 op G S tm s
def stS (tm : Trie AV) (d : Option Nat) : Option (AV × St) → Option (Trie AV × St)
 | some p => some (yP tm d p.1, p.2)
 | none => none
def Ko (n : Nat) (p : IOp) : SOper := ⟨some n, p, none⟩
def Kg (n : Nat) (p : IOp) (c : Nat) (b : Bool) : SOper := ⟨some n, p, some (c, b)⟩
def Kn (p : IOp) : SOper := ⟨none, p, none⟩
def Kd (n : Nat) (p : IOp) (m : Nat) : DOper := ⟨⟨some n, p, none⟩, m⟩
def Ke (n : Nat) (p : IOp) (c : Nat) (b : Bool) (m : Nat) : DOper := ⟨⟨some n, p, some (c, b)⟩, m⟩
def Kf (p : IOp) (m : Nat) : DOper := ⟨⟨none, p, none⟩, m⟩
def Ki (n : Nat) : Opd := .c (.int .i64 (.ofNat n))
def qH (G : Env) (S : Self) (o : SOper) (tm : Trie AV) (s : St) : Option (Trie AV × St) :=
 match qq o.guard tm with
 | some true => stS tm o.dst (evOp G S o.op tm s)
 | some false => some (yP tm o.dst xe, s)
 | none => none
def evS (G : Env) (S : Self) : List SOper → Trie AV → St → Option (Trie AV × St)
 | [], tm, s => some (tm, s)
 | o :: r, tm, s => match qH G S o tm s with
  | some p => evS G S r p.1 p.2
  | none => none
def begD (o : DOper) (log : List LogE) (tm : Trie AV) (s : St) : St :=
 { s with hide := yE o.deps log s.hide, only := (yA o.o.op tm).map fun l => (s.next, l), wm := 0 }
def z3 (m n : Nat) : Nat := Nat.mod m (Nat.pow 2 n)
def endD (o : DOper) (i : Nat) (log : List LogE) (tm : Trie AV) (s : St) : Option (AV × St) → Option (List LogE × Trie AV × St)
 | some p => bif xK o.deps (yA o.o.op tm) (z3 p.2.wm s.next) log then
   some ({ idx := i, lo := s.next, hi := p.2.next, tch := yA o.o.op tm, wm := z3 p.2.wm s.next } :: log, yP tm o.o.dst p.1, { p.2 with hide := s.hide, only := s.only, wm := Nat.lor s.wm p.2.wm })
  else none
 | none => none
def qS (G : Env) (S : Self) (o : DOper) (i : Nat) (log : List LogE) (tm : Trie AV) (s : St) : Option (List LogE × Trie AV × St) :=
 match qq o.o.guard tm with
 | some true => endD o i log tm s (evOp G S o.o.op tm (begD o log tm s))
 | some false => some (log, yP tm o.o.dst xe, s)
 | none => none
def evD (G : Env) (S : Self) : List DOper → Nat → List LogE → Trie AV → St → Option (Trie AV × St)
 | [], _, _, tm, s => some (tm, s)
 | o :: r, i, log, tm, s => match qS G S o i log tm s with
  | some p => evD G S r (Nat.succ i) p.1 p.2.1 p.2.2
  | none => none
def xR (df : List Nat) : Option (Trie AV × St) → Option (Res × Fr × St)
 | some p => some (.norm, { tm := p.1, df := df }, p.2)
 | none => none
def xZ (k : Fr → St → Option (Res × Fr × St)) : Option (Res × Fr × St) → Option (Res × Fr × St)
 | some p => match p.1 with
  | .norm => k p.2.1 p.2.2
  | _ => some p
 | none => none
def jy (c : Option AV) (a b : Fr → St → Option (Res × Fr × St)) (fr : Fr) (s : St) : Option (Res × Fr × St) :=
 match c with
 | some (.bool true) => a fr s
 | some (.bool false) => b fr s
 | _ => none
def qo (id : Nat) : Option (Res × Fr × St) → Option (Res × Fr × St)
 | some p => match p.1 with
  | .exit i => bif Nat.beq i id then some (.norm, p.2) else some p
  | _ => some p
 | none => none
def WQ : Option Res → Res
 | none => .norm
 | some r => r
def uz (fr : Fr) (l d : Nat) : Option (AV × St) → Option (Res × Fr × St)
 | some p => match p.2.get l with
  | some (.loop st pend tm ps asg body dd) => match st with
   | .busy => none
   | _ => some (WQ pend, { fr with df := d :: fr.df }, p.2.put l (.loop .exhausted pend tm ps asg body dd))
  | _ => none
 | none => none
def rfR (S : Self) (rd : Option Nat) (g : Option AV) (ps : List Nat) (asg body : ICode) (fr : Fr) (s : St) : Option (Res × Fr × St) :=
 match rd with
 | none => match g with
  | some (.fn f a c) => uz fr (Nat.succ s.next) s.next (S.call f (a ++ .yld (Nat.succ s.next) :: c) ((s.alloc .dfd).alloc (.loop .ready none fr.tm ps asg body s.next)))
  | _ => none
 | some _ => none
def ki (G : Env) (S : Self) (ops : List DOper) (fr : Fr) (s : St) : Option (Res × Fr × St) :=
 match s.only with
 | none => xR fr.df (evD G S ops 0 [] fr.tm s)
 | some _ => none
def delL : List Nat → Trie AV → Trie AV
 | [], tm => tm
 | i :: r, tm => (delL r tm).del i
def ZE : List SOper → List Nat
 | [] => []
 | o :: r => match o.dst with
  | some i => i :: ZE r
  | none => ZE r
def Yf : List DOper → List Nat
 | [] => []
 | o :: r => match o.o.dst with
  | some i => i :: Yf r
  | none => Yf r
def wx : ICode → List Nat
 | .reg l => ZE l
 | .regd l => Yf l
 | .seq a b => wx a ++ wx b
 | _ => []
mutual
def eqW : AV → AV → Bool
 | .bool a, .bool b => a == b
 | .int k n, .int k' m => xW k k' && eqI n m
 | .str a, .str b => eqS a b
 | .nils, .nils => true
 | .nilp, .nilp => true
 | .sl0, .sl0 => true
 | .nilm, .nilm => true
 | .nili, .nili => true
 | .nilf, .nilf => true
 | .ptr i o, .ptr j p => Nat.beq i j && Nat.beq o p
 | .gptr i o, .gptr j p => Nat.beq i j && Nat.beq o p
 | .map i, .map j => Nat.beq i j
 | .sl i o n c, .sl j p m d => Nat.beq i j && Nat.beq o p && Nat.beq n m && (match c, d with
  | .fix x, .fix y => Nat.beq x y
  | .opn x, .opn y => Nat.beq x y
  | _, _ => false)
 | .agg a, .agg b => eqWL a b
 | .lst n e a, .lst m f b => Nat.beq n m && (e == f) && eqWL a b
 | _, _ => false
def eqWL : List AV → List AV → Bool
 | [], [] => true
 | a :: x, b :: y => eqW a b && eqWL x y
 | _, _ => false
end
def eqO : Option AObj → Option AObj → Bool
 | some (.row e cs x f), some (.row e' cs' x' f') => Nat.beq e e' && (x == x') && (f == f') && eqWL cs cs'
 | some (.app e cs), some (.app e' cs') => Nat.beq e e' && eqWL cs cs'
 | none, none => true
 | _, _ => false
def lL (sA sB : St) (i : Nat) (J : Trie AObj) : Trie AObj := bif eqO (sA.objs.get i) (sB.objs.get i) then J else J.del i
def lG (sA sB : St) : Nat → Nat → Trie AObj → Trie AObj
 | 0, _, J => J
 | k + 1, i, J => lG sA sB k (Nat.succ i) (lL sA sB i J)
def ku (sA sB : St) : Nat → Nat → Trie AObj → Option (Trie AObj)
 | 0, m, J => bif Nat.beq m 0 then some J else none
 | k + 1, m, J => bif Nat.beq m 0 then some J else ku sA sB k (Nat.xor m (Nat.shiftLeft 1 (Nat.log2 m))) (lL sA sB (Nat.log2 m) J)
def ZP (s sA sB : St) : Option St :=
 bif Nat.beq sA.next sB.next then
  match ku sA sB 64 (z3 (Nat.lor sA.wm sB.wm) s.next) (lG sA sB (Nat.sub sA.next s.next) s.next sA.objs) with
  | some J => some { objs := J, next := sA.next, wm := Nat.lor s.wm (Nat.lor sA.wm sB.wm), hide := s.hide, only := s.only, md := s.md }
  | none => none
 else none
def gS (L : List Nat) (fr : Fr) (s : St) (x y : Option (Res × Fr × St)) : Option (Res × Fr × St) :=
 match s.only with
 | some _ => none
 | none => match x with
  | some p => match p.1 with
   | .norm => match y with
    | some q => match q.1 with
     | .norm => match ZP s p.2.2 q.2.2 with
      | some s' => some (.norm, { tm := delL L fr.tm, df := fr.df }, s')
      | none => none
     | _ => none
    | none => none
   | _ => none
  | none => none
def evC (G : Env) (S : Self) (rd : Option Nat) : ICode → Fr → St → Option (Res × Fr × St)
 | .skip, fr, s => some (.norm, fr, s)
 | .reg ops, fr, s => xR fr.df (evS G S ops fr.tm s)
 | .regd ops, fr, s => ki G S ops fr s
 | .seq a b, fr, s => xZ (evC G S rd b) (evC G S rd a fr s)
 | .cond c a b, fr, s => jy (c.ev fr.tm) (evC G S rd a) (evC G S rd b) fr s
 | .block id b, fr, s => qo id (evC G S rd b fr s)
 | .loop b, fr, s => xZ (S.loop rd b) (evC G S rd b fr s)
 | .exit id, fr, s => some (.exit id, fr, s)
 | .ret, fr, s => some (.ret, fr, s)
 | .rf g ps asg body, fr, s => rfR S rd (g.ev fr.tm) ps asg body fr s
 | .stk, _, _ => none
 | .both t d a b, fr, s => gS (t :: d :: (wx a ++ wx b)) fr s (evC G S rd a { tm := (fr.tm.del t).set d (.bool true), df := fr.df } { s with wm := 0 }) (evC G S rd b { tm := (fr.tm.del t).set d (.bool false), df := fr.df } { s with wm := 0 })
def resE (G : List (List AV)) (tm : Trie AV) (s : St) (res : List RV) : Option (AV × St) :=
 match resV G tm s res with
 | some vs => some (yQ vs, s)
 | none => none
def we (G : List (List AV)) (res : List RV) : Option (Res × Fr × St) → Option (AV × St)
 | some p => match p.1 with
  | .exit _ => none
  | _ => match z8 p.2.2 p.2.1.df with
   | some s => resE G p.2.1.tm s res
   | none => none
 | none => none
def frz1 (n0 : Nat) : AV → Option AV
 | .gr id esz n cs => bif Nat.ble n0 id then some (.lst n false cs) else some (.gr id esz n cs)
 | .ptr id off => bif Nat.blt id n0 then some (.ptr id off) else none
 | .sl id off len c => bif Nat.blt id n0 then some (.sl id off len c) else none
 | .map id => bif Nat.blt id n0 then some (.map id) else none
 | v => bif zD v then some v else none
def frzL (n0 : Nat) : List AV → Option (List AV)
 | [] => some []
 | v :: r => match frz1 n0 v with
  | some v => match frzL n0 r with
   | some r => some (v :: r)
   | none => none
  | none => none
def frz2 (n0 : Nat) : AV → Option AV
 | .agg cs => match frzL n0 cs with
  | some l => some (.agg l)
  | none => none
 | v => frz1 n0 v
def frzT (n0 : Nat) : List AV → Option (List AV)
 | [] => some []
 | v :: r => match frz2 n0 v with
  | some v => match frzT n0 r with
   | some r => some (v :: r)
   | none => none
  | none => none
def frzA (n0 : Nat) : AV → Option AV
 | .tup vs => match frzT n0 vs with
  | some l => some (.tup l)
  | none => none
 | v => frz2 n0 v
def popR (s : St) : Option (AV × St) → Option (AV × St)
 | some p => match (bif Nat.beq (z3 p.2.wm s.next) 0 then frzA s.next p.1 else none) with
  | some v => some (v, s)
  | none => some (p.1, { p.2 with wm := Nat.lor s.wm p.2.wm, md := s.md })
 | none => none
def mdR (b : Bool) : Option (AV × St) → Option (AV × St)
 | some p => some (p.1, { p.2 with md := b })
 | none => none
def uE (E : Env) (S : Self) (F : IFunc) (args : List AV) (s : St) : Option (AV × St) :=
 we E.globs F.res (evC E S none F.body { tm := yN .leaf 0 args, df := [] } s)
def uw (E : Env) (S : Self) (f : Nat) (args : List AV) (s : St) : Option (AV × St) :=
 match E.funs.get f with
 | some F => bif Nat.ble (lenN args) F.ntmps then
   bif E.pure f then popR s (uE E S F args { s with wm := 0, md := true }) else mdR s.md (uE E S F args { s with md := false })
  else none
 | none => none
def xH (l : Nat) : Option (Res × Fr × St) → Option (AV × St)
 | some p => match p.2.2.get l with
  | some (.loop _ _ tm ps asg body d) => match p.1 with
   | .norm => some (.bool true, p.2.2.put l (.loop .ready none tm ps asg body d))
   | r => some (.bool false, p.2.2.put l (.loop .done (some r) tm ps asg body d))
  | _ => none
 | none => none
def yT (E : Env) (S : Self) (l : Nat) (bd : ICode) : Option (Res × Fr × St) → Option (AV × St)
 | some p => match p.1 with
  | .norm => match p.2.2.get l with
   | some (.loop .ready pend tm ps asg body d) => xH l (evC E S (some l) bd p.2.1 (p.2.2.put l (.loop .busy pend tm ps asg body d)))
   | _ => none
  | _ => none
 | none => none
def x6 (E : Env) (S : Self) (l : Nat) (args : List AV) (s : St) : Option (AV × St) :=
 match s.get l with
 | some (.loop _ _ tm ps asg body _) => match v5 tm ps args with
  | some tm1 => yT E S l body (evC E S (some l) asg { tm := tm1, df := [] } s)
  | none => none
 | _ => none
def ev (E : Env) : Nat → Self
 | 0 => ⟨fun _ _ _ => none, fun _ _ _ _ => none, fun _ _ _ => none⟩
 | n + 1 => ⟨fun f args s => uw E (ev E n) f args s, fun rd b fr s => evC E (ev E n) rd (.loop b) fr s, fun l args s => x6 E (ev E n) l args s⟩
def s0 : St := ⟨.leaf, 0, 0, [], none, false⟩
end
end Go.Proofs.YthcmnajcjapjbaaGreatDoor.Ev
